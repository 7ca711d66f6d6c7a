/- Texts of one proof, put together: U7 F9 FA FB MP L1 LM L2 L3 L5 L6 L7 U8 U9 UQ UR UT UV UW UX W6 W1 W2 W3 Par2 UY UZ V1 V2 W4 W7 W8. -/
import Derived.Test.YtngdpnlgnpdkcaaGreatDoorHWC01
import Derived.Lib.IndexBytes
import Derived.MapKept
import Derived.Maps.OwnSet
import Derived.Lib.SliceRun
import Derived.Carry
import Derived.Maps.AppendAt
import Derived.LaidEql
set_option linter.unusedSimpArgs false
set_option linter.unusedVariables false
namespace Go.Proofs.YtngdpnlgnpdkcaaGreatDoor
open Go Go.RowKit
theorem add_posU (a : Addr) (j : Nat) (h : j ≠ 0) : a.add j = ⟨a.block, a.off + j, none⟩ := by simp [Addr.add, h]
def bad9 (f : PF) : Bool := decide (3 < f.params.length)
def PP.bad2 (P : PP) (f : PF) : Bool := !P.allV f.params || !P.inV f.ret
def bad7 (f : PF) : Bool := dupI f.params
def PP.funsErr (P : PP) : Nat := bif P.funs.any bad9 then 9 else bif P.funs.any P.bad2 then 2 else bif P.funs.any bad7 then 7 else 0
theorem any_at {α : Type} {l : List α} {p : α → Bool} {k : Nat} {x : α} (hx : l[k]? = some x) (hp : p x = true) : l.any p = true := List.any_eq_true.2 ⟨x, List.mem_of_getElem? hx, hp⟩
theorem any_no {α : Type} {l : List α} {p : α → Bool} (h : ∀ j x, j < l.length → l[j]? = some x → p x = false) : l.any p = false :=
 List.any_eq_false.2 fun x hx => by
  obtain ⟨j, hj⟩ := List.getElem?_of_mem hx
  have h3 : j < l.length := by
   rcases Nat.lt_or_ge j l.length with h | h
   ·exact h
   ·rw [List.getElem?_eq_none h] at hj; cases hj
  simp [h j x h3 hj]
theorem all_step {α : Type} {l : List α} {p : α → Bool} {k : Nat} {x : α} (hne : ∀ j t, j < k → l[j]? = some t → p t = false) (hx : l[k]? = some x) (hp : p x = false) : ∀ j t, j < k + 1 → l[j]? = some t → p t = false := fun j t hj ht => by
 by_cases hjk : j = k
 ·subst hjk
  obtain rfl := Option.some.inj (hx.symm.trans ht)
  exact hp
 ·exact hne j t (by omega) ht
theorem FunsR.at {w : World} {n0 : Nat} {a : Option Addr} {n cap : Nat} {l : List PF} (h : FunsR w n0 (.slice a n cap) l) {k : Nat} (hk : k < l.length) : ∃ (y : Addr) (f : PF) (av : Option Addr) (cv : Nat), a = some y ∧ l[k]? = some f ∧ w.cell? (y.add (k * 3)) = some (.string f.name) ∧ w.cell? ⟨(y.add (k * 3)).block, (y.add (k * 3)).off + 1, none⟩ = some (.slice av f.params.length cv) ∧ w.cell? ⟨(y.add (k * 3)).block, (y.add (k * 3)).off + 2, none⟩ = some (.int .i64 f.ret) ∧ IntsR w n0 (.slice av f.params.length cv) f.params := by
 obtain ⟨a', cap', h1, _, _, h4, h5⟩ := h
 obtain ⟨rfl, rfl, rfl⟩ : a = a' ∧ n = l.length ∧ cap = cap' := by simpa using h1
 obtain ⟨y, hy⟩ := h4 (by omega)
 obtain ⟨pv, e0, e1, e2, e3⟩ := (h5 y hy (by omega)).2 k hk (l[k]'hk) (List.getElem?_eq_getElem hk)
 obtain ⟨av, cv, rfl, _⟩ := id e3
 rw [add_posU _ _ (by decide)] at e1 e2
 exact ⟨y, _, av, cv, hy, List.getElem?_eq_getElem hk, e0, e1, e2, e3⟩
theorem StmtsR.at {w : World} {n0 : Nat} {a : Option Addr} {n cap : Nat} {l : List PS} (h : StmtsR w n0 (.slice a n cap) l) {k : Nat} (hk : k < l.length) : ∃ (y : Addr) (s : PS) (av : Option Addr) (cv : Nat), a = some y ∧ l[k]? = some s ∧ w.cell? (y.add (k * 4)) = some (.string s.kind) ∧ w.cell? ⟨(y.add (k * 4)).block, (y.add (k * 4)).off + 1, none⟩ = some (.int .i64 s.x) ∧ w.cell? ⟨(y.add (k * 4)).block, (y.add (k * 4)).off + 2, none⟩ = some (.int .i64 s.y) ∧ w.cell? ⟨(y.add (k * 4)).block, (y.add (k * 4)).off + 3, none⟩ = some (.slice av s.args.length cv) ∧ IntsR w n0 (.slice av s.args.length cv) s.args := by
 obtain ⟨a', cap', h1, _, _, h4, h5⟩ := h
 obtain ⟨rfl, rfl, rfl⟩ : a = a' ∧ n = l.length ∧ cap = cap' := by simpa using h1
 obtain ⟨y, hy⟩ := h4 (by omega)
 obtain ⟨pv, e0, e1, e2, e3, e4⟩ := (h5 y hy (by omega)).2 k hk (l[k]'hk) (List.getElem?_eq_getElem hk)
 obtain ⟨av, cv, rfl, _⟩ := id e4
 rw [add_posU _ _ (by decide)] at e1 e2 e3
 exact ⟨y, _, av, cv, hy, List.getElem?_eq_getElem hk, e0, e1, e2, e3, e4⟩
theorem FunsR.len {w : World} {n0 : Nat} {a : Option Addr} {n cap : Nat} {l : List PF} (h : FunsR w n0 (.slice a n cap) l) : (l.length : Int) ≤ 9223372036854775807 := by
 obtain ⟨_, _, _, h2, h3, _⟩ := h
 omega
theorem StmtsR.len {w : World} {n0 : Nat} {a : Option Addr} {n cap : Nat} {l : List PS} (h : StmtsR w n0 (.slice a n cap) l) : (l.length : Int) ≤ 9223372036854775807 := by
 obtain ⟨_, _, _, h2, h3, _⟩ := h
 omega
set_option maxRecDepth 100000 in
set_option maxHeartbeats 6400000 in
theorem pfuns_any (a1 a2 a3 : Option Addr) (c1 c2 c3 : Nat) (P : PP) (w : World) (n0 : Nat) (ad : Nat → Addr) (hE : ErrsP w ad) (h : FunsR w n0 (.slice a2 P.funs.length c2) P.funs) :
  Calls Tryz.prog 95 #[pval a1 a2 a3 c1 c2 c3 P] w fun e w' => e = .returned (errv (evOf ad) P.funsErr) ∧ Ext w w' := by
 have HF := hid h
 have HE := hid hE
 have hml := h.len
 clear h hE
 obtain ⟨W, hW⟩ : ∃ W, W = w.alloc (.cells (pcells a1 a2 a3 c1 c2 c3 P) 26) := ⟨_, rfl⟩
 have HW : Hid (Ext w W) := hid (by rw [hW]; exact (Ext.refl _).alloc _)
 have HB : Hid (Blk W w.heap.size (pcells a1 a2 a3 c1 c2 c3 P) 26) := hid (by rw [hW]; exact Blk.new _ _ _)
 unfold pval
 unfold pcells at hW
 have HWe := hid hW
 clear hW
 go_enter Tryz.func95, Tryz.ntmps95
 go_wp2
 rw [← HWe.out]
 go_loopw [12] (fun t12 wr => ∃ k : Nat, t12 = .int .i64 (k : Int) ∧ k ≤ P.funs.length ∧ (∀ j f, j < k → P.funs[j]? = some f → bad9 f = false) ∧ Ext W wr) (fun t12 _ => P.funs.length - (intOf t12).toNat)
 case atStart => exact ⟨0, rfl, Nat.zero_le _, fun j t h => by omega, Ext.refl _⟩
 case round =>
  obtain ⟨k, rfl, hk, hne, hx⟩ := hrel
  have Hne := hid hne
  have Hx := hid hx
  clear hne hx
  by_cases hlt : k < P.funs.length
  ·obtain ⟨y, f, av, cv, rfl, hfk, e0, e1, e2, _⟩ := (HF.out.old ((HW.out.trans Hx.out).old n0)).at hlt
   have Hfk := hid hfk
   clear hfk
   have g9 := (HE.out.ext ((HW.out.trans Hx.out).alloc (.cells #[.string f.name, .slice av f.params.length cv, .int .i64 f.ret] 78))).at9
   unfold evOf at g9
   by_cases hb : 3 < f.params.length
   ·have Hb := hid (show bad9 f = true from decide_eq_true hb)
    have Hr := hid (show P.funsErr = 9 by unfold PP.funsErr; rw [any_at Hfk.out Hb.out]; rfl)
    go_wp2
    go_ret
    exact ⟨by rw [Hr.out]; rfl, HW.out.trans (Hx.out.alloc _)⟩
   ·have Hb := hid (show bad9 f = false from decide_eq_false hb)
    go_wp2
    go_roundw
    case rel => exact ⟨k + 1, by go_num, by omega, all_step Hne.out Hfk.out Hb.out, Hx.out.alloc _⟩
    case measure => simp [intOf]; omega
  ·obtain rfl : k = P.funs.length := by omega
   have H9 := hid (show P.funs.any bad9 = false from any_no Hne.out)
   clear Hne
   have d0 := (HB.out.ext Hx.out).av 0 rfl
   have d1 := (HB.out.ext Hx.out).av 1 rfl
   have d2 := (HB.out.ext Hx.out).av 2 rfl
   simp only [pcells, qA0, qA1, qA2] at d0 d1 d2
   go_wp2
   clear d0 d1 d2
   generalize wr = wA at *
   have HxA := Hx
   clear Hx
   go_loopw [25] (fun t25 wr => ∃ k : Nat, t25 = .int .i64 (k : Int) ∧ k ≤ P.funs.length ∧ (∀ j f, j < k → P.funs[j]? = some f → P.bad2 f = false) ∧ Ext W wr) (fun t25 _ => P.funs.length - (intOf t25).toNat)
   case atStart => exact ⟨0, rfl, Nat.zero_le _, fun j t h => by omega, HxA.out⟩
   case round =>
    obtain ⟨k, rfl, hk, hne, hx⟩ := hrel
    have Hne := hid hne
    have Hx := hid hx
    clear hne hx HxA
    have d0 := (HB.out.ext Hx.out).av 0 rfl
    have d1 := (HB.out.ext Hx.out).av 1 rfl
    have d2 := (HB.out.ext Hx.out).av 2 rfl
    simp only [pcells, qA0, qA1, qA2] at d0 d1 d2
    by_cases hlt : k < P.funs.length
    ·obtain ⟨y, f, av, cv, rfl, hfk, e0, e1, e2, hI⟩ := (HF.out.old ((HW.out.trans Hx.out).old n0)).at hlt
     have Hfk := hid hfk
     obtain ⟨W3, hW3⟩ : ∃ W3, W3 = wr.alloc (.cells #[.string f.name, .slice av f.params.length cv, .int .i64 f.ret] 78) := ⟨_, rfl⟩
     have hx3 : Ext wr W3 := by rw [hW3]; exact (Ext.refl _).alloc _
     have HB3 : Hid (Blk W3 wr.heap.size #[.string f.name, .slice av f.params.length cv, .int .i64 f.ret] 78) := hid (by rw [hW3]; exact Blk.new _ _ _)
     have HV := hid (pvars_any a1 (some y) a3 c1 c2 c3 P _ f.params W3 n0 (hI.old (hx3.old n0)))
     unfold pval at HV
     have Hx3 := hid (Hx.out.trans hx3)
     have HW3 := hid hW3
     have q0 := (HB.out.ext Hx3.out).av 0 rfl
     have q1 := (HB.out.ext Hx3.out).av 1 rfl
     have q2 := (HB.out.ext Hx3.out).av 2 rfl
     simp only [pcells, qA0, qA1, qA2] at q0 q1 q2
     rw [hW3] at q0 q1 q2
     clear hfk hI hW3 hx3
     go_wp2_with fail
     rw [← HW3.out]
     refine HV.out.mono ?_
     intro e w4 hx4
     obtain ⟨rfl, hx4⟩ := hx4
     have Hx4 := hid (Hx3.out.trans hx4)
     have HB4 := hid (HB3.out.ext hx4)
     clear HV hx4 d0 d1 d2 q0 q1 q2
     have d0 := (HB.out.ext Hx4.out).av 0 rfl
     have d1 := (HB.out.ext Hx4.out).av 1 rfl
     have d2 := (HB.out.ext Hx4.out).av 2 rfl
     have m0 := HB4.out.av 0 rfl
     have m1 := HB4.out.av 1 rfl
     have m2 := HB4.out.av 2 rfl
     simp only [pcells, qA0, qA1, qA2] at d0 d1 d2 m0 m1 m2
     have g2 := (HE.out.ext (HW.out.trans Hx4.out)).at2
     unfold evOf at g2
     cases hA : P.allV f.params with
     | false =>
      have Hb := hid (show P.bad2 f = true by unfold PP.bad2; rw [hA]; rfl)
      have Hr := hid (show P.funsErr = 2 by unfold PP.funsErr; rw [H9.out, any_at Hfk.out Hb.out]; rfl)
      go_wp2
      go_ret
      exact ⟨by rw [Hr.out]; rfl, HW.out.trans Hx4.out⟩
     | true =>
      have HA := hid hA
      have HV2 := hid (pvars_one a1 (some y) a3 c1 c2 c3 P f.ret w4)
      clear hA g2
      go_wp2_with fail
      refine HV2.out.mono ?_
      intro e w5 hx5
      obtain ⟨rfl, hx5⟩ := hx5
      have Hx5 := hid (Hx4.out.trans hx5)
      have g2 := (HE.out.ext (HW.out.trans Hx5.out)).at2
      unfold evOf at g2
      clear HV2 hx5 d0 d1 d2 m0 m1 m2
      cases hA2 : P.inV f.ret with
      | false =>
       have Hb := hid (show P.bad2 f = true by unfold PP.bad2; rw [hA2]; simp)
       have Hr := hid (show P.funsErr = 2 by unfold PP.funsErr; rw [H9.out, any_at Hfk.out Hb.out]; rfl)
       go_wp2
       go_ret
       exact ⟨by rw [Hr.out]; rfl, HW.out.trans Hx5.out⟩
      | true =>
       have Hb := hid (show P.bad2 f = false by unfold PP.bad2; rw [HA.out, hA2]; rfl)
       clear hA2 g2
       go_wp2
       go_roundw
       case rel => exact ⟨k + 1, by go_num, by omega, all_step Hne.out Hfk.out Hb.out, Hx5.out⟩
       case measure => simp [intOf]; omega
    ·obtain rfl : k = P.funs.length := by omega
     have H2 := hid (show P.funs.any P.bad2 = false from any_no Hne.out)
     clear Hne
     go_wp2
     clear d0 d1 d2
     generalize wr = wA at *
     have HxA := Hx
     clear Hx
     go_loopw [47] (fun t47 wr => ∃ k : Nat, t47 = .int .i64 (k : Int) ∧ k ≤ P.funs.length ∧ (∀ j f, j < k → P.funs[j]? = some f → bad7 f = false) ∧ Ext W wr) (fun t47 _ => P.funs.length - (intOf t47).toNat)
     case atStart => exact ⟨0, rfl, Nat.zero_le _, fun j t h => by omega, HxA.out⟩
     case round =>
      obtain ⟨k, rfl, hk, hne, hx⟩ := hrel
      have Hne := hid hne
      have Hx := hid hx
      clear hne hx HxA
      by_cases hlt : k < P.funs.length
      ·obtain ⟨y, f, av, cv, rfl, hfk, e0, e1, e2, hI⟩ := (HF.out.old ((HW.out.trans Hx.out).old n0)).at hlt
       have Hfk := hid hfk
       have HT := hid (twice_any _ f.params (wr.alloc (.cells #[.string f.name, .slice av f.params.length cv, .int .i64 f.ret] 78)) n0 (hI.old (((Ext.refl wr).alloc _).old n0)))
       have g7 := (HE.out.ext ((HW.out.trans Hx.out).alloc (.cells #[.string f.name, .slice av f.params.length cv, .int .i64 f.ret] 78))).at7
       unfold evOf at g7
       clear hfk hI
       go_wp2_with fail
       refine HT.out.mono ?_
       intro e w2 hx2
       obtain ⟨rfl, rfl⟩ := hx2
       clear HT
       cases hb : dupI f.params with
       | true =>
        have Hb := hid (show bad7 f = true from hb)
        clear hb
        have Hr := hid (show P.funsErr = 7 by unfold PP.funsErr; rw [H9.out, H2.out, any_at Hfk.out Hb.out]; rfl)
        go_wp2
        go_ret
        exact ⟨by rw [Hr.out]; rfl, HW.out.trans (Hx.out.alloc _)⟩
       | false =>
        have Hb := hid (show bad7 f = false from hb)
        clear hb
        go_wp2
        go_roundw
        case rel => exact ⟨k + 1, by go_num, by omega, all_step Hne.out Hfk.out Hb.out, Hx.out.alloc _⟩
        case measure => simp [intOf]; omega
      ·obtain rfl : k = P.funs.length := by omega
       have H7 := hid (show P.funs.any bad7 = false from any_no Hne.out)
       have Hr := hid (show P.funsErr = 0 by unfold PP.funsErr; rw [H9.out, H2.out, H7.out]; rfl)
       go_wp2
       go_ret
       exact ⟨by rw [Hr.out]; rfl, HW.out.trans Hx.out⟩
def icells (l : List Int) : List Value := l.map fun n => Value.int .i64 n
theorem ints_info : (Tryz.prog.info? 3).map (fun i => (i.zero, i.size, i.bytes)) = some (some (.int .i64 0), 1, 8) := by kernel_rfl
def IRow (base : Nat) (w : World) (v : Value) (l : List Int) : Prop := w.ownsRow base 3 1 v l.length (icells l)
theorem icells_append (l m : List Int) : icells (l ++ m) = icells l ++ icells m := by simp [icells]
theorem icells_one {l : List Int} : ∀ u ∈ icells l, u.oneCell' = true := by
 intro u hu
 simp only [icells, List.mem_map] at hu
 obtain ⟨b, _, rfl⟩ := hu
 rfl
theorem IRow.ext {base : Nat} {w w' : World} {v : Value} {l : List Int} (h : IRow base w v l) (x : Ext w w') : IRow base w' v l := own_ext h x
theorem IRow.keep {base : Nat} {X : Nat → Prop} {w w' : World} {v : Value} {l : List Int} (h : IRow base w v l) (k : Keep X w w') (hx : ∀ b, v.ownBlock = some b → ¬ X b) : IRow base w' v l := by
 obtain ⟨h1, h2⟩ := h
 refine ⟨h1, h2.imp id ?_⟩
 rintro ⟨g, cap, cur, rfl, hb, hg, h3⟩
 exact ⟨g, cap, cur, rfl, hb, Keep.get k hg (hx g rfl), h3⟩
theorem IRow.nil (base : Nat) (w : World) : IRow base w (.slice none 0 0) [] := World.ownsRow_nil _ _ _ _
theorem IRow.lt {base : Nat} {w : World} {v : Value} {l : List Int} (h : IRow base w v l) {b : Nat} (hb : v.ownBlock = some b) : base ≤ b ∧ b < w.heap.size := World.ownsRow.lt h b hb
theorem IRow.form {base : Nat} {w : World} {v : Value} {l : List Int} (h : IRow base w v l) : ∃ a cap, v = .slice a l.length cap := by
 rcases h.2 with ⟨h2, h3⟩ | ⟨g, cap, cur, h2, _⟩
 ·exact ⟨none, 0, by rw [h2, h3]⟩
 ·exact ⟨_, _, h2⟩
theorem IRow.ints {base : Nat} {w : World} {a : Option Addr} {n cap : Nat} {l : List Int} (h : IRow base w (.slice a n cap) l) (hi : ∀ i, l.getD i 0 ≤ 9223372036854775807) : Ints w a l.length l := by
 refine ⟨rfl, ?_, ?_, hi⟩
 ·intro hp
  rcases h.2 with ⟨h2, h3⟩ | ⟨g, cap, cur, h2, _⟩
  ·omega
  ·simp only [Value.slice.injEq] at h2; exact ⟨_, h2.1⟩
 ·intro x hx i hil
  rcases h.2 with ⟨h2, h3⟩ | ⟨g, cap, cur, h2, hb, hg, hnc, _, hcs, htake⟩
  ·omega
  ·simp only [Value.slice.injEq] at h2
   obtain ⟨rfl, _, _⟩ := h2
   obtain rfl := Option.some.inj hx
   have hc : Blk w g cur 3 := hg
   rw [show (⟨g, 0, none⟩ : Addr).add i = ⟨g, i, none⟩ from by by_cases h0 : i = 0 <;> simp [Addr.add, h0], hc.cell i]
   have h2 : cur[i]? = (icells l)[i]? := by
    rw [← htake, List.getElem?_take, if_pos (by omega)]
    simp
   rw [h2]
   simp only [icells, List.getElem?_map, List.getElem?_eq_getElem hil, Option.map_some, List.getD_eq_getElem?_getD, Option.getD_some]
def nm (s : ByteArray) (k : Nat) : List Int := (List.range k).map fun i => (four s (8 + 4 * i) : Int)
def DecR (s : ByteArray) (ev : Nat → Value) (w : World) : Ending → World → Prop := fun e w' =>
 if (frOf s).code = 0 then ∃ a cap, e = .returned (.tuple #[frv (frOf s) a cap, .nilIface]) ∧ Ints w' a (frOf s).nums.length (frOf s).nums ∧ Ext w w'
 else e = .returned (.tuple #[fr0, ev (frOf s).code]) ∧ Ext w w'
theorem DecR.yes {s : ByteArray} {ev : Nat → Value} {w w' : World} {b0 : UInt8} {fr to seq : Int} {nums : List Int} {n cap : Nat} {a : Option Addr} (hf : frOf s = ⟨b0, fr, to, seq, nums⟩) (hl : nums.length = n) (hc : Fr.code ⟨b0, fr, to, seq, nums⟩ = 0) (hi : Ints w' a n nums) (hx : Ext w w') :
  DecR s ev w (.returned (.tuple #[.agg #[.int .u8 (b0.toNat : Int), .int .i64 fr, .int .i64 to, .int .i64 seq, .slice a n cap], .nilIface])) w' := by
 subst hl
 unfold DecR
 rw [hf, if_pos hc]
 exact ⟨a, cap, rfl, hi, hx⟩
theorem DecR.no {s : ByteArray} {ev : Nat → Value} {w w' : World} {f : Fr} {v : Value} (hf : frOf s = f) (hc : f.code ≠ 0) (hv : v = ev f.code) (hx : Ext w w') : DecR s ev w (.returned (.tuple #[fr0, v])) w' := by
 unfold DecR
 rw [hf, if_neg hc, hv]
 exact ⟨rfl, hx⟩
theorem IRow.base {base b2 : Nat} {w : World} {v : Value} {l : List Int} (h : IRow base w v l) (hb : b2 ≤ base) : IRow b2 w v l := by
 obtain ⟨h1, h2⟩ := h
 refine ⟨h1, h2.imp id ?_⟩
 rintro ⟨g, cap, cur, rfl, hg, h3⟩
 exact ⟨g, cap, cur, rfl, Nat.le_trans hb hg, h3⟩
end Go.Proofs.YtngdpnlgnpdkcaaGreatDoor
namespace Go.Proofs.YtngdpnlgnpdkcaaGreatDoor
open Go Go.RowKit Go.MapKept
def MapAt (w : World) (b : Nat) (m : List (Int × Value)) : Prop := ∃ es clock, w.heap[b]? = some (.map es clock) ∧ es.toList.map (fun x => (x.key, x.val)) = m.map fun x => (Value.int .i64 x.1, x.2)
def mfind (m : List (Int × Value)) (k : Int) (i : Nat) : Option (Nat × Value) := match m with
 | [] => none
 | x :: r => if k == x.1 then some (i, x.2) else mfind r k (i + 1)
def mval (m : List (Int × Value)) (k : Int) : Option Value := (mfind m k 0).map (·.2)
theorem MapAt.ext {w w' : World} {b : Nat} {m : List (Int × Value)} (h : MapAt w b m) (x : Ext w w') : MapAt w' b m := by
 obtain ⟨es, c, hb, he⟩ := h
 exact ⟨es, c, Ext.get x hb, he⟩
theorem MapAt.keep {X : Nat → Prop} {w w' : World} {b : Nat} {m : List (Int × Value)} (h : MapAt w b m) (x : Keep X w w') (hx : ¬ X b) : MapAt w' b m := by
 obtain ⟨es, c, hb, he⟩ := h
 exact ⟨es, c, Keep.get x hb hx, he⟩
theorem MapAt.lt {w : World} {b : Nat} {m : List (Int × Value)} (h : MapAt w b m) : b < w.heap.size := by
 obtain ⟨es, c, hb, he⟩ := h
 exact (Array.getElem?_eq_some_iff.1 hb).1
theorem MapAt.ne {w : World} {b g : Nat} {m : List (Int × Value)} (h : MapAt w b m) {c : Array Value} {e : TypeId} (hb : Blk w g c e) : g ≠ b := by
 rintro rfl
 obtain ⟨es, c, h1, _⟩ := h
 have := h1.symm.trans hb
 cases this
theorem MapAt.new (w : World) : MapAt (w.alloc (.map #[] 0)) w.heap.size [] := ⟨#[], 0, heap_alloc_new w _, rfl⟩
section
variable {P : Program} {w : World} {t kt et : TypeId} {b : Nat} {m : List (Int × Value)}
theorem map_setBlock {es : Array MapEntry} {c : Nat} (hb : w.heap[b]? = some (.map es c)) (o : Obj) : Keep (fun k => k = b) w { w with heap := w.heap.setIfInBounds b o } :=
 ⟨rfl, rfl, rfl, by simp, fun k hk hx => (heap_set (o' := o) hb).2 k hx⟩
variable {ops : Array Oper} {Q : Exit → Act → World → Prop} {rest : List Oper} {o : Oper} {a : Act}
end
end Go.Proofs.YtngdpnlgnpdkcaaGreatDoor
namespace Go.Proofs.YtngdpnlgnpdkcaaGreatDoor
open Go Go.RowKit
section
variable {w : World} {base : Nat} {e : TypeId} {size g n cap : Nat} {xs : List Value}
theorem own_blk (h : w.ownsRow base e size (.slice (some ⟨g, 0, none⟩) n cap) n xs) : ∃ cur, Blk w g cur e ∧ base ≤ g ∧ n ≤ cap ∧ cap ≤ maxLen ∧ cur.size = cap * size ∧ cur.toList.take (n * size) = xs := by
 rcases h.2 with ⟨h1, _⟩ | ⟨g', cap', cur, h1, h2, h3, h4, h5, h6, h7⟩
 ·cases h1
 ·simp only [Value.slice.injEq, Option.some.injEq, Addr.mk.injEq, and_true] at h1
  obtain ⟨rfl, _, rfl⟩ := h1
  exact ⟨cur, h3, h2, h4, h5, h6, h7⟩
theorem own_of_blk {cur : Array Value} (hb : Blk w g cur e) (h2 : base ≤ g) (h4 : n ≤ cap) (h5 : cap ≤ maxLen) (h6 : cur.size = cap * size) (h7 : cur.toList.take (n * size) = xs) : w.ownsRow base e size (.slice (some ⟨g, 0, none⟩) n cap) n xs := by
 refine ⟨?_, .inr ⟨g, cap, cur, rfl, h2, hb, h4, h5, h6, h7⟩⟩
 rw [← h7, List.length_take, Array.length_toList, h6]
 exact Nat.min_eq_left (Nat.mul_le_mul_right _ h4)
theorem own_get (h : w.ownsRow base e size (.slice (some ⟨g, 0, none⟩) n cap) n xs) (i : Nat) {u : Value} (hu : xs[i]? = some u) : w.cell? ⟨g, i, none⟩ = some u := by
 have := h.cells (g := g) rfl i u hu
 rwa [show (⟨g, 0, none⟩ : Addr).add i = ⟨g, i, none⟩ from by by_cases h0 : i = 0 <;> simp [Addr.add, h0]] at this
theorem own_free (h : w.ownsRow base e size (.slice (some ⟨g, 0, none⟩) n cap) n xs) (i : Nat) : w.frozen? ⟨g, i, none⟩ = false := by
 obtain ⟨cur, hb, _⟩ := own_blk h
 exact hb.free i
theorem own_set (h : w.ownsRow base e size (.slice (some ⟨g, 0, none⟩) n cap) n xs) (i : Nat) (hi : i < xs.length) (v : Value) : (w.setCell ⟨g, i, none⟩ v).ownsRow base e size (.slice (some ⟨g, 0, none⟩) n cap) n (xs.set i v) := by
 obtain ⟨cur, hb, h2, h4, h5, h6, h7⟩ := own_blk h
 refine own_of_blk (hb.set i v) h2 h4 h5 (by simpa using h6) ?_
 rw [Array.toList_setIfInBounds, List.take_set, h7]
theorem row_form {v : Value} (h : w.ownsRow base e size v n xs) : ∃ a c, v = .slice a n c := by
 rcases h.2 with ⟨h2, h3⟩ | ⟨g, cap, cur, h2, _⟩
 ·exact ⟨none, 0, by rw [h2, h3]⟩
 ·exact ⟨_, _, h2⟩
theorem row_keep {w' : World} {v : Value} {X : Nat → Prop} (h : w.ownsRow base e size v n xs) (k : Keep X w w') (hx : ∀ i, v.ownBlock = some i → ¬ X i) : w'.ownsRow base e size v n xs := by
 obtain ⟨h1, h2⟩ := h
 refine ⟨h1, h2.imp id ?_⟩
 rintro ⟨g, cap, cur, rfl, hb, hg, h3⟩
 exact ⟨g, cap, cur, rfl, hb, Keep.get k hg (hx g rfl), h3⟩
theorem own_some {v : Value} (h : w.ownsRow base e size v n xs) (hn : 0 < n) : ∃ g cap, v = .slice (some ⟨g, 0, none⟩) n cap := by
 rcases h.2 with ⟨_, h1⟩ | ⟨g', cap', cur, h1, _⟩
 ·omega
 ·exact ⟨g', cap', h1⟩
theorem own_ty {v : Value} (h : w.ownsRow base e size v n xs) {k : Nat} (hk : v.ownBlock = some k) : ∃ c, Blk w k c e := by
 rcases h.2 with ⟨rfl, _⟩ | ⟨g, cap, cur, rfl, _, hg, _⟩
 ·simp [Value.ownBlock] at hk
 ·simp only [Value.ownBlock, Option.some.injEq] at hk
  subst hk
  exact ⟨cur, hg⟩
end
theorem Blk.inj {w : World} {b : Nat} {c c' : Array Value} {e e' : TypeId} (h : Blk w b c e) (h' : Blk w b c' e') : c = c' ∧ e = e' := by
 unfold Blk at h h'
 rw [h] at h'
 simp only [Option.some.injEq, Obj.cells.injEq, and_true] at h'
 exact h'
theorem Blk.ty_ne {w : World} {a b : Nat} {c c' : Array Value} {e e' : TypeId} (h : Blk w a c e) (h' : Blk w b c' e') (hne : e ≠ e') : a ≠ b := fun q => hne (by subst q; exact (h.inj h').2)
theorem fm_len {α : Type} (f : α → List Value) (m : Nat) (hf : ∀ x, (f x).length = m) (l : List α) : (l.flatMap f).length = l.length * m := by
 induction l with
 | nil => simp
 | cons x l ih => simp only [List.flatMap_cons, List.length_append, hf, ih, List.length_cons, Nat.add_mul]; omega
theorem fm_get {α : Type} (f : α → List Value) (m : Nat) (hf : ∀ x, (f x).length = m) : ∀ (l : List α) (i j : Nat) (x : α), l[i]? = some x → j < m → (l.flatMap f)[i * m + j]? = (f x)[j]?
 | [], i, j, x, h, _ => by simp at h
 | y :: l, 0, j, x, h, hj => by
  simp only [List.getElem?_cons_zero, Option.some.injEq] at h
  subst h
  rw [List.flatMap_cons, Nat.zero_mul, Nat.zero_add, List.getElem?_append_left (by rw [hf]; exact hj)]
 | y :: l, i + 1, j, x, h, hj => by
  have ih := fm_get f m hf l i j x (by simpa using h) hj
  rw [List.flatMap_cons, List.getElem?_append_right (by rw [hf, Nat.add_mul]; omega), hf, ← ih]
  congr 1
  rw [Nat.add_mul]; omega
theorem fm_take {α : Type} (f : α → List Value) (m : Nat) (hf : ∀ x, (f x).length = m) : ∀ (l : List α) (k : Nat), (l.flatMap f).take (k * m) = (l.take k).flatMap f
 | l, 0 => by simp
 | [], k + 1 => by simp
 | y :: l, k + 1 => by
  rw [List.take_succ_cons, List.flatMap_cons, List.flatMap_cons, List.take_append, hf, List.take_of_length_le (by rw [hf, Nat.add_mul]; omega), ← fm_take f m hf l k]
  congr 2
  rw [Nat.add_mul]; omega
theorem fm_drop {α : Type} (f : α → List Value) (m : Nat) (hf : ∀ x, (f x).length = m) : ∀ (l : List α) (k : Nat), (l.flatMap f).drop (k * m) = (l.drop k).flatMap f
 | l, 0 => by simp
 | [], k + 1 => by simp
 | y :: l, k + 1 => by
  rw [List.drop_succ_cons, List.flatMap_cons, List.drop_append, hf, List.drop_of_length_le (by rw [hf, Nat.add_mul]; omega), ← fm_drop f m hf l k, List.nil_append]
  congr 1
  rw [Nat.add_mul]; omega
def IsInt (w : World) (b : Nat) : Prop := ∃ c z, w.heap[b]? = some (.cells c 3 z)
theorem IsInt.keep {X : Nat → Prop} {w w' : World} {b : Nat} (h : IsInt w b) (k : Keep X w w') (hx : ¬ X b) : IsInt w' b := by
 obtain ⟨c, z, h⟩ := h
 exact ⟨c, z, Keep.get k h hx⟩
theorem IsInt.not {w : World} {b : Nat} {c : Array Value} {e : TypeId} (h : Blk w b c e) (hne : e ≠ 3) : ¬ IsInt w b := by
 rintro ⟨c', z, h'⟩
 unfold Blk at h
 rw [h] at h'
 simp only [Option.some.injEq, Obj.cells.injEq] at h'
 exact hne h'.2.1
structure NumsAt (w : World) (n0 : Nat) (t : Option Nat) (v : Value) (l : List Int) : Prop where
 form : ∃ a cap, v = .slice a l.length cap ∧ Ints w a l.length l ∧ ∀ x, a = some x → 0 < l.length → x.block < n0 ∨ (IsInt w x.block ∧ t ≠ some x.block)
def Wr (w : World) (n0 : Nat) (t : Option Nat) (X : Nat → Prop) : Prop := ∀ b, X b → b < w.heap.size → n0 ≤ b ∧ (IsInt w b → t = some b)
theorem Ints.keep {X : Nat → Prop} {w w' : World} {a : Option Addr} {len : Nat} {vs : List Int} (h : Ints w a len vs) (k : Keep X w w') (hx : ∀ x, a = some x → 0 < len → ¬ X x.block) : Ints w' a len vs :=
 ⟨h.ln, h.sm, fun y hy i hi => k.cellx (h.cl y hy i hi) (by rw [add_block]; exact hx y hy (by omega)), h.hi⟩
theorem Ints.blt {w : World} {a : Option Addr} {len : Nat} {vs : List Int} (h : Ints w a len vs) {x : Addr} (hx : a = some x) (hl : 0 < len) : x.block < w.heap.size := by
 have := cell_lt (h.cl x hx 0 hl)
 rwa [add_block] at this
section
variable {w w' : World} {n0 : Nat} {t : Option Nat} {v : Value} {l : List Int}
theorem NumsAt.keep {X : Nat → Prop} (h : NumsAt w n0 t v l) (k : Keep X w w') (hx : Wr w n0 t X) : NumsAt w' n0 t v l := by
 obtain ⟨a, cap, rfl, hi, hb⟩ := h
 have hne : ∀ x, a = some x → 0 < l.length → ¬ X x.block := fun x hx' hl hX => by
  obtain ⟨h1, h2⟩ := hx _ hX (hi.blt hx' hl)
  rcases hb x hx' hl with h3 | h3
  ·omega
  ·exact h3.2 (h2 h3.1)
 exact ⟨a, cap, rfl, hi.keep k hne, fun x hx' hl => (hb x hx' hl).imp id fun h => ⟨h.1.keep k (hne x hx' hl), h.2⟩⟩
theorem Wr.none {w : World} {n0 : Nat} {t : Option Nat} : Wr w n0 t fun _ => False := fun _ h => h.elim
theorem NumsAt.ext (h : NumsAt w n0 t v l) (x : Ext w w') : NumsAt w' n0 t v l := h.keep (x.keep fun _ => False) Wr.none
theorem NumsAt.turn (h : NumsAt w n0 t v l) {t' : Option Nat} (ht : ∀ b, t' = some b → t = some b ∨ w.heap.size ≤ b) : NumsAt w n0 t' v l := by
 obtain ⟨a, cap, rfl, hi, hb⟩ := h
 refine ⟨a, cap, rfl, hi, fun x hx hl => (hb x hx hl).imp id fun h => ⟨h.1, fun e => ?_⟩⟩
 rcases ht _ e with h1 | h1
 ·exact h.2 h1
 ·have := hi.blt hx hl; omega
theorem NumsAt.of_row {base : Nat} (h : IRow base w v l) (hi : ∀ i, l.getD i 0 ≤ 9223372036854775807) (ht : ∀ b, v.ownBlock = some b → t ≠ some b) : NumsAt w n0 t v l := by
 obtain ⟨a, cap, rfl⟩ := h.form
 refine ⟨a, cap, rfl, h.ints hi, fun x hx hl => .inr ⟨?_, ht _ (by subst hx; rfl)⟩⟩
 subst hx
 obtain ⟨c, hc⟩ := own_ty (show w.ownsRow base 3 1 _ l.length (icells l) from h) (k := x.block) rfl
 exact ⟨c, _, hc⟩
theorem NumsAt.hi (h : NumsAt w n0 t v l) : ∀ i, l.getD i 0 ≤ 9223372036854775807 := by
 obtain ⟨a, cap, rfl, hi, hb⟩ := h
 exact hi.hi
end
structure FV where
 f : Fr
 v : Value
def FV.cells (x : FV) : List Value := [.int .u8 (x.f.kind.toNat : Int), .int .i64 x.f.fr, .int .i64 x.f.to, .int .i64 x.f.seq, x.v]
def FV.val (x : FV) : Value := .agg #[.int .u8 (x.f.kind.toNat : Int), .int .i64 x.f.fr, .int .i64 x.f.to, .int .i64 x.f.seq, x.v]
def FV.At (w : World) (n0 : Nat) (t : Option Nat) (x : FV) : Prop := NumsAt w n0 t x.v x.f.nums
theorem FV.cells_len (x : FV) : x.cells.length = 5 := rfl
theorem FV.At.form {w : World} {n0 : Nat} {t : Option Nat} {x : FV} (h : x.At w n0 t) : ∃ a cap, x.val = frv x.f a cap ∧ x.v = .slice a x.f.nums.length cap ∧ Ints w a x.f.nums.length x.f.nums := by
 obtain ⟨a, cap, hv, hi, _⟩ := NumsAt.form h
 exact ⟨a, cap, by unfold FV.val frv; rw [hv], hv, hi⟩
structure FRow (w : World) (n0 : Nat) (t : Option Nat) (base : Nat) (e : TypeId) (v : Value) (fs : List FV) : Prop where
 row : w.ownsRow base e 5 v fs.length (fs.flatMap FV.cells)
 nums : ∀ x ∈ fs, x.At w n0 t
theorem FRow.nil (w : World) (n0 : Nat) (t : Option Nat) (base : Nat) (e : TypeId) : FRow w n0 t base e (.slice none 0 0) [] := ⟨World.ownsRow_nil _ _ _ _, fun _ h => by cases h⟩
theorem FRow.keep {w w' : World} {n0 : Nat} {t : Option Nat} {base : Nat} {e : TypeId} {v : Value} {fs : List FV} {X : Nat → Prop} (h : FRow w n0 t base e v fs) (k : Keep X w w') (hx : Wr w n0 t X) (hr : ∀ b, v.ownBlock = some b → ¬ X b) : FRow w' n0 t base e v fs :=
 ⟨row_keep h.row k hr, fun x hm => NumsAt.keep (h.nums x hm) k hx⟩
theorem FRow.ext {w w' : World} {n0 : Nat} {t : Option Nat} {base : Nat} {e : TypeId} {v : Value} {fs : List FV} (h : FRow w n0 t base e v fs) (x : Ext w w') : FRow w' n0 t base e v fs := h.keep (x.keep fun _ => False) Wr.none fun _ _ h => h
theorem FRow.form {w : World} {n0 : Nat} {t : Option Nat} {base : Nat} {e : TypeId} {v : Value} {fs : List FV} (h : FRow w n0 t base e v fs) : ∃ a cap, v = .slice a fs.length cap := row_form h.row
end Go.Proofs.YtngdpnlgnpdkcaaGreatDoor
namespace Go.Proofs.YtngdpnlgnpdkcaaGreatDoor
structure Snd where
 fr : Int
 to : Int
 next : Int
 now : Int
 l : List (Fr × Int)
namespace Snd
def new (fr to : Int) : Snd := ⟨fr, to, 0, 0, []⟩
def frame (s : Snd) (kind : UInt8) (nums : List Int) : Fr := ⟨kind, s.fr, s.to, s.next, nums⟩
def err (s : Snd) (kind : UInt8) (nums : List Int) : Nat := if (s.frame kind nums).code ≠ 0 then (s.frame kind nums).code else if kind = 97 then 4 else if 200 ≤ s.l.length then 8 else 0
def sent (s : Snd) (kind : UInt8) (nums : List Int) : Snd := { s with next := s.next + 1, l := s.l ++ [(s.frame kind nums, s.now)] }
def send (s : Snd) (kind : UInt8) (nums : List Int) : Snd := if s.err kind nums = 0 then s.sent kind nums else s
def late (s : Snd) (k : Fr × Int) : Bool := decide (s.now + 1 - k.2 = 3)
def stamp (s : Snd) (k : Fr × Int) : Fr × Int := if s.late k then (k.1, s.now + 1) else k
def tick (s : Snd) : Snd := { s with now := s.now + 1, l := s.l.map s.stamp }
def again (s : Snd) : List Fr := (s.l.filter s.late).map (·.1)
def acked (s : Snd) (n : Int) : Snd := { s with l := s.l.filter fun k => decide (n ≤ k.1.seq) }
structure Ok (s : Snd) (m : Nat) : Prop where
 next : 0 ≤ s.next ∧ s.next ≤ m
 now : 0 ≤ s.now ∧ s.now ≤ m
 at_ : ∀ k ∈ s.l, 0 ≤ k.2 ∧ k.2 ≤ s.now
 len : s.l.length ≤ 200
theorem Ok.new (fr to : Int) : (new fr to).Ok 0 := ⟨by simp [Snd.new], by simp [Snd.new], by simp [Snd.new], by simp [Snd.new]⟩
theorem Ok.mono {s : Snd} {m k : Nat} (h : s.Ok m) (hk : m ≤ k) : s.Ok k := ⟨by have := h.next; omega, by have := h.now; omega, h.at_, h.len⟩
theorem err_zero {s : Snd} {kind : UInt8} {nums : List Int} (h : s.err kind nums = 0) : (s.frame kind nums).code = 0 ∧ kind ≠ 97 ∧ s.l.length < 200 := by
 unfold err at h
 split at h
 ·contradiction
 rename_i h1
 split at h
 ·contradiction
 rename_i h2
 split at h
 ·contradiction
 rename_i h3
 exact ⟨by omega, h2, by omega⟩
theorem Ok.sent {s : Snd} {m : Nat} (h : s.Ok m) {kind : UInt8} {nums : List Int} (hl : s.l.length < 200) : (s.sent kind nums).Ok (m + 1) := by
 have h1 := h.next
 have h2 := h.now
 refine ⟨by simp only [Snd.sent]; omega, by simp only [Snd.sent]; omega, fun k hk => ?_, by simp only [Snd.sent, List.length_append, List.length_cons, List.length_nil]; omega⟩
 simp only [Snd.sent, List.mem_append, List.mem_singleton] at hk ⊢
 rcases hk with hk | rfl
 ·exact h.at_ k hk
 ·exact ⟨h2.1, Int.le_refl _⟩
theorem Ok.send {s : Snd} {m : Nat} (h : s.Ok m) (kind : UInt8) (nums : List Int) : (s.send kind nums).Ok (m + 1) := by
 unfold Snd.send
 split
 ·rename_i he
  exact h.sent (err_zero he).2.2
 ·exact h.mono (by omega)
theorem Ok.tick {s : Snd} {m : Nat} (h : s.Ok m) : s.tick.Ok (m + 1) := by
 have h1 := h.next
 have h2 := h.now
 refine ⟨by simp only [Snd.tick]; omega, by simp only [Snd.tick]; omega, fun k hk => ?_, by simpa [Snd.tick] using h.len⟩
 simp only [Snd.tick, List.mem_map] at hk ⊢
 obtain ⟨x, hx, rfl⟩ := hk
 have := h.at_ x hx
 unfold stamp
 split
 ·simp only; omega
 ·omega
theorem Ok.acked {s : Snd} {m : Nat} (h : s.Ok m) (n : Int) : (s.acked n).Ok m :=
 ⟨h.next, h.now, fun k hk => h.at_ k ((List.mem_filter.1 hk).1), Nat.le_trans (List.length_filter_le _ _) h.len⟩
end Snd
structure Rcv where
 fr : Int
 to : Int
 due : Int
 wait : List Fr
namespace Rcv
def new (fr to : Int) : Rcv := ⟨fr, to, 0, []⟩
def find (l : List Fr) (q : Int) : Option Nat := l.findIdx? fun f => decide (f.seq = q)
def run : Nat → Rcv → List Fr → List Fr × Rcv
 | 0, r, out => (out, r)
 | n + 1, r, out => match find r.wait r.due with
  | none => (out, r)
  | some k => run n { r with due := r.due + 1, wait := r.wait.eraseIdx k } (out ++ (r.wait[k]?).toList)
def err (r : Rcv) (f : Fr) : Nat := if f.code ≠ 0 then f.code else if f.fr ≠ r.fr ∨ f.to ≠ r.to ∨ f.kind = 97 then 3 else 0
def took (r : Rcv) (f : Fr) : List Fr × Rcv :=
 if f.seq < r.due ∨ (find r.wait f.seq).isSome then ([], r)
 else if r.due < f.seq then ([], if r.wait.length < 8 then { r with wait := r.wait ++ [f] } else r)
 else run (r.wait.length + 1) { r with due := r.due + 1 } [f]
def take (r : Rcv) (f : Fr) : List Fr × Rcv := if r.err f = 0 then r.took f else ([], r)
end Rcv
end Go.Proofs.YtngdpnlgnpdkcaaGreatDoor
namespace Go.Proofs.YtngdpnlgnpdkcaaGreatDoor
open Go Go.RowKit
def endsCode (fr to : Int) : Nat := if fr < 0 ∨ 6 ≤ fr ∨ to < 0 ∨ 6 ≤ to then 2 else if fr = to then 3 else 0
def kcells (x : FV × Int) : List Value := x.1.cells ++ [.int .i64 x.2]
section
variable {w : World} {n0 : Nat} {t : Option Nat}
theorem Wr.blk {b : Nat} {c : Array Value} {e : TypeId} (hb : Blk w b c e) (hne : e ≠ 3) (hl : n0 ≤ b) : Wr w n0 t fun k => k = b :=
 fun k hk _ => ⟨by omega, fun hi => absurd hi (by subst hk; exact IsInt.not hb hne)⟩
theorem Wr.or {X Y : Nat → Prop} (h1 : Wr w n0 t X) (h2 : Wr w n0 t Y) : Wr w n0 t fun b => X b ∨ Y b := fun b hb hl => hb.elim (fun h => h1 b h hl) fun h => h2 b h hl
theorem Wr.row {v : Value} {e : TypeId} {size n : Nat} {xs : List Value} (h : w.ownsRow n0 e size v n xs) (hne : e ≠ 3) : Wr w n0 t fun k => v.ownBlock = some k :=
 fun k hk _ => ⟨(World.ownsRow.lt h k hk).1, fun hi => by
  obtain ⟨c, hc⟩ := own_ty h hk
  exact absurd hi (IsInt.not hc hne)⟩
theorem Wr.sub {X Y : Nat → Prop} (h : Wr w n0 t Y) (hx : ∀ b, X b → b < w.heap.size → Y b) : Wr w n0 t X := fun b hb hl => h b (hx b hb hl) hl
end
def kval (x : FV × Int) : Value := .agg #[.int .u8 (x.1.f.kind.toNat : Int), .int .i64 x.1.f.fr, .int .i64 x.1.f.to, .int .i64 x.1.f.seq, x.1.v, .int .i64 x.2]
def store6 (w : World) (g i : Nat) (y : FV × Int) : World := (((((w.setCell ⟨g, i, none⟩ (.int .u8 (y.1.f.kind.toNat : Int))).setCell ⟨g, i + 1, none⟩ (.int .i64 y.1.f.fr)).setCell ⟨g, i + 2, none⟩ (.int .i64 y.1.f.to)).setCell ⟨g, i + 3, none⟩ (.int .i64 y.1.f.seq)).setCell ⟨g, i + 4, none⟩ y.1.v).setCell ⟨g, i + 5, none⟩ (.int .i64 y.2)
def keptB (n : Int) (x : FV × Int) : Bool := decide (n ≤ x.1.f.seq)
theorem mem_zeroCells {z : Array Value} {n : Nat} {u : Value} (h : u ∈ (Builtin.zeroCells z n).toList) : u ∈ z.toList := by
 obtain ⟨i, hi, e⟩ := List.mem_iff_getElem.1 h
 simp only [Builtin.zeroCells] at e
 rw [← e]
 simp only [Array.getElem_toList, Array.getElem_map, Array.getElem_range]
 have hz : 0 < z.size := by
  rcases Nat.eq_zero_or_pos z.size with h0 | h0
  ·rw [Array.length_toList, size_zeroCells, h0] at hi; simp at hi
  ·exact h0
 have hlt := Nat.mod_lt i hz
 rw [getElem!_pos z _ hlt]
 simp
theorem run_clear_row {P : Program} (w : World) (t ty e : TypeId) (i : TypeInfo) (z : Value) (ht : P.underlying t = some (.slice e)) (hi : P.info? e = some i) (hz : i.zero = some z) (h1 : ∀ u ∈ z.cells.toList, u.oneCell' = true)
  (g off n cap : Nat) (hn : 0 < n) (c : Array Value) (hb : Blk w g c e) (hfit : off + n * z.cells.size ≤ c.size) :
  (Builtin.clear_ #[t] ty #[.slice (some ⟨g, off, none⟩) n cap]).run P w = .ok (.tuple #[]) (w.setRow g (c.toList.take off ++ (Builtin.zeroCells z.cells n).toList ++ c.toList.drop (off + n * z.cells.size)).toArray) := by
 obtain ⟨k, rfl⟩ : ∃ k, n = k + 1 := ⟨n - 1, by omega⟩
 have hl : (Builtin.zeroCells z.cells (k + 1)).toList.length = (k + 1) * z.cells.size := by rw [Array.length_toList, size_zeroCells]
 have hst := run_storeCells_at P g off e (Builtin.zeroCells z.cells (k + 1)).toList 0 c w hb (by rw [hl]; simpa using hfit) (fun u hu => h1 u (mem_zeroCells hu))
 rw [hl] at hst
 simp only [Nat.add_zero] at hst
 simp [Builtin.clear_, run_underlying ht, zeroValue, typeInfo, hi, hz, hst, Result.andThen]
theorem take_set_succ {α : Type} (R : List α) (i : Nat) (x : α) (hi : i < R.length) : (R.set i x).take (i + 1) = R.take i ++ [x] := by
 apply List.ext_getElem?
 intro k
 rw [List.getElem?_take, List.getElem?_set]
 by_cases h1 : k < i
 ·rw [if_pos (by omega), if_neg (by omega), List.getElem?_append_left (by rw [List.length_take]; omega), List.getElem?_take, if_pos h1]
 ·by_cases h2 : k = i
  ·subst h2
   rw [if_pos (by omega), if_pos rfl, if_pos hi, List.getElem?_append_right (by rw [List.length_take]; omega), List.length_take, Nat.min_eq_left (by omega)]
   simp
  ·rw [if_neg (by omega), List.getElem?_eq_none (by simp; omega)]
def kz : Array Value := #[.int .u8 0, .int .i64 0, .int .i64 0, .int .i64 0, .slice none 0 0, .int .i64 0]
theorem wpList_append_el {ops : Array Oper} {Q : Exit → Act → World → Prop} {rest : List Oper} {o : Oper} {a : Act} {w : World} (base : Nat) (hbase : base ≤ w.heap.size) (t e : TypeId) (z : Value) (size bytes : Nat) (ht : Tryz.prog.underlying t = some (.slice e)) (hinf : (Tryz.prog.info? e).map (fun i => (i.zero, i.size, i.bytes)) = some (some z, size, bytes)) (hz1 : z.cells.size = size) (hsz : 0 < size)
  (hb8 : bytes ≤ 64) (hg : o.guard = none) (s x : Operand) (ho : o.op = .call { callee := .builtin .append, args := #[s, x], argTypes := #[t, t] })
  (v : Value) (n : Nat) (xs : List Value) (hs : a.eval s = v) (hown : w.ownsRow base e size v n xs) (g : Nat) (us : List Value) (hul : us.length = size) (hu : ∀ u ∈ us, u.oneCell' = true) (hx : a.eval x = .slice (some ⟨g, 0, none⟩) 1 1) (hb : Blk w g us.toArray e) (hl : n ≤ 1000000)
  (h : ∀ v' w', w'.ownsRow base e size v' (n + 1) (xs ++ us) → Keep (fun k => v.ownBlock = some k) w w' → (v'.ownBlock = v.ownBlock ∨ v'.ownBlock = some w.heap.size) → wpList Tryz.prog ops Q rest (a.put o.dst v') w') : wpList Tryz.prog ops Q (o :: rest) a w := by
 obtain ⟨ti, hi, hz0, hz, hz2⟩ := info_parts hinf
 obtain ⟨v', w', hr, h2, h3, _, h4⟩ := run_append_own_at (P := Tryz.prog) w base t o.type e ti z size bytes ht hi hz0 hz hz2 hz1 hsz v n xs hown ⟨g, 0, none⟩ 1 1 us (by rw [hul]; omega) (fun j q hq => by
  rw [show (⟨g, 0, none⟩ : Addr).add j = ⟨g, j, none⟩ from by by_cases h0 : j = 0 <;> simp [Addr.add, h0], hb.cell j]
  simpa using hq) hu (by simp only [maxLen]; omega) (by
   have : (n + 1) * bytes ≤ (n + 1) * 64 := Nat.mul_le_mul_left _ hb8
   omega) hbase
 refine wpList_plain hg fun K hK => ?_
 unfold Oper.wp
 rw [run_exec_append s x t ho hs hx hr]
 exact hK _ _ (h v' w' h2 (grown_keep h3) h4)
theorem own_low {w : World} {base b2 : Nat} {e : TypeId} {size : Nat} {v : Value} {n : Nat} {xs : List Value} (h : w.ownsRow base e size v n xs) (hb : b2 ≤ base) : w.ownsRow b2 e size v n xs := by
 obtain ⟨h1, h2⟩ := h
 refine ⟨h1, h2.imp id ?_⟩
 rintro ⟨g, cap, cur, rfl, hg, h3⟩
 exact ⟨g, cap, cur, rfl, Nat.le_trans hb hg, h3⟩
theorem str_info : (Tryz.prog.info? 9).map (fun i => (i.zero, i.size, i.bytes)) = some (some (.string ⟨#[]⟩), 1, 16) := by kernel_rfl
theorem ElR.own {w : World} {base n0 : Nat} {e : TypeId} {size : Nat} {v : Value} {n : Nat} {xs : List Value} {E : Nat → Addr → Prop} (h : w.ownsRow base e size v n xs) (h0 : w.heap.size ≤ n0) (hE : ∀ g, (∀ i u, xs[i]? = some u → w.cell? ((⟨g, 0, none⟩ : Addr).add i) = some u) → ∀ i, i < n → E i ⟨g, 0, none⟩) : ElR n0 v n E := by
 obtain ⟨hl, h2⟩ := id h
 rcases h2 with ⟨rfl, rfl⟩ | ⟨g, cap, cur, rfl, hb, hg, hn, hc, hs, _⟩
 ·exact ⟨none, 0, rfl, Nat.le_refl _, by omega, fun h => by omega, fun y hy => by cases hy⟩
 ·have hml : maxLen = 9223372036854775807 := by decide
  refine ⟨_, cap, rfl, hn, by omega, fun _ => ⟨_, rfl⟩, fun y hy hp => ?_⟩
  obtain rfl := Option.some.inj hy
  refine ⟨Nat.lt_of_lt_of_le (Array.getElem?_eq_some_iff.1 hg).1 h0, hE g fun i u hu => h.cells (g := g) rfl i u hu⟩
theorem StrsR.own {w : World} {base n0 : Nat} {e : TypeId} {v : Value} {l : List ByteArray} (h : w.ownsRow base e 1 v l.length (l.map .string)) (h0 : w.heap.size ≤ n0) : StrsR w n0 v l :=
 ElR.own h h0 fun g hc i hi s hs => hc i _ (by rw [List.getElem?_map, hs]; rfl)
theorem IntsR.own {w : World} {base n0 : Nat} {e : TypeId} {v : Value} {l : List Int} (h : w.ownsRow base e 1 v l.length (icells l)) (h0 : w.heap.size ≤ n0) : IntsR w n0 v l :=
 ElR.own h h0 fun g hc i hi s hs => hc i _ (by unfold icells; rw [List.getElem?_map, hs]; rfl)
set_option maxRecDepth 100000 in
set_option maxHeartbeats 3200000 in
theorem pfunnames_any (a1 a2 a3 : Option Addr) (c1 c2 c3 : Nat) (P : PP) (w : World) (n0 : Nat) (h : FunsR w n0 (.slice a2 P.funs.length c2) P.funs) (hl : P.funs.length ≤ 1000) :
  Calls Tryz.prog 93 #[pval a1 a2 a3 c1 c2 c3 P] w fun e w' => ∃ v, e = .returned v ∧ w'.ownsRow w.heap.size 9 1 v P.funs.length ((P.funs.map PF.name).map .string) ∧ Ext w w' := by
 have HF := hid h
 clear h
 obtain ⟨W, hW⟩ : ∃ W, W = w.alloc (.cells (pcells a1 a2 a3 c1 c2 c3 P) 26) := ⟨_, rfl⟩
 have HW : Hid (Ext w W) := hid (by rw [hW]; exact (Ext.refl _).alloc _)
 have HB : Hid (Blk W w.heap.size (pcells a1 a2 a3 c1 c2 c3 P) 26) := hid (by rw [hW]; exact Blk.new _ _ _)
 unfold pval
 unfold pcells at hW
 have HWe := hid hW
 clear hW
 go_enter Tryz.func93, Tryz.ntmps93
 go_wp2
 rw [← HWe.out]
 go_loopw [3, 9] (fun t3 t9 wr => ∃ (k : Nat), t9 = .int .i64 (k : Int) ∧ k ≤ P.funs.length ∧ wr.ownsRow W.heap.size 9 1 t3 k (((P.funs.take k).map PF.name).map .string) ∧ Ext W wr) (fun _ t9 _ => P.funs.length - (intOf t9).toNat)
 case atStart => exact ⟨0, rfl, Nat.zero_le _, World.ownsRow_nil _ _ _ _, Ext.refl _⟩
 case round =>
  obtain ⟨k, rfl, hk, hrow, hx⟩ := hrel
  obtain ⟨ao, co, rfl⟩ := row_form hrow
  have Hrow := hid hrow
  have Hx := hid hx
  clear hrow hx
  by_cases hlt : k < P.funs.length
  ·obtain ⟨y, f, av, cv, rfl, hfk, e0, e1, e2, _⟩ := (HF.out.old ((HW.out.trans Hx.out).old n0)).at hlt
   have Hfk := hid hfk
   obtain ⟨W2, hW2⟩ : ∃ W2, W2 = (wr.alloc (.cells #[.string f.name, .slice av f.params.length cv, .int .i64 f.ret] 78)).alloc (.cells #[.string f.name] 9) := ⟨_, rfl⟩
   have hx2 : Ext wr W2 := by rw [hW2]; exact ((Ext.refl _).alloc _).alloc _
   have HB2 : Hid (Blk W2 (wr.heap.size + 1) #[.string f.name] 9) := hid (by
    rw [hW2]
    have := Blk.new (wr.alloc (.cells #[.string f.name, .slice av f.params.length cv, .int .i64 f.ret] 78)) #[.string f.name] 9
    rwa [heap_size_alloc] at this)
   have Hq := hid (row_keep Hrow.out (hx2.keep fun _ => False) (fun _ _ h => h))
   have Hxw := hid (Hx.out.trans hx2)
   have Hbs : Hid (W.heap.size ≤ W2.heap.size) := hid Hxw.out.size
   have Hol : Hid (k ≤ 1000000) := hid (by omega)
   have HW2 := hid hW2
   clear hW2 hx2 hfk
   go_wp2_with (at_builtin; rw [← HW2.out]; refine wpList_append_el W.heap.size Hbs.out 22 9 (.string ⟨#[]⟩) 1 16 Tryz.underlying22 str_info rfl (by omega) (by omega) rfl _ _ rfl (.slice ao k co) k (((P.funs.take k).map PF.name).map .string) rfl Hq.out (wr.heap.size + 1) [.string f.name] rfl (by simp [Value.oneCell']) rfl HB2.out Hol.out ?_; intro v6 w6 ho6 hk6 hl6)
   go_roundw
   case rel =>
    refine ⟨k + 1, by go_num, by omega, ?_, ?_⟩
    ·rw [List.take_add_one, Hfk.out]
     simpa using ho6
    ·exact Keep.new Hxw.out hk6 fun b hb => (World.ownsRow.lt Hq.out b hb).1
   case measure => simp [intOf]; omega
  ·obtain rfl : k = P.funs.length := by omega
   have Hr := hid (show wr.ownsRow w.heap.size 9 1 (.slice ao P.funs.length co) P.funs.length ((P.funs.map PF.name).map .string) by
    have := Hrow.out
    rw [List.take_length] at this
    exact own_low this HW.out.size)
   clear Hrow
   go_wp2
   go_ret
   exact ⟨_, rfl, Hr.out, HW.out.trans Hx.out⟩
def PP.big (P : PP) : Bool := decide (40 < P.vars.length) || decide (6 < P.funs.length) || decide (80 < P.stmts.length)
def PP.names (P : PP) : List ByteArray := P.funs.map PF.name
def PP.err1 (P : PP) : Nat := bif P.big then 8 else if namesErr P.vars = 5 ∨ namesErr P.names = 5 then 5 else if namesErr P.vars = 7 ∨ namesErr P.names = 7 then 7 else P.funsErr
def PP.FirstBad (P : PP) (i : Nat) (s : PS) : Prop := P.stmts[i]? = some s ∧ P.stmtErr s ≠ 0 ∧ ∀ j t, j < i → P.stmts[j]? = some t → P.stmtErr t = 0
def PP.allWell (P : PP) : Prop := ∀ j t, j < P.stmts.length → P.stmts[j]? = some t → P.stmtErr t = 0
def ErrIs (ad : Nat → Addr) (P : PP) (w : World) (v : Value) : Prop :=
 (P.err1 ≠ 0 ∧ v = evOf ad P.err1) ∨ (P.err1 = 0 ∧ P.allWell ∧ v = .nilIface) ∨
 (P.err1 = 0 ∧ ∃ i s b, P.FirstBad i s ∧ v = .iface 126 (.pointer (some ⟨b, 0, none⟩)) ∧ Blk w b #[.int .i64 (i : Int), evOf ad (P.stmtErr s)] 128)
theorem epComp : (Tryz.prog.info? 273).map (·.comparable) = some true := by kernel_rfl
theorem epSize : (Tryz.prog.info? 294).map (·.size) = some 1 := by kernel_rfl
theorem eq_facts {w : World} {ad : Nat → Addr} (h : ErrsP w ad) :
  (binOp .eql 31 (.iface 273 (.pointer (some (ad 5)))) (.iface 273 (.pointer (some (ad 5))))).run Tryz.prog w = .ok (.bool true) w ∧
  (binOp .eql 31 (.iface 273 (.pointer (some (ad 7)))) (.iface 273 (.pointer (some (ad 7))))).run Tryz.prog w = .ok (.bool true) w ∧
  (binOp .eql 31 (.iface 273 (.pointer (some (ad 5)))) (.iface 273 (.pointer (some (ad 7))))).run Tryz.prog w = .ok (.bool false) w ∧
  (binOp .eql 31 (.iface 273 (.pointer (some (ad 7)))) (.iface 273 (.pointer (some (ad 5))))).run Tryz.prog w = .ok (.bool false) w ∧
  (binOp .eql 31 .nilIface (.iface 273 (.pointer (some (ad 5))))).run Tryz.prog w = .ok (.bool false) w ∧
  (binOp .eql 31 .nilIface (.iface 273 (.pointer (some (ad 7))))).run Tryz.prog w = .ok (.bool false) w := by
 obtain ⟨i, hi, hcmp⟩ := Option.map_eq_some_iff.1 epComp
 obtain ⟨j, hj, hjs⟩ := Option.map_eq_some_iff.1 epSize
 obtain ⟨c5, t5, r5⟩ := h.row5
 obtain ⟨c7, t7, r7⟩ := h.row7
 exact ⟨run_eql_iface_ptr_same w _ Tryz.underlying31 Tryz.underlying273 hi hcmp hj, run_eql_iface_ptr_same w _ Tryz.underlying31 Tryz.underlying273 hi hcmp hj,
  run_eql_iface_ptr_other w Tryz.underlying31 Tryz.underlying273 hi hcmp hj (by rw [hjs]; decide) h.ne57 r5 r7, run_eql_iface_ptr_other w Tryz.underlying31 Tryz.underlying273 hi hcmp hj (by rw [hjs]; decide) h.ne57.symm r7 r5,
  run_eql_iface_nil_left w _ _ Tryz.underlying31, run_eql_iface_nil_left w _ _ Tryz.underlying31⟩
theorem namesErr_cases (l : List ByteArray) : namesErr l = 0 ∨ namesErr l = 5 ∨ namesErr l = 7 := by
 unfold namesErr
 cases anyBad l <;> cases dupS l <;> simp
set_option maxRecDepth 100000 in
set_option maxHeartbeats 12800000 in
theorem pcheck_any (a1 a2 a3 : Option Addr) (c1 c2 c3 : Nat) (P : PP) (w : World) (n0 : Nat) (ad : Nat → Addr) (hE : ErrsP w ad) (h : ProgR w n0 (.slice a1 P.vars.length c1) (.slice a2 P.funs.length c2) (.slice a3 P.stmts.length c3) P)
  (hz1 : ∀ s ∈ P.vars, s.size ≤ 1000000) (hz2 : ∀ s ∈ P.names, s.size ≤ 1000000) (hml1 : (P.vars.length : Int) ≤ 9223372036854775807) :
  Calls Tryz.prog 53 #[pval a1 a2 a3 c1 c2 c3 P] w fun e w' => ∃ v, e = .returned v ∧ ErrIs ad P w' v ∧ Ext w w' := by
 have HP := hid h
 have HE := hid hE
 have hml2 := h.funs.len
 have hml3 := h.stmts.len
 clear h hE
 obtain ⟨W, hW⟩ : ∃ W, W = w.alloc (.cells (pcells a1 a2 a3 c1 c2 c3 P) 26) := ⟨_, rfl⟩
 have HW : Hid (Ext w W) := hid (by rw [hW]; exact (Ext.refl _).alloc _)
 have HB : Hid (Blk W w.heap.size (pcells a1 a2 a3 c1 c2 c3 P) 26) := hid (by rw [hW]; exact Blk.new _ _ _)
 unfold pval
 unfold pcells at hW
 have HWe := hid hW
 clear hW
 have d0 := HB.out.kc (X := fun _ => False) (fun e => e) 0 rfl
 have d1 := HB.out.kc (X := fun _ => False) (fun e => e) 1 rfl
 have d2 := HB.out.kc (X := fun _ => False) (fun e => e) 2 rfl
 simp only [pcells, qA0, qA1, qA2] at d0 d1 d2
 by_cases hbig : P.big = true
 ·have he : P.err1 = 8 := by unfold PP.err1; rw [hbig]; rfl
  have He := hid (show ErrIs ad P W (evOf ad 8) from .inl ⟨by rw [he]; decide, by rw [he]⟩)
  unfold PP.big at hbig
  simp only [Bool.or_eq_true, decide_eq_true_eq] at hbig
  have k8 := (HE.out.ext HW.out).at8
  have HE8 := hid (show ErrIs ad P (w.alloc (.cells #[.slice a1 P.vars.length c1, .slice a2 P.funs.length c2, .slice a3 P.stmts.length c3] 26)) (.iface 273 (.pointer (some (ad 8)))) by rw [← HWe.out]; exact He.out)
  have HX8 := hid (show Ext w (w.alloc (.cells #[.slice a1 P.vars.length c1, .slice a2 P.funs.length c2, .slice a3 P.stmts.length c3] 26)) from (Ext.refl w).alloc _)
  unfold evOf at k8
  rw [HWe.out] at k8
  clear he d0 d1 d2
  go_enter Tryz.func53, Tryz.ntmps53
  by_cases b1 : 40 < P.vars.length
  ·clear hbig
   go_wp2
   go_ret
   exact ⟨_, rfl, HE8.out, HX8.out⟩
  ·by_cases b2 : 6 < P.funs.length
   ·clear hbig
    go_wp2
    go_ret
    exact ⟨_, rfl, HE8.out, HX8.out⟩
   ·have b3 : 80 < P.stmts.length := by omega
    clear hbig
    go_wp2
    go_ret
    exact ⟨_, rfl, HE8.out, HX8.out⟩
 have hbig' : P.big = false := by simpa using hbig
 have HBig := hid hbig'
 have hb := hbig'
 unfold PP.big at hb
 simp only [Bool.or_eq_false_iff, decide_eq_false_iff_not] at hb
 obtain ⟨⟨q1, q2⟩, q3⟩ := hb
 clear hbig hbig'
 have HFn := hid fun w1 (x : Ext w w1) => pfunnames_any a1 a2 a3 c1 c2 c3 P w1 n0 (HP.out.ext x).funs (by omega)
 unfold pval at HFn
 go_enter Tryz.func53, Tryz.ntmps53
 go_wp2
 rw [← HWe.out]
 refine wp_flowT (fun _ => False) (by kernel_rfl) (by kernel_rfl) ?_
 repeat (apply FlowT.d; (intro w1 hk; unfold does; go_simp; (try go_ints); (first | exact DetR.mk | (simp only [↓IntWalk.iteOmega, Oper.doesUpon_value]; exact DetR.mk) | (simp only [↓IntWalk.iteOmega]; go_simp; (try go_ints); exact DetR.mk))); simp only [Act.put, qS0, qS1, qS2])
 refine FlowT.s (fun v w' => w'.ownsRow W.heap.size 9 1 v P.funs.length (P.names.map .string) ∧ Ext W w') 3 rfl (by kernel_rfl) (fun _ _ _ ⟨h1, h2⟩ x => ⟨own_ext h1 x, h2.trans x⟩) (fun w1 hC hk => ?_) ?_
 ·unfold does
  go_simp
  refine CallR.act ((HFn.out w1 (HW.out.trans hk.ext)).mono ?_)
  rintro e w2 ⟨v, rfl, hr, hx⟩
  exact ⟨v, rfl, (hk.ext.trans hx).keep _, own_low hr hk.size, hk.ext.trans hx⟩
 rintro v ⟨_, hI, _⟩
 obtain ⟨a4, c4, rfl⟩ := row_form hI
 clear hI
 simp only [Act.put, qS0, qS1, qS2]
 refine FlowT.s (fun v w' => ∃ g, v = .slice (some ⟨g, 0, none⟩) 2 2 ∧ Blk w' g #[.slice a1 P.vars.length c1, .slice a4 P.funs.length c4] 22 ∧ w'.ownsRow W.heap.size 9 1 (.slice a4 P.funs.length c4) P.funs.length (P.names.map .string) ∧ Ext W w') 4 rfl (by kernel_rfl) (fun _ _ _ ⟨g, h1, h2, h3, h4⟩ x => ⟨g, h1, h2.ext x, own_ext h3 x, h4.trans x⟩) (fun w1 hC hk => ?_) ?_
 ·unfold does
  go_simp
  exact ⟨hk.alloc _, _, rfl, Blk.new _ _ _, own_ext hC.1 ((Ext.refl _).alloc _), hC.2.alloc _⟩
 rintro _ ⟨_, g, rfl, _, _⟩
 simp only [Act.put, qS0, qS1, qS2]
 repeat (apply FlowT.d; (intro w1 hk; unfold does; go_simp; (try go_ints); (first | exact DetR.mk | (simp only [↓IntWalk.iteOmega, Oper.doesUpon_value]; exact DetR.mk) | (simp only [↓IntWalk.iteOmega]; go_simp; (try go_ints); exact DetR.mk))); simp only [Act.put, qS0, qS1, qS2])
 refine FlowT.fin fun wA hC hk => ?_
 obtain ⟨g', e, hg, hrow, hxA⟩ := hC
 obtain rfl : g = g' := by simpa using e
 have Hg := hid hg
 have HS2 := hid (StrsR.own (n0 := wA.heap.size) (l := P.names) (by simpa [PP.names] using hrow) (Nat.le_refl _))
 have HxA := hid hxA
 clear hg hrow hxA e hk
 have k5 := (HE.out.ext (HW.out.trans HxA.out)).at5
 have k7 := (HE.out.ext (HW.out.trans HxA.out)).at7
 unfold evOf at k5 k7
 obtain ⟨wB, hwB⟩ : ∃ wB, wB = wA.alloc (.cells #[.iface 273 (.pointer (some (ad 5))), .iface 273 (.pointer (some (ad 7)))] 31) := ⟨_, rfl⟩
 have HxC : Hid (Ext wA wB) := hid (by rw [hwB]; exact (Ext.refl _).alloc _)
 have HxB := hid (HxA.out.trans HxC.out)
 have HB9 : Hid (Blk wB wA.heap.size #[.iface 273 (.pointer (some (ad 5))), .iface 273 (.pointer (some (ad 7)))] 31) := hid (by rw [hwB]; exact Blk.new _ _ _)
 have hne1 : ¬ ad 5 = ad 7 := HE.out.ne57
 have hne2 : ¬ ad 7 = ad 5 := fun h => hne1 h.symm
 have HwB := hid hwB
 clear hwB d0 d1 d2
 go_wp2
 rw [← HwB.out]
 clear k5 k7
 go_loopw [39] (fun t39 wr => ∃ k : Nat, t39 = .int .i64 (k : Int) ∧ k ≤ 2 ∧ (0 < k → namesErr P.vars ≠ 5 ∧ namesErr P.names ≠ 5) ∧ (1 < k → namesErr P.vars ≠ 7 ∧ namesErr P.names ≠ 7) ∧ Ext wB wr) (fun t39 _ => 2 - (intOf t39).toNat)
 case atStart => exact ⟨0, rfl, by omega, fun h => by omega, fun h => by omega, Ext.refl _⟩
 case round =>
  obtain ⟨k, rfl, hk, hp5, hp7, hx⟩ := hrel
  have Hx := hid hx
  have x0 := (HB9.out.ext hx).av 0 rfl
  have x1 := (HB9.out.ext hx).av 1 rfl
  simp only [qA0, qA1, qA2] at x0 x1
  clear hx
  rcases (by omega : k = 0 ∨ k = 1 ∨ k = 2) with rfl | rfl | rfl
  ·clear hp5 hp7
   go_wp2
   generalize wr = wz at *
   go_loopw [45] (fun t45 wr => ∃ j : Nat, t45 = .int .i64 (j : Int) ∧ j ≤ 2 ∧ (0 < j → namesErr P.vars ≠ 5) ∧ (1 < j → namesErr P.names ≠ 5) ∧ Ext wB wr) (fun t45 _ => 2 - (intOf t45).toNat)
   case atStart => exact ⟨0, rfl, by omega, fun h => by omega, fun h => by omega, Hx.out⟩
   case round =>
    obtain ⟨j, rfl, hj, hq0, hq1, hy⟩ := hrel
    have Hy := hid hy
    have Hq0 := hid hq0
    have Hq1 := hid hq1
    have r0 := (Hg.out.ext (HxC.out.trans hy)).av 0 rfl
    have r1 := (Hg.out.ext (HxC.out.trans hy)).av 1 rfl
    simp only [qA0, qA1, qA2] at r0 r1
    clear hy hq0 hq1
    rcases (by omega : j = 0 ∨ j = 1 ∨ j = 2) with rfl | rfl | rfl
    ·have HN := hid (names_any _ P.vars wr n0 ad (HE.out.ext (HW.out.trans (HxB.out.trans Hy.out))) (HP.out.ext (HW.out.trans (HxB.out.trans Hy.out))).vars hz1)
     go_wp2_with fail
     refine HN.out.mono ?_
     intro e w5 hx5
     obtain ⟨rfl, hx5⟩ := hx5
     have Hx5 := hid (Hy.out.trans hx5)
     clear HN hx5
     obtain ⟨z1, z2, z3, z4, z5, z6⟩ := eq_facts (HE.out.ext (HW.out.trans (HxB.out.trans Hx5.out)))
     rcases namesErr_cases P.vars with hd | hd | hd
     ·rw [show errv (evOf ad) (namesErr P.vars) = .nilIface from by rw [hd]; rfl]
      have Hd := hid hd
      clear hd
      go_wp2
      go_roundw
      case rel => exact ⟨_, _, _, _, _, _, _, _, _, _, _, _, _, _, ⟨1, by go_num, by omega, fun h => by first | omega | exact Hq0.out (by omega) | (rw [Hd.out]; decide), fun h => by first | omega | (rw [Hd.out]; decide), Hx5.out⟩, rfl⟩
      case measure => simp [intOf]
     ·rw [show errv (evOf ad) (namesErr P.vars) = .iface 273 (.pointer (some (ad 5))) from by rw [hd]; rfl]
      have Hd := hid hd
      clear hd
      go_wp2
      go_ret
      have he : P.err1 = 5 := by unfold PP.err1; rw [HBig.out]; simp [Hd.out]
      exact ⟨_, rfl, .inl ⟨by rw [he]; decide, by rw [he]; rfl⟩, HW.out.trans (HxB.out.trans Hx5.out)⟩
     ·rw [show errv (evOf ad) (namesErr P.vars) = .iface 273 (.pointer (some (ad 7))) from by rw [hd]; rfl]
      have Hd := hid hd
      clear hd
      go_wp2
      go_roundw
      case rel => exact ⟨_, _, _, _, _, _, _, _, _, _, _, _, _, _, ⟨1, by go_num, by omega, fun h => by first | omega | exact Hq0.out (by omega) | (rw [Hd.out]; decide), fun h => by first | omega | (rw [Hd.out]; decide), Hx5.out⟩, rfl⟩
      case measure => simp [intOf]
    ·have HN := hid (names_any _ P.names wr wA.heap.size ad (HE.out.ext (HW.out.trans (HxB.out.trans Hy.out))) (HS2.out.old ((HxC.out.trans Hy.out).old _)) hz2)
     go_wp2_with fail
     refine HN.out.mono ?_
     intro e w5 hx5
     obtain ⟨rfl, hx5⟩ := hx5
     have Hx5 := hid (Hy.out.trans hx5)
     clear HN hx5
     obtain ⟨z1, z2, z3, z4, z5, z6⟩ := eq_facts (HE.out.ext (HW.out.trans (HxB.out.trans Hx5.out)))
     rcases namesErr_cases P.names with hd | hd | hd
     ·rw [show errv (evOf ad) (namesErr P.names) = .nilIface from by rw [hd]; rfl]
      have Hd := hid hd
      clear hd
      go_wp2
      go_roundw
      case rel => exact ⟨_, _, _, _, _, _, _, _, _, _, _, _, _, _, ⟨2, by go_num, by omega, fun h => by first | omega | exact Hq0.out (by omega) | (rw [Hd.out]; decide), fun h => by first | omega | (rw [Hd.out]; decide), Hx5.out⟩, rfl⟩
      case measure => simp [intOf]
     ·rw [show errv (evOf ad) (namesErr P.names) = .iface 273 (.pointer (some (ad 5))) from by rw [hd]; rfl]
      have Hd := hid hd
      clear hd
      go_wp2
      go_ret
      have he : P.err1 = 5 := by unfold PP.err1; rw [HBig.out]; simp [Hd.out]
      exact ⟨_, rfl, .inl ⟨by rw [he]; decide, by rw [he]; rfl⟩, HW.out.trans (HxB.out.trans Hx5.out)⟩
     ·rw [show errv (evOf ad) (namesErr P.names) = .iface 273 (.pointer (some (ad 7))) from by rw [hd]; rfl]
      have Hd := hid hd
      clear hd
      go_wp2
      go_roundw
      case rel => exact ⟨_, _, _, _, _, _, _, _, _, _, _, _, _, _, ⟨2, by go_num, by omega, fun h => by first | omega | exact Hq0.out (by omega) | (rw [Hd.out]; decide), fun h => by first | omega | (rw [Hd.out]; decide), Hx5.out⟩, rfl⟩
      case measure => simp [intOf]
    ·go_wp2
     go_roundw
     case rel => exact ⟨1, by go_num, by omega, fun _ => ⟨Hq0.out (by omega), Hq1.out (by omega)⟩, fun h => by omega, Hy.out⟩
     case measure => simp [intOf]
  ·have Hp5 := hid (hp5 (by omega))
   clear hp5 hp7
   go_wp2
   generalize wr = wz at *
   go_loopw [45] (fun t45 wr => ∃ j : Nat, t45 = .int .i64 (j : Int) ∧ j ≤ 2 ∧ (0 < j → namesErr P.vars ≠ 7) ∧ (1 < j → namesErr P.names ≠ 7) ∧ Ext wB wr) (fun t45 _ => 2 - (intOf t45).toNat)
   case atStart => exact ⟨0, rfl, by omega, fun h => by omega, fun h => by omega, Hx.out⟩
   case round =>
    obtain ⟨j, rfl, hj, hq0, hq1, hy⟩ := hrel
    have Hy := hid hy
    have Hq0 := hid hq0
    have Hq1 := hid hq1
    have r0 := (Hg.out.ext (HxC.out.trans hy)).av 0 rfl
    have r1 := (Hg.out.ext (HxC.out.trans hy)).av 1 rfl
    simp only [qA0, qA1, qA2] at r0 r1
    clear hy hq0 hq1
    rcases (by omega : j = 0 ∨ j = 1 ∨ j = 2) with rfl | rfl | rfl
    ·have HN := hid (names_any _ P.vars wr n0 ad (HE.out.ext (HW.out.trans (HxB.out.trans Hy.out))) (HP.out.ext (HW.out.trans (HxB.out.trans Hy.out))).vars hz1)
     go_wp2_with fail
     refine HN.out.mono ?_
     intro e w5 hx5
     obtain ⟨rfl, hx5⟩ := hx5
     have Hx5 := hid (Hy.out.trans hx5)
     clear HN hx5
     obtain ⟨z1, z2, z3, z4, z5, z6⟩ := eq_facts (HE.out.ext (HW.out.trans (HxB.out.trans Hx5.out)))
     rcases namesErr_cases P.vars with hd | hd | hd
     ·rw [show errv (evOf ad) (namesErr P.vars) = .nilIface from by rw [hd]; rfl]
      have Hd := hid hd
      clear hd
      go_wp2
      go_roundw
      case rel => exact ⟨_, _, _, _, _, _, _, _, _, _, _, _, _, _, ⟨1, by go_num, by omega, fun h => by first | omega | exact Hq0.out (by omega) | (rw [Hd.out]; decide), fun h => by first | omega | (rw [Hd.out]; decide), Hx5.out⟩, rfl⟩
      case measure => simp [intOf]
     ·rw [show errv (evOf ad) (namesErr P.vars) = .iface 273 (.pointer (some (ad 5))) from by rw [hd]; rfl]
      have Hd := hid hd
      clear hd
      go_wp2
      go_roundw
      case rel => exact ⟨_, _, _, _, _, _, _, _, _, _, _, _, _, _, ⟨1, by go_num, by omega, fun h => by first | omega | exact Hq0.out (by omega) | (rw [Hd.out]; decide), fun h => by first | omega | (rw [Hd.out]; decide), Hx5.out⟩, rfl⟩
      case measure => simp [intOf]
     ·rw [show errv (evOf ad) (namesErr P.vars) = .iface 273 (.pointer (some (ad 7))) from by rw [hd]; rfl]
      have Hd := hid hd
      clear hd
      go_wp2
      go_ret
      have he : P.err1 = 7 := by unfold PP.err1; rw [HBig.out]; simp [Hd.out, Hp5.out.1, Hp5.out.2]
      exact ⟨_, rfl, .inl ⟨by rw [he]; decide, by rw [he]; rfl⟩, HW.out.trans (HxB.out.trans Hx5.out)⟩
    ·have HN := hid (names_any _ P.names wr wA.heap.size ad (HE.out.ext (HW.out.trans (HxB.out.trans Hy.out))) (HS2.out.old ((HxC.out.trans Hy.out).old _)) hz2)
     go_wp2_with fail
     refine HN.out.mono ?_
     intro e w5 hx5
     obtain ⟨rfl, hx5⟩ := hx5
     have Hx5 := hid (Hy.out.trans hx5)
     clear HN hx5
     obtain ⟨z1, z2, z3, z4, z5, z6⟩ := eq_facts (HE.out.ext (HW.out.trans (HxB.out.trans Hx5.out)))
     rcases namesErr_cases P.names with hd | hd | hd
     ·rw [show errv (evOf ad) (namesErr P.names) = .nilIface from by rw [hd]; rfl]
      have Hd := hid hd
      clear hd
      go_wp2
      go_roundw
      case rel => exact ⟨_, _, _, _, _, _, _, _, _, _, _, _, _, _, ⟨2, by go_num, by omega, fun h => by first | omega | exact Hq0.out (by omega) | (rw [Hd.out]; decide), fun h => by first | omega | (rw [Hd.out]; decide), Hx5.out⟩, rfl⟩
      case measure => simp [intOf]
     ·rw [show errv (evOf ad) (namesErr P.names) = .iface 273 (.pointer (some (ad 5))) from by rw [hd]; rfl]
      have Hd := hid hd
      clear hd
      go_wp2
      go_roundw
      case rel => exact ⟨_, _, _, _, _, _, _, _, _, _, _, _, _, _, ⟨2, by go_num, by omega, fun h => by first | omega | exact Hq0.out (by omega) | (rw [Hd.out]; decide), fun h => by first | omega | (rw [Hd.out]; decide), Hx5.out⟩, rfl⟩
      case measure => simp [intOf]
     ·rw [show errv (evOf ad) (namesErr P.names) = .iface 273 (.pointer (some (ad 7))) from by rw [hd]; rfl]
      have Hd := hid hd
      clear hd
      go_wp2
      go_ret
      have he : P.err1 = 7 := by unfold PP.err1; rw [HBig.out]; simp [Hd.out, Hp5.out.1, Hp5.out.2]
      exact ⟨_, rfl, .inl ⟨by rw [he]; decide, by rw [he]; rfl⟩, HW.out.trans (HxB.out.trans Hx5.out)⟩
    ·go_wp2
     go_roundw
     case rel => exact ⟨2, by go_num, by omega, fun _ => Hp5.out, fun _ => ⟨Hq0.out (by omega), Hq1.out (by omega)⟩, Hy.out⟩
     case measure => simp [intOf]
  ·have Hp5 := hid (hp5 (by omega))
   have Hp7 := hid (hp7 (by omega))
   have H1 := hid (show P.err1 = P.funsErr by unfold PP.err1; rw [HBig.out]; simp [Hp5.out.1, Hp5.out.2, Hp7.out.1, Hp7.out.2])
   have d0 := (HB.out.ext (HxB.out.trans Hx.out)).av 0 rfl
   have d1 := (HB.out.ext (HxB.out.trans Hx.out)).av 1 rfl
   have d2 := (HB.out.ext (HxB.out.trans Hx.out)).av 2 rfl
   simp only [pcells, qA0, qA1, qA2] at d0 d1 d2
   have HF := hid (pfuns_any a1 a2 a3 c1 c2 c3 P wr n0 ad (HE.out.ext (HW.out.trans (HxB.out.trans Hx.out))) (HP.out.ext (HW.out.trans (HxB.out.trans Hx.out))).funs)
   unfold pval at HF
   clear hp5 hp7 x0 x1
   go_wp2_with fail
   refine HF.out.mono ?_
   intro e w5 hx5
   obtain ⟨rfl, hx5⟩ := hx5
   have Hx5 := hid (HxB.out.trans (Hx.out.trans hx5))
   clear HF hx5 d0 d1 d2
   by_cases hf : P.funsErr = 0
   ·rw [show errv (evOf ad) P.funsErr = .nilIface from by rw [hf]; rfl]
    have Hf := hid (show P.err1 = 0 by rw [H1.out, hf])
    have d0 := (HB.out.ext Hx5.out).av 0 rfl
    have d1 := (HB.out.ext Hx5.out).av 1 rfl
    have d2 := (HB.out.ext Hx5.out).av 2 rfl
    simp only [pcells, qA0, qA1, qA2] at d0 d1 d2
    clear hf Hx H1
    go_wp2
    clear d0 d1 d2
    generalize wr = wz at *
    have HxD := Hx5
    clear Hx5
    go_loopw [65] (fun t65 wr => ∃ k : Nat, t65 = .int .i64 (k : Int) ∧ k ≤ P.stmts.length ∧ (∀ j s, j < k → P.stmts[j]? = some s → P.stmtErr s = 0) ∧ Ext W wr) (fun t65 _ => P.stmts.length - (intOf t65).toNat)
    case atStart => exact ⟨0, rfl, Nat.zero_le _, fun j s h => by omega, HxD.out⟩
    case round =>
     obtain ⟨k, rfl, hk, hne, hx⟩ := hrel
     have Hne := hid hne
     have Hx := hid hx
     clear hne hx HxD
     by_cases hlt : k < P.stmts.length
     ·obtain ⟨y, s, av, cv, rfl, hfk, e0, e1, e2, e3, hI⟩ := (HP.out.ext (HW.out.trans Hx.out)).stmts.at hlt
      have Hfk := hid hfk
      obtain ⟨W3, hW3⟩ : ∃ W3, W3 = wr.alloc (.cells #[.string s.kind, .int .i64 s.x, .int .i64 s.y, .slice av s.args.length cv] 76) := ⟨_, rfl⟩
      have hx3 : Ext wr W3 := by rw [hW3]; exact (Ext.refl _).alloc _
      have Hx3 := hid (Hx.out.trans hx3)
      have HS := hid (pstmt_any a1 a2 (some y) c1 c2 c3 P s av cv W3 n0 ad (HE.out.ext (HW.out.trans Hx3.out)) (hI.old (hx3.old n0)))
      unfold pval sval at HS
      have HW3 := hid hW3
      have q0 := (HB.out.ext Hx3.out).av 0 rfl
      have q1 := (HB.out.ext Hx3.out).av 1 rfl
      have q2 := (HB.out.ext Hx3.out).av 2 rfl
      simp only [pcells, qA0, qA1, qA2] at q0 q1 q2
      rw [hW3] at q0 q1 q2
      clear hfk hI hW3 hx3
      go_wp2_with fail
      rw [← HW3.out]
      refine HS.out.mono ?_
      intro e w4 hx4
      obtain ⟨rfl, hx4⟩ := hx4
      have Hx4 := hid (Hx3.out.trans hx4)
      clear HS hx4 q0 q1 q2
      by_cases hz : P.stmtErr s = 0
      ·rw [show errv (evOf ad) (P.stmtErr s) = .nilIface from by rw [hz]; rfl]
       have Hz := hid hz
       clear hz
       go_wp2
       go_roundw
       case rel => exact ⟨k + 1, by go_num, by omega, fun j t hj ht => by
        by_cases hjk : j = k
        ·subst hjk
         obtain rfl := Option.some.inj (Hfk.out.symm.trans ht)
         exact Hz.out
        ·exact Hne.out j t (by omega) ht, Hx4.out⟩
       case measure => simp [intOf]; omega
      ·rw [show errv (evOf ad) (P.stmtErr s) = .iface 273 (.pointer (some (ad (P.stmtErr s)))) from by unfold errv; rw [if_neg hz]; rfl]
       have Hr : Hid (ErrIs ad P (w4.alloc (.cells #[.int .i64 (k : Int), .iface 273 (.pointer (some (ad (P.stmtErr s))))] 128)) (.iface 126 (.pointer (some ⟨w4.heap.size, 0, none⟩)))) := hid (.inr (.inr ⟨Hf.out, k, s, _, ⟨Hfk.out, hz, Hne.out⟩, rfl, Blk.new _ _ _⟩))
       have HxE := hid (HW.out.trans (Hx4.out.alloc (.cells #[.int .i64 (k : Int), .iface 273 (.pointer (some (ad (P.stmtErr s))))] 128)))
       clear hz
       go_wp2
       go_ret
       exact ⟨_, rfl, Hr.out, HxE.out⟩
     ·obtain rfl : k = P.stmts.length := by omega
      have Hr := hid (show ErrIs ad P wr .nilIface from .inr (.inl ⟨Hf.out, Hne.out, rfl⟩))
      have HxE := hid (HW.out.trans Hx.out)
      go_wp2
      go_ret
      exact ⟨_, rfl, Hr.out, HxE.out⟩
   ·rw [show errv (evOf ad) P.funsErr = .iface 273 (.pointer (some (ad P.funsErr))) from by unfold errv; rw [if_neg hf]; rfl]
    have Hf := hid (show ErrIs ad P w5 (.iface 273 (.pointer (some (ad P.funsErr)))) from .inl ⟨by rw [H1.out]; exact hf, by rw [H1.out]; rfl⟩)
    clear hf
    go_wp2
    go_ret
    exact ⟨_, rfl, Hf.out, HW.out.trans Hx5.out⟩
inductive Vl where
 | none
 | var (n : Nat)
 | thing (n : Nat)
 | fn (n : Nat)
def Vl.kind : Vl → ByteArray
 | .none => ⟨#[110, 111, 110, 101]⟩
 | .var _ => ⟨#[118, 97, 114]⟩
 | .thing _ => ⟨#[116, 104, 105, 110, 103]⟩
 | .fn _ => ⟨#[102, 117, 110]⟩
def Vl.num : Vl → Nat
 | .none => 0
 | .var n => n
 | .thing n => n
 | .fn n => n
def Vl.cells (v : Vl) : List Value := [.string v.kind, .int .i64 (v.num : Int)]
theorem Vl.cells_len (v : Vl) : v.cells.length = 2 := rfl
def Vl.In (nv nt nf : Nat) : Vl → Prop
 | .none => True
 | .var n => n < nv
 | .thing n => n < nt
 | .fn n => n < nf
theorem Vl.In.mono {nv nt nf nt' : Nat} {v : Vl} (h : v.In nv nt nf) (hn : nt ≤ nt') : v.In nv nt' nf := by
 cases v <;> simp only [Vl.In] at h ⊢ <;> omega
structure Rn where
 vars : List Vl
 things : List Vl
 places : List Nat
def Rn.at (s : Rn) (n : Int) : Vl := s.vars.getD n.toNat .none
def Rn.get (s : Rn) : Vl → Vl
 | .var n => s.vars.getD n .none
 | .thing n => s.things.getD n .none
 | _ => .none
def Vl.isAddr : Vl → Bool
 | .var _ => true
 | .thing _ => true
 | _ => false
def Rn.set (s : Rn) (n : Int) (v : Vl) : Rn := { s with vars := s.vars.set n.toNat v }
def Rn.put (s : Rn) (c v : Vl) : Rn :=
 match c with
 | .var n => { s with vars := s.vars.set n v }
 | .thing n => { s with things := s.things.set n v }
 | _ => s
def kAddr : List UInt8 := [97, 100, 100, 114]
def kCopy : List UInt8 := [99, 111, 112, 121]
def kLoad : List UInt8 := [108, 111, 97, 100]
def kStore : List UInt8 := [115, 116, 111, 114, 101]
def Rn.give (s : Rn) : List Int → List Vl → Rn
 | p :: ps, v :: vs => (s.set p v).give ps vs
 | _, _ => s
def Rn.callF (s : Rn) (x : PS) (f : PF) : Rn :=
 if f.params.length = x.args.length then
  let s1 := s.give f.params (x.args.map s.at)
  s1.set x.x (s1.at f.ret)
 else s
def Rn.call (P : PP) (x : PS) (s : Rn) : Rn :=
 match s.at x.y with
 | .fn n => match P.funs[n]? with
  | some f => s.callF x f
  | none => s
 | _ => s
def Rn.stmt (P : PP) (k : Nat) (x : PS) (s : Rn) : Rn :=
 bif x.isK kAddr then s.set x.x (.var x.y.toNat) else
 bif x.isK kCopy then s.set x.x (s.at x.y) else
 bif x.isK kLoad then (bif (s.at x.y).isAddr then s.set x.x (s.get (s.at x.y)) else s) else
 bif x.isK kStore then s.put (s.at x.x) (s.at x.y) else
 bif x.isK kNew then { (s.set x.x (.thing s.things.length)) with things := s.things ++ [.none], places := s.places ++ [k] } else
 bif x.isK kFun then s.set x.x (.fn x.y.toNat) else
 bif x.isK kCall then s.call P x else s
def Rn.step (P : PP) (s : Rn) (k : Nat) : Rn :=
 match P.stmts[k]? with
 | some x => s.stmt P k x
 | none => s
def Rn.begin (P : PP) : Rn := ⟨List.replicate P.vars.length .none, [], []⟩
def Rn.run (P : PP) (l : List Nat) : Rn := l.foldl (Rn.step P) (Rn.begin P)
structure Rn.Ok (P : PP) (s : Rn) : Prop where
 lv : s.vars.length = P.vars.length
 rv : ∀ v ∈ s.vars, v.In P.vars.length s.things.length P.funs.length
 rt : ∀ v ∈ s.things, v.In P.vars.length s.things.length P.funs.length
 lp : s.places.length = s.things.length
structure PP.Good (P : PP) (x : PS) : Prop where
 gx : 0 ≤ x.x ∧ x.x < P.vars.length
 yf : x.isK kFun = true → 0 ≤ x.y ∧ x.y < P.funs.length
 yv : x.isK kFun = false → x.isK kNew = false → 0 ≤ x.y ∧ x.y < P.vars.length
 args : ∀ a ∈ x.args, 0 ≤ a ∧ a < P.vars.length
theorem PP.inV_iff {P : PP} {n : Int} (h : P.inV n = true) : 0 ≤ n ∧ n < P.vars.length := by
 unfold PP.inV at h
 simp at h
 omega
theorem PP.good {P : PP} {x : PS} (h : P.stmtErr x = 0) : P.Good x := by
 unfold PP.stmtErr at h
 cases h1 : memB x.kind kindsS with
 | false => rw [h1] at h; simp at h
 | true =>
 cases h2 : P.bound x with
 | false => rw [h1, h2] at h; simp at h
 | true =>
 unfold PP.bound at h2
 simp only [Bool.and_eq_true] at h2
 refine ⟨PP.inV_iff h2.1.1, fun hf => ?_, fun hf hn => ?_, fun a ha => ?_⟩
 ·have := h2.1.2
  unfold PP.boundY at this
  rw [hf] at this
  simpa using this
 ·have := h2.1.2
  unfold PP.boundY at this
  rw [hf, hn] at this
  exact PP.inV_iff this
 ·have := h2.2
  unfold PP.allV at this
  exact PP.inV_iff (List.all_eq_true.1 this a ha)
structure PP.GoodF (P : PP) (f : PF) : Prop where
 params : ∀ a ∈ f.params, 0 ≤ a ∧ a < P.vars.length
 ret : 0 ≤ f.ret ∧ f.ret < P.vars.length
 few : f.params.length ≤ 3
theorem PP.goodF {P : PP} (h : P.funsErr = 0) {f : PF} (hf : f ∈ P.funs) : P.GoodF f := by
 unfold PP.funsErr at h
 cases h1 : P.funs.any bad9 with
 | true => rw [h1] at h; simp at h
 | false =>
 cases h2 : P.funs.any P.bad2 with
 | true => rw [h1, h2] at h; simp at h
 | false =>
 have g1 := List.any_eq_false.1 h1 f hf
 have g2 := List.any_eq_false.1 h2 f hf
 unfold bad9 at g1
 unfold PP.bad2 PP.allV at g2
 simp at g1 g2
 exact ⟨fun a ha => PP.inV_iff (g2.1 a ha), PP.inV_iff g2.2, g1⟩
theorem Rn.Ok.at {P : PP} {s : Rn} (h : s.Ok P) (n : Int) : (s.at n).In P.vars.length s.things.length P.funs.length := by
 unfold Rn.at
 rw [List.getD_eq_getElem?_getD]
 cases hx : s.vars[n.toNat]? with
 | none => exact trivial
 | some v => exact h.rv v (List.mem_of_getElem? hx)
theorem Rn.Ok.get {P : PP} {s : Rn} (h : s.Ok P) (c : Vl) : (s.get c).In P.vars.length s.things.length P.funs.length := by
 cases c with
 | none => exact trivial
 | fn n => exact trivial
 | var n =>
  simp only [Rn.get, List.getD_eq_getElem?_getD]
  cases hx : s.vars[n]? with
  | none => exact trivial
  | some v => exact h.rv v (List.mem_of_getElem? hx)
 | thing n =>
  simp only [Rn.get, List.getD_eq_getElem?_getD]
  cases hx : s.things[n]? with
  | none => exact trivial
  | some v => exact h.rt v (List.mem_of_getElem? hx)
theorem Rn.Ok.set {P : PP} {s : Rn} (h : s.Ok P) (n : Int) {v : Vl} (hv : v.In P.vars.length s.things.length P.funs.length) : (s.set n v).Ok P := by
 refine ⟨by simp [Rn.set, h.lv], fun u hu => ?_, h.rt, h.lp⟩
 rcases List.mem_or_eq_of_mem_set hu with hu | rfl
 ·exact h.rv u hu
 ·exact hv
theorem Rn.Ok.put {P : PP} {s : Rn} (h : s.Ok P) (c : Vl) {v : Vl} (hv : v.In P.vars.length s.things.length P.funs.length) : (s.put c v).Ok P := by
 cases c with
 | none => exact h
 | fn n => exact h
 | var n => exact h.set (n : Int) hv
 | thing n =>
  refine ⟨h.lv, fun u hu => ?_, fun u hu => ?_, ?_⟩
  ·simp only [Rn.put, List.length_set]; exact h.rv u hu
  ·simp only [Rn.put, List.length_set]
   rcases List.mem_or_eq_of_mem_set hu with hu | rfl
   ·exact h.rt u hu
   ·exact hv
  ·simp only [Rn.put, List.length_set]; exact h.lp
theorem Rn.Ok.give {P : PP} : ∀ (ps : List Int) (vs : List Vl) {s : Rn}, s.Ok P → (∀ v ∈ vs, v.In P.vars.length s.things.length P.funs.length) → (s.give ps vs).Ok P
 | [], _, _, h, _ => h
 | _ :: _, [], _, h, _ => h
 | p :: ps, v :: vs, s, h, hv => Rn.Ok.give ps vs (h.set p (hv v (List.mem_cons_self ..))) fun u hu => hv u (List.mem_cons_of_mem _ hu)
theorem Rn.Ok.call {P : PP} {s : Rn} (h : s.Ok P) (x : PS) : (s.call P x).Ok P := by
 unfold Rn.call
 split
 ·split
  ·rename_i f _
   unfold Rn.callF
   split
   ·have h1 : (s.give f.params (x.args.map s.at)).Ok P := h.give _ _ (fun v hv => by
     obtain ⟨a, _, rfl⟩ := List.mem_map.1 hv
     exact h.at a)
    exact h1.set _ (h1.at _)
   ·exact h
  ·exact h
 ·exact h
theorem Rn.Ok.stmt {P : PP} {s : Rn} (h : s.Ok P) (k : Nat) {x : PS} (hg : P.Good x) : (s.stmt P k x).Ok P := by
 unfold Rn.stmt
 cases h1 : x.isK kAddr with
 | true =>
  have hf : x.isK kFun = false := by unfold PS.isK at h1 ⊢; rw [eq_of_beq h1]; rfl
  have hn : x.isK kNew = false := by unfold PS.isK at h1 ⊢; rw [eq_of_beq h1]; rfl
  have := hg.yv hf hn
  exact h.set _ (show Vl.In _ _ _ (.var _) by simp only [Vl.In]; omega)
 | false =>
 cases h2 : x.isK kCopy with
 | true => exact h.set _ (h.at _)
 | false =>
 cases h3 : x.isK kLoad with
 | true =>
  simp only [cond_true, cond_false]
  cases h4 : (s.at x.y).isAddr with
  | true => exact h.set _ (h.get _)
  | false => exact h
 | false =>
 cases h4 : x.isK kStore with
 | true => exact h.put _ (h.at _)
 | false =>
 cases h5 : x.isK kNew with
 | true =>
  simp only [cond_true, cond_false]
  refine ⟨by simp [Rn.set, h.lv], fun u hu => ?_, fun u hu => ?_, by simp [h.lp]⟩
  ·rcases List.mem_or_eq_of_mem_set hu with hu | rfl
   ·exact (h.rv u hu).mono (by simp)
   ·simp only [Vl.In, List.length_append, List.length_singleton]; omega
  ·rcases List.mem_append.1 hu with hu | hu
   ·exact (h.rt u hu).mono (by simp)
   ·rw [List.mem_singleton.1 hu]; exact trivial
 | false =>
 cases h6 : x.isK kFun with
 | true =>
  have := hg.yf h6
  exact h.set _ (show Vl.In _ _ _ (.fn _) by simp only [Vl.In]; omega)
 | false =>
 cases h7 : x.isK kCall with
 | true => exact h.call x
 | false => exact h
theorem Rn.Ok.begin (P : PP) : (Rn.begin P).Ok P :=
 ⟨by simp [Rn.begin], fun v hv => by rw [(List.mem_replicate.1 hv).2]; exact trivial, fun v hv => (by cases hv), rfl⟩
def Rn.pl (s : Rn) : List Int := s.places.map Int.ofNat
def store2 (w : World) (g i : Nat) (y : Vl) : World := (w.setCell ⟨g, i, none⟩ (.string y.kind)).setCell ⟨g, i + 1, none⟩ (.int .i64 (y.num : Int))
def Vl.ptr (vv tv : Value) : Vl → Value
 | .var n => .pointer (vv.ownBlock.map fun g => ⟨g, n * 2, Option.none⟩)
 | .thing n => .pointer (tv.ownBlock.map fun g => ⟨g, n * 2, Option.none⟩)
 | _ => .pointer Option.none
theorem isK_ne {x : PS} {k k' : List UInt8} (h : x.isK k = true) (hne : (k == k') = false) : x.isK k' = false := by
 unfold PS.isK at h ⊢
 rw [eq_of_beq h]
 exact hne
theorem PP.inV_eq (P : PP) (n : Int) : P.inV n = (decide (0 ≤ n) && decide (n < P.vars.length)) := by
 unfold PP.inV
 by_cases h1 : n < 0
 ·have h2 : ¬ 0 ≤ n := by omega
  simp [h1, h2]
 ·by_cases h2 : n < P.vars.length
  ·have h3 : 0 ≤ n := by omega
   have h4 : ¬ (P.vars.length : Int) ≤ n := by omega
   simp [h1, h2, h3, h4]
  ·have h4 : (P.vars.length : Int) ≤ n := by omega
   simp [h2, h4]
set_option maxRecDepth 100000 in
set_option maxHeartbeats 1600000 in
theorem risvar_any (a1 a2 a3 : Option Addr) (c1 c2 c3 : Nat) (P : PP) (n : Int) (w : World) :
  Calls Tryz.prog 41 #[pval a1 a2 a3 c1 c2 c3 P, .int .i64 n] w fun e w' => e = .returned (.bool (P.inV n)) ∧ Ext w w' := by
 have Hr := hid (PP.inV_eq P n)
 unfold pval
 generalize P.funs.length = m2 at *
 generalize P.stmts.length = m3 at *
 generalize P.vars.length = m at *
 go_enter Tryz.func41, Tryz.ntmps41
 by_cases hn : 0 ≤ n
 ·by_cases hm : n < m
  ·go_wp2
   go_ret
   exact ⟨by rw [Hr.out, decide_eq_true hn, decide_eq_true hm]; rfl, (Ext.refl _).alloc _⟩
  ·go_wp2
   go_ret
   exact ⟨by rw [Hr.out, decide_eq_true hn, decide_eq_false (show ¬ n < (m : Int) by omega)]; rfl, (Ext.refl _).alloc _⟩
 ·go_wp2
  go_ret
  exact ⟨by rw [Hr.out, decide_eq_false (show ¬ 0 ≤ n by omega)]; rfl, (Ext.refl _).alloc _⟩
set_option maxRecDepth 100000 in
set_option maxHeartbeats 1600000 in
theorem rarevars_any (a1 a2 a3 : Option Addr) (c1 c2 c3 : Nat) (P : PP) (v : Value) (l : List Int) (w : World) (n0 : Nat) (h : IntsR w n0 v l) :
  Calls Tryz.prog 40 #[pval a1 a2 a3 c1 c2 c3 P, v] w fun e w' => e = .returned (.bool (P.allV l)) ∧ Ext w w' := by
 have HI := hid h
 obtain ⟨aa, ca, rfl, h2, h3, h4, h5⟩ := h
 have hml : (l.length : Int) ≤ 9223372036854775807 := by omega
 have H4 := hid h4
 have H5 := hid h5
 obtain ⟨W, hW⟩ : ∃ W, W = w.alloc (.cells (pcells a1 a2 a3 c1 c2 c3 P) 26) := ⟨_, rfl⟩
 have HX : Hid (Ext w W) := hid (by rw [hW]; exact (Ext.refl _).alloc _)
 have HB : Hid (Blk W w.heap.size (pcells a1 a2 a3 c1 c2 c3 P) 26) := hid (by rw [hW]; exact Blk.new _ _ _)
 have HV := fun n w1 => hid (risvar_any a1 a2 a3 c1 c2 c3 P n w1)
 unfold pval at HV ⊢
 unfold pcells at hW
 have HW := hid hW
 clear h2 h3 h4 h5 hW
 go_enter Tryz.func40, Tryz.ntmps40
 go_wp2
 rw [← HW.out]
 go_loopw [5] (fun t5 wr => ∃ k : Nat, t5 = .int .i64 (k : Int) ∧ k ≤ l.length ∧ (∀ j t, j < k → l[j]? = some t → P.inV t = true) ∧ Ext W wr) (fun t5 _ => l.length - (intOf t5).toNat)
 case atStart => exact ⟨0, rfl, Nat.zero_le _, fun j t h => by omega, Ext.refl _⟩
 case round =>
  obtain ⟨k, rfl, hk, hp, hx⟩ := hrel
  have Hp := hid hp
  have Hx := hid hx
  clear hp hx
  by_cases hlt : k < l.length
  ·obtain ⟨y, rfl⟩ := H4.out (by omega)
   obtain ⟨q, hq⟩ : ∃ q, l[k]? = some q := ⟨_, List.getElem?_eq_getElem hlt⟩
   have hc := (HX.out.trans Hx.out).cellx ((H5.out y rfl (by omega)).2 k hlt q hq)
   have hcK : ∀ w1, Keep (fun _ => False) wr w1 → w1.cell? (y.add k) = some (.int .i64 q) := fun w1 k => k.ext.cellx hc
   have d0 := (HB.out.ext Hx.out).kc (X := fun _ => False) (fun e => e) 0 rfl
   have d1 := (HB.out.ext Hx.out).kc (X := fun _ => False) (fun e => e) 1 rfl
   have d2 := (HB.out.ext Hx.out).kc (X := fun _ => False) (fun e => e) 2 rfl
   simp only [pcells, qA0, qA1, qA2] at d0 d1 d2
   have Hq := hid hq
   clear hq hc
   go_wp2
   refine wp_flowT (fun _ => False) (by kernel_rfl) (by kernel_rfl) ?_
   repeat (apply FlowT.d; (intro w1 hk; unfold does; go_simp; (try go_ints); (first | exact DetR.mk | (simp only [↓IntWalk.iteOmega, Oper.doesUpon_value]; exact DetR.mk) | (simp only [↓IntWalk.iteOmega]; go_simp; (try go_ints); exact DetR.mk))); simp only [Act.put, qS0, qS1, qS2])
   apply FlowT.d
   ·intro w1 hk
    unfold does
    go_simp
    exact CallR.det ((HV q w1).out)
   simp only [Act.put, qS0, qS1, qS2]
   repeat (apply FlowT.d; (intro w1 hk; unfold does; go_simp; (try go_ints); (first | exact DetR.mk | (simp only [↓IntWalk.iteOmega, Oper.doesUpon_value]; exact DetR.mk) | (simp only [↓IntWalk.iteOmega]; go_simp; (try go_ints); exact DetR.mk))); simp only [Act.put, qS0, qS1, qS2])
   refine FlowT.fin fun w2 hx2 hk2 => ?_
   have HX2 := hid (Hx.out.trans hx2)
   clear hx2 hk2 hcK d0 d1 d2
   cases hv : P.inV q with
   | true =>
    have Hv := hid hv
    clear hv
    go_wp2
    go_roundw
    case rel =>
     refine ⟨k + 1, by go_num, by omega, fun j t hj ht => ?_, HX2.out⟩
     by_cases hjk : j = k
     ·subst hjk
      obtain rfl := Option.some.inj (Hq.out.symm.trans ht)
      exact Hv.out
     ·exact Hp.out j t (by omega) ht
    case measure => simp [intOf]; omega
   | false =>
    have Hr := hid (show P.allV l = false from List.all_eq_false.2 ⟨q, List.mem_of_getElem? Hq.out, by rw [hv]; decide⟩)
    go_wp2
    go_ret
    exact ⟨by rw [Hr.out]; rfl, HX.out.trans HX2.out⟩
  ·obtain rfl : k = l.length := by omega
   have Hr := hid (show P.allV l = true from List.all_eq_true.2 fun t ht => by
    obtain ⟨j, hj, e⟩ := List.mem_iff_getElem.1 ht
    exact Hp.out j t hj (by rw [List.getElem?_eq_getElem hj, e]))
   go_wp2
   go_ret
   exact ⟨by rw [Hr.out]; rfl, HX.out.trans Hx.out⟩
set_option maxRecDepth 100000 in
set_option maxHeartbeats 1600000 in
theorem rhas_any (v : Value) (l : List Int) (s : Int) (w : World) (n0 : Nat) (h : IntsR w n0 v l) :
  Calls Tryz.prog 15 #[v, .int .i64 s] w fun e w' => e = .returned (.bool (decide (s ∈ l))) ∧ w = w' := by
 obtain ⟨aa, ca, rfl, h2, h3, h4, h5⟩ := h
 have hml : (l.length : Int) ≤ 9223372036854775807 := by omega
 have H4 := hid h4
 have H5 := hid h5
 clear h2 h3 h4 h5
 go_enter Tryz.func15, Tryz.ntmps15
 go_wp2
 go_loop [5] (fun t5 => ∃ k : Nat, t5 = .int .i64 (k : Int) ∧ k ≤ l.length ∧ ∀ j t, j < k → l[j]? = some t → t ≠ s) (fun t5 => l.length - (intOf t5).toNat)
 case atStart => exact ⟨0, rfl, Nat.zero_le _, fun j t h => by omega⟩
 case round =>
  obtain ⟨k, rfl, hk, hp⟩ := hrel
  have Hp := hid hp
  clear hp
  by_cases hlt : k < l.length
  ·obtain ⟨y, rfl⟩ := H4.out (by omega)
   obtain ⟨q, hq⟩ : ∃ q, l[k]? = some q := ⟨_, List.getElem?_eq_getElem hlt⟩
   have hc := (H5.out y rfl (by omega)).2 k hlt q hq
   have Hq := hid hq
   clear hq
   by_cases he : q = s
   ·subst he
    have Hin := hid (List.mem_of_getElem? Hq.out)
    go_wp2
    go_ret
    exact ⟨by rw [decide_eq_true Hin.out]; rfl, rfl⟩
   ·have He := hid he
    go_wp2
    refine ⟨⟨k + 1, by go_num, by omega, fun j t hj ht => ?_⟩, by simp [intOf]; omega⟩
    by_cases hjk : j = k
    ·subst hjk
     obtain rfl := Option.some.inj (Hq.out.symm.trans ht)
     exact He.out
    ·exact Hp.out j t (by omega) ht
  ·obtain rfl : k = l.length := by omega
   have Hn := hid (show ¬ s ∈ l from fun ht => by
    obtain ⟨j, hj, e⟩ := List.mem_iff_getElem.1 ht
    exact Hp.out j s hj (by rw [List.getElem?_eq_getElem hj, e]) rfl)
   go_wp2
   go_ret
   exact ⟨by rw [decide_eq_false Hn.out]; rfl, rfl⟩
theorem eqB_comm (s t : ByteArray) : eqB s t = (t.toList == s.toList) := by
 unfold eqB
 rw [Bool.eq_iff_iff, beq_iff_eq, beq_iff_eq]
 exact ⟨fun h => h.symm, fun h => h.symm⟩
set_option maxRecDepth 100000 in
set_option maxHeartbeats 1600000 in
theorem rhastext_any (v : Value) (l : List ByteArray) (s : ByteArray) (w : World) (n0 : Nat) (h : StrsR w n0 v l) :
  Calls Tryz.prog 86 #[v, .string s] w fun e w' => e = .returned (.bool (memB s l)) ∧ w = w' := by
 obtain ⟨aa, ca, rfl, h2, h3, h4, h5⟩ := h
 have hml : (l.length : Int) ≤ 9223372036854775807 := by omega
 have H4 := hid h4
 have H5 := hid h5
 clear h2 h3 h4 h5
 go_enter Tryz.func86, Tryz.ntmps86
 go_wp2
 go_loop [5] (fun t5 => ∃ k : Nat, t5 = .int .i64 (k : Int) ∧ k ≤ l.length ∧ ∀ j t, j < k → l[j]? = some t → eqB s t = false) (fun t5 => l.length - (intOf t5).toNat)
 case atStart => exact ⟨0, rfl, Nat.zero_le _, fun j t h => by omega⟩
 case round =>
  obtain ⟨k, rfl, hk, hp⟩ := hrel
  have Hp := hid hp
  clear hp
  by_cases hlt : k < l.length
  ·obtain ⟨y, rfl⟩ := H4.out (by omega)
   obtain ⟨q, hq⟩ : ∃ q, l[k]? = some q := ⟨_, List.getElem?_eq_getElem hlt⟩
   have hc := (H5.out y rfl (by omega)).2 k hlt q hq
   have Hq := hid hq
   clear hq
   cases he : eqB s q with
   | true =>
    have Hin := hid (show memB s l = true from List.any_eq_true.2 ⟨q, List.mem_of_getElem? Hq.out, he⟩)
    rw [eqB_comm] at he
    go_wp2
    go_ret
    exact ⟨by rw [Hin.out]; rfl, rfl⟩
   | false =>
    have He := hid he
    rw [eqB_comm] at he
    go_wp2
    refine ⟨⟨k + 1, by go_num, by omega, fun j t hj ht => ?_⟩, by simp [intOf]; omega⟩
    by_cases hjk : j = k
    ·subst hjk
     obtain rfl := Option.some.inj (Hq.out.symm.trans ht)
     exact He.out
    ·exact Hp.out j t (by omega) ht
  ·obtain rfl : k = l.length := by omega
   have Hn := hid (show memB s l = false from List.any_eq_false.2 fun t ht => by
    obtain ⟨j, hj, e⟩ := List.mem_iff_getElem.1 ht
    rw [Hp.out j t hj (by rw [List.getElem?_eq_getElem hj, e])]
    decide)
   go_wp2
   go_ret
   exact ⟨by rw [Hn.out]; rfl, rfl⟩
end Go.Proofs.YtngdpnlgnpdkcaaGreatDoor
namespace Go.Proofs.YtngdpnlgnpdkcaaGreatDoor
open Go Go.RowKit Go.Shelf
open Go.Lib (trimS trimLeftS trimRightS toList_data)
theorem dw_nil {p : UInt8 → Bool} : ∀ l : List UInt8, (∀ x ∈ l, p x = true) → l.dropWhile p = []
 | [], _ => rfl
 | a :: l, h => by
  rw [List.dropWhile_cons, h a (List.mem_cons_self ..)]
  exact dw_nil l fun x hx => h x (List.mem_cons_of_mem _ hx)
theorem dw_mem {p : UInt8 → Bool} : ∀ (l : List UInt8) (b : UInt8), b ∈ l → p b = false → ∃ a r, l.dropWhile p = a :: r ∧ p a = false
 | a :: l, b, hb, hp => by
  cases ha : p a with
  | false => exact ⟨a, l, by rw [List.dropWhile_cons, ha]; rfl, ha⟩
  | true =>
   rcases List.mem_cons.1 hb with rfl | hb
   ·rw [ha] at hp; cases hp
   ·rw [List.dropWhile_cons, ha]
    exact dw_mem l b hb hp
theorem trimS_nil (l cs : List UInt8) : trimS l cs = [] ↔ ∀ b ∈ l, cs.contains b = true := by
 unfold trimS trimLeftS trimRightS
 constructor
 ·intro h b hb
  cases hp : cs.contains b with
  | true => rfl
  | false =>
   obtain ⟨a, r, he, ha⟩ := dw_mem (p := (cs.contains ·)) l.reverse b (List.mem_reverse.2 hb) hp
   rw [he] at h
   obtain ⟨a2, r2, he2, _⟩ := dw_mem (p := (cs.contains ·)) (a :: r).reverse a (List.mem_reverse.2 (List.mem_cons_self ..)) ha
   rw [he2] at h
   cases h
 ·intro h
  rw [dw_nil (p := (cs.contains ·)) l.reverse fun x hx => h x (List.mem_reverse.1 hx)]
  rfl
def okAt (b k : Nat) : Bool := (decide (97 ≤ b) && decide (b ≤ 122)) || (decide (48 ≤ b) && decide (b ≤ 57) && !decide (k = 0))
theorem letters_has (b : UInt8) : lettersS.data.toList.contains b = ((decide (97 ≤ b.toNat) && decide (b.toNat ≤ 122)) || (decide (48 ≤ b.toNat) && decide (b.toNat ≤ 57))) := by
 have h : ∀ n, n < 256 → lettersS.data.toList.contains (UInt8.ofNat n) = ((decide (97 ≤ n) && decide (n ≤ 122)) || (decide (48 ≤ n) && decide (n ≤ 57))) := by decide +kernel
 have := h b.toNat b.toNat_lt
 rwa [UInt8.ofNat_toNat] at this
theorem nameRest_iff (s : ByteArray) : nameRest s = true ↔ ∀ (k : Nat) (h : k < s.size), lettersS.data.toList.contains s[k] = true := by
 unfold nameRest eqB
 rw [beq_iff_eq, toList_data, toList_data]
 show trimS s.data.toList lettersS.data.toList = [] ↔ _
 rw [trimS_nil]
 constructor
 ·intro h k hk
  refine h _ ?_
  have : s.data.toList[k]? = some s[k] := by
   rw [List.getElem?_eq_getElem (by simpa using hk)]
   rfl
  exact List.mem_of_getElem? this
 ·intro h b hb
  obtain ⟨k, hk, e⟩ := List.mem_iff_getElem.1 hb
  have hk' : k < s.size := by simpa using hk
  have := h k hk'
  rwa [show s[k] = b from e] at this
theorem nameOk_iff (s : ByteArray) : nameOk s = true ↔ memB s reserved = false ∧ 1 ≤ s.size ∧ s.size ≤ 8 ∧ ∀ (k : Nat) (h : k < s.size), okAt s[k].toNat k = true := by
 unfold nameOk
 simp only [Bool.and_eq_true, Bool.not_eq_true', decide_eq_true_eq]
 rw [nameRest_iff]
 have he : s.toList.isEmpty = false ↔ 1 ≤ s.size := by
  rw [toList_data]
  have hl : s.data.toList.length = s.size := by simp
  cases h : s.data.toList with
  | nil =>
   have hz : s.size = 0 := by rw [← hl, h]; rfl
   exact ⟨fun h => (by cases h), fun h => by omega⟩
  | cons a r =>
   have hz : s.size = r.length + 1 := by rw [← hl, h]; rfl
   exact ⟨fun _ => by omega, fun _ => rfl⟩
 rw [he]
 constructor
 ·rintro ⟨h1, ⟨⟨⟨⟨h2, h3⟩, h4⟩, h5⟩, h6⟩⟩
  refine ⟨h1, h2, h3, fun k hk => ?_⟩
  have h7 := h6 k hk
  rw [letters_has] at h7
  unfold okAt
  by_cases h0 : k = 0
  ·subst h0
   have hf : first s = s[0].toNat := by unfold first; rw [dif_pos hk]
   rw [hf] at h4 h5
   simp [h4, h5]
  ·simp only [h0, decide_false, Bool.not_false, Bool.and_true]
   exact h7
 ·rintro ⟨h1, h2, h3, h4⟩
  have hz : 0 < s.size := h2
  have hf : first s = s[0].toNat := by unfold first; rw [dif_pos hz]
  have h0 := h4 0 hz
  unfold okAt at h0
  simp at h0
  refine ⟨h1, ⟨⟨⟨⟨h2, h3⟩, by rw [hf]; exact h0.1⟩, by rw [hf]; exact h0.2⟩, fun k hk => ?_⟩⟩
  have h5 := h4 k hk
  rw [letters_has]
  unfold okAt at h5
  simp only [Bool.or_eq_true, Bool.and_eq_true] at h5 ⊢
  exact h5.imp id fun h => h.1
set_option maxRecDepth 100000 in
set_option maxHeartbeats 3200000 in
theorem risname_any (s : ByteArray) (w : World) (hs : s.size ≤ 9223372036854775807) : Calls Tryz.prog 39 #[.string s] w fun e w' => e = .returned (.bool (nameOk s)) ∧ w = w' := by
 go_enter Tryz.func39, Tryz.ntmps39
 have hres : memB s reserved = ((s.toList == [118, 97, 114]) || ((s.toList == [102, 110]) || ((s.toList == [110, 101, 119]) || (s.toList == [99, 97, 108, 108])))) := by
  have t1 : (⟨#[118, 97, 114]⟩ : ByteArray).toList = [118, 97, 114] := by decide +kernel
  have t2 : (⟨#[102, 110]⟩ : ByteArray).toList = [102, 110] := by decide +kernel
  have t3 : (⟨#[110, 101, 119]⟩ : ByteArray).toList = [110, 101, 119] := by decide +kernel
  have t4 : (⟨#[99, 97, 108, 108]⟩ : ByteArray).toList = [99, 97, 108, 108] := by decide +kernel
  simp only [memB, reserved, List.any_cons, List.any_nil, Bool.or_false, eqB, t1, t2, t3, t4]
 cases hm : memB s reserved with
 | true =>
  have Hr := hid (show nameOk s = false by unfold nameOk; rw [hm]; rfl)
  rw [hm] at hres
  have Hres := hid hres
  clear hm hres
  cases h1 : (s.toList == [118, 97, 114]) with
  | true =>
   go_wp2
   go_ret
   exact ⟨by rw [Hr.out]; rfl, rfl⟩
  | false =>
   cases h2 : (s.toList == [102, 110]) with
   | true =>
    go_wp2
    go_ret
    exact ⟨by rw [Hr.out]; rfl, rfl⟩
   | false =>
    cases h3 : (s.toList == [110, 101, 119]) with
    | true =>
    go_wp2
    go_ret
    exact ⟨by rw [Hr.out]; rfl, rfl⟩
    | false =>
     cases h4 : (s.toList == [99, 97, 108, 108]) with
     | true =>
    go_wp2
    go_ret
    exact ⟨by rw [Hr.out]; rfl, rfl⟩
     | false => have hres := Hres.out; rw [h1, h2, h3, h4] at hres; cases hres
 | false =>
  have Hm := hid hm
  rw [hm] at hres
  obtain ⟨h1, h2, h3, h4⟩ : (s.toList == [118, 97, 114]) = false ∧ (s.toList == [102, 110]) = false ∧ (s.toList == [110, 101, 119]) = false ∧ (s.toList == [99, 97, 108, 108]) = false := by
   have := hres.symm
   simp only [Bool.or_eq_false_iff] at this
   exact ⟨this.1, this.2.1, this.2.2.1, this.2.2.2⟩
  clear hm hres
  go_wp2
  clear h1 h2 h3 h4
  go_loop [3] (fun t3 => ∃ k : Nat, t3 = .int .i64 (k : Int) ∧ k ≤ s.size ∧ ∀ (j : Nat) (h : j < s.size), j < k → okAt s[j].toNat j = true) (fun t3 => s.size - (intOf t3).toNat)
  case atStart => exact ⟨0, rfl, Nat.zero_le _, fun j h hj => by omega⟩
  case round =>
   obtain ⟨k, rfl, hk, hp⟩ := hrel
   have Hp := hid hp
   clear hp
   by_cases hlt : k < s.size
   ·have hb : s[k].toNat < 256 := byte_lt _
    by_cases l1 : 97 ≤ s[k].toNat
    ·by_cases l2 : s[k].toNat ≤ 122
     ·have Hok := hid (show okAt s[k].toNat k = true by unfold okAt; simp [l1, l2])
      have d1 : 48 ≤ s[k].toNat := by omega
      have d2 : ¬ s[k].toNat ≤ 57 := by omega
      go_wp2
      refine ⟨⟨k + 1, by go_num, by omega, fun j h hj => ?_⟩, by simp [intOf]; omega⟩
      by_cases hjk : j = k
      ·subst hjk
       exact Hok.out
      ·exact Hp.out j h (by omega)
     ·have d1 : 48 ≤ s[k].toNat := by omega
      have d2 : ¬ s[k].toNat ≤ 57 := by omega
      have e1 : decide ((s[k].toNat : Int) ≤ 122) = false := decide_eq_false (by omega)
      have e2 : decide ((s[k].toNat : Int) ≤ 57) = false := decide_eq_false (by omega)
      have Hr := hid (show nameOk s = false by
       cases hn : nameOk s with
       | false => rfl
       | true =>
        have h := ((nameOk_iff s).1 hn).2.2.2 k hlt
        unfold okAt at h
        simp at h
        omega)
      go_wp2
      go_ret
      exact ⟨by rw [Hr.out]; rfl, rfl⟩
    ·by_cases d1 : 48 ≤ s[k].toNat
     ·by_cases d2 : s[k].toNat ≤ 57
      ·by_cases h0 : k = 0
       ·subst h0
        have Hr := hid (show nameOk s = false by
         cases hn : nameOk s with
         | false => rfl
         | true =>
          have h := ((nameOk_iff s).1 hn).2.2.2 0 hlt
          unfold okAt at h
          simp at h
          omega)
        go_wp2
        go_ret
        exact ⟨by rw [Hr.out]; rfl, rfl⟩
       ·have Hok := hid (show okAt s[k].toNat k = true by unfold okAt; simp [d1, d2, h0])
        go_wp2
        refine ⟨⟨k + 1, by go_num, by omega, fun j h hj => ?_⟩, by simp [intOf]; omega⟩
        by_cases hjk : j = k
        ·subst hjk
         exact Hok.out
        ·exact Hp.out j h (by omega)
      ·have e2 : decide ((s[k].toNat : Int) ≤ 57) = false := decide_eq_false (by omega)
       have Hr := hid (show nameOk s = false by
        cases hn : nameOk s with
        | false => rfl
        | true =>
         have h := ((nameOk_iff s).1 hn).2.2.2 k hlt
         unfold okAt at h
         simp at h
         omega)
       go_wp2
       go_ret
       exact ⟨by rw [Hr.out]; rfl, rfl⟩
     ·have Hr := hid (show nameOk s = false by
       cases hn : nameOk s with
       | false => rfl
       | true =>
        have h := ((nameOk_iff s).1 hn).2.2.2 k hlt
        unfold okAt at h
        simp at h
        omega)
      go_wp2
      go_ret
      exact ⟨by rw [Hr.out]; rfl, rfl⟩
   ·obtain rfl : k = s.size := by omega
    have Hall := hid (show ∀ (j : Nat) (h : j < s.size), okAt s[j].toNat j = true from fun j h => Hp.out j h h)
    by_cases z1 : 1 ≤ s.size
    ·by_cases z2 : s.size ≤ 8
     ·have Hr := hid ((nameOk_iff s).2 ⟨Hm.out, z1, z2, Hall.out⟩)
      have H8 := hid (show decide ((s.size : Int) ≤ 8) = true from decide_eq_true (by omega))
      go_wp2
      go_ret
      exact ⟨by rw [Hr.out]; exact congrArg (fun b => Ending.returned (Value.bool b)) H8.out, rfl⟩
     ·have Hr := hid (show nameOk s = false by
       cases hn : nameOk s with
       | false => rfl
       | true => exact absurd ((nameOk_iff s).1 hn).2.2.1 z2)
      have H8 := hid (show decide ((s.size : Int) ≤ 8) = false from decide_eq_false (by omega))
      go_wp2
      go_ret
      exact ⟨by rw [Hr.out]; exact congrArg (fun b => Ending.returned (Value.bool b)) H8.out, rfl⟩
    ·have Hr := hid (show nameOk s = false by
      cases hn : nameOk s with
      | false => rfl
      | true => exact absurd ((nameOk_iff s).1 hn).2.1 z1)
     go_wp2
     go_ret
     exact ⟨by rw [Hr.out]; rfl, rfl⟩
end Go.Proofs.YtngdpnlgnpdkcaaGreatDoor
namespace Go.Proofs.YtngdpnlgnpdkcaaGreatDoor
open Go Go.RowKit
set_option maxRecDepth 100000 in
set_option maxHeartbeats 12800000 in
theorem rstmterr_any (a1 a2 a3 : Option Addr) (c1 c2 c3 : Nat) (P : PP) (s : PS) (a : Option Addr) (cap : Nat) (w : World) (n0 : Nat) (h : IntsR w n0 (.slice a s.args.length cap) s.args) (hfl : (P.funs.length : Int) ≤ 9223372036854775807) (hal : (s.args.length : Int) ≤ 9223372036854775807) :
  Calls Tryz.prog 42 #[pval a1 a2 a3 c1 c2 c3 P, sval s a cap] w fun e w' => e = .returned (.int .i64 (P.stmtErr s : Int)) ∧ Ext w w' := by
 have HI := hid h
 clear h
 obtain ⟨W2, hW2⟩ : ∃ W2, W2 = (w.alloc (.cells (pcells a1 a2 a3 c1 c2 c3 P) 26)).alloc (.cells (scells s a cap) 76) := ⟨_, rfl⟩
 have HW2 : Hid (Ext w W2) := hid (by rw [hW2]; exact ((Ext.refl _).alloc _).alloc _)
 have hsz : W2.heap.size = w.heap.size + 1 + 1 := by rw [hW2, heap_size_alloc, heap_size_alloc]
 have HB10 : Hid (Blk W2 w.heap.size (pcells a1 a2 a3 c1 c2 c3 P) 26) := hid (by rw [hW2]; exact (Blk.new _ _ _).alloc _)
 have HB20 : Hid (Blk W2 (w.heap.size + 1) (scells s a cap) 76) := hid (by
  rw [hW2]
  have := Blk.new (w.alloc (.cells (pcells a1 a2 a3 c1 c2 c3 P) 26)) (scells s a cap) 76
  rwa [heap_size_alloc] at this)
 obtain ⟨W3, hW3⟩ : ∃ W3, W3 = W2.alloc (.cells #[.string ⟨#[97, 100, 100, 114]⟩, .string ⟨#[99, 111, 112, 121]⟩, .string ⟨#[108, 111, 97, 100]⟩, .string ⟨#[115, 116, 111, 114, 101]⟩, .string ⟨#[110, 101, 119]⟩, .string ⟨#[102, 117, 110]⟩, .string ⟨#[99, 97, 108, 108]⟩] 9) := ⟨_, rfl⟩
 have hx3 : Ext W2 W3 := by rw [hW3]; exact (Ext.refl _).alloc _
 have H1 : Hid (Calls Tryz.prog 86 #[.slice (some ⟨W2.heap.size, 0, none⟩) 7 7, .string s.kind] W3 fun e w' => e = .returned (.bool (memB s.kind kindsS)) ∧ W3 = w') := hid (by
  refine rhastext_any (.slice (some ⟨W2.heap.size, 0, none⟩) 7 7) kindsS s.kind W3 W3.heap.size (StrsR.blk (l := kindsS) (c := #[.string ⟨#[97, 100, 100, 114]⟩, .string ⟨#[99, 111, 112, 121]⟩, .string ⟨#[108, 111, 97, 100]⟩, .string ⟨#[115, 116, 111, 114, 101]⟩, .string ⟨#[110, 101, 119]⟩, .string ⟨#[102, 117, 110]⟩, .string ⟨#[99, 97, 108, 108]⟩]) (t := 9) ?_ rfl (by decide))
  rw [hW3]; exact Blk.new _ _ _)
 rw [hsz] at H1
 unfold pcells scells at hW2
 rw [hW2] at hW3
 have HW3 := hid hW3
 have HV := fun n w1 => hid (risvar_any a1 a2 a3 c1 c2 c3 P n w1)
 have H4 := hid fun w1 (x : Ext w w1) => rarevars_any a1 a2 a3 c1 c2 c3 P (.slice a s.args.length cap) s.args w1 n0 (HI.out.old (x.old n0))
 unfold pval at HV H4
 clear hW2 hsz hW3
 unfold pval sval
 have Hx3 := hid (HW2.out.trans hx3)
 have HB1 := hid (HB10.out.ext hx3)
 have HB2 := hid (HB20.out.ext hx3)
 have d0 := HB1.out.av 0 rfl
 have k0 := HB2.out.av 0 rfl
 simp only [pcells, scells, qA0, qA1, qA2] at d0 k0
 rw [HW3.out] at k0
 clear hx3
 go_enter Tryz.func42, Tryz.ntmps42
 go_wp2_with fail
 rw [← HW3.out]
 refine H1.out.mono ?_
 intro e w3 hx
 obtain ⟨rfl, rfl⟩ := hx
 clear H1 d0 k0
 cases hm : memB s.kind kindsS with
 | false =>
  have Hr := hid (show P.stmtErr s = 4 by unfold PP.stmtErr; rw [hm]; rfl)
  clear hm
  go_wp2
  go_ret
  exact ⟨by rw [Hr.out]; rfl, Hx3.out⟩
 | true =>
 have Hm := hid hm
 clear hm
 have d0 := HB1.out.av 0 rfl
 have d1 := HB1.out.av 1 rfl
 have d2 := HB1.out.av 2 rfl
 have k1 := HB2.out.av 1 rfl
 simp only [pcells, scells, qA0, qA1, qA2] at d0 d1 d2 k1
 go_wp2_with fail
 refine (HV s.x W3).out.mono ?_
 intro e w4 hx
 obtain ⟨rfl, hx4⟩ := hx
 have Hx4 := hid hx4
 clear d0 d1 d2 k1 hx4
 have d0 := (HB1.out.ext Hx4.out).av 0 rfl
 have d1 := (HB1.out.ext Hx4.out).av 1 rfl
 have d2 := (HB1.out.ext Hx4.out).av 2 rfl
 have k2 := (HB2.out.ext Hx4.out).av 2 rfl
 simp only [pcells, scells, qA0, qA1, qA2] at d0 d1 d2 k2
 go_wp2_with fail
 refine (HV s.y w4).out.mono ?_
 intro e w5 hx
 obtain ⟨rfl, hx5⟩ := hx
 have Hy5 := hid (Hx4.out.trans hx5)
 have Hx5 := hid (Hx3.out.trans Hy5.out)
 clear d0 d1 d2 k2 hx5
 have HB1' := hid (HB1.out.ext Hy5.out)
 have HB2' := hid (HB2.out.ext Hy5.out)
 have d0 := HB1'.out.av 0 rfl
 have d1 := HB1'.out.av 1 rfl
 have d2 := HB1'.out.av 2 rfl
 have k0 := HB2'.out.av 0 rfl
 have k1 := HB2'.out.av 1 rfl
 have k2 := HB2'.out.av 2 rfl
 have k3 := HB2'.out.av 3 rfl
 simp only [pcells, scells, qA0, qA1, qA2] at d0 d1 d2 k0 k1 k2 k3
 clear HV HB1 HB10 HB20 HB1'
 replace HB2 := HB2'
 cases hf : (s.kind.toList == [102, 117, 110]) with
 | true =>
  have Hf := hid (show s.isK kFun = true from hf)
  have hn : (s.kind.toList == [110, 101, 119]) = false := by rw [eq_of_beq hf]; rfl
  by_cases y1 : 0 ≤ s.y
  ·by_cases y2 : s.y < (P.funs.length : Int)
   ·have HYv := hid (show P.boundY s = true by unfold PP.boundY; rw [Hf.out, decide_eq_true y1, decide_eq_true y2]; rfl)
    go_wp2_with fail
    refine (H4.out _ Hx5.out).mono ?_
    intro e w6 hx
    obtain ⟨rfl, hx6⟩ := hx
    have Hx6 := hid (Hx5.out.trans hx6)
    clear d0 d1 d2 k0 k1 k2 k3
    have k0 := (HB2.out.ext hx6).av 0 rfl
    have k2 := (HB2.out.ext hx6).av 2 rfl
    have k3 := (HB2.out.ext hx6).av 3 rfl
    simp only [scells, qA0, qA1, qA2] at k0 k2 k3
    clear hx6 H4
    cases hx0 : P.inV s.x with
    | false =>
     have HX := hid hx0
     have Hr := hid (show P.stmtErr s = 2 by unfold PP.stmtErr PP.bound; rw [Hm.out, HX.out]; rfl)
     clear hx0
     go_wp2
     go_ret
     exact ⟨by rw [Hr.out]; rfl, Hx6.out⟩
    | true =>
     have HX := hid hx0
     clear hx0
     cases ha0 : P.allV s.args with
     | false =>
      have HA := hid ha0
      clear ha0
      have Hr := hid (show P.stmtErr s = 2 by unfold PP.stmtErr PP.bound; rw [Hm.out, HX.out, HYv.out, HA.out]; rfl)
      go_wp2
      go_ret
      exact ⟨by rw [Hr.out]; rfl, Hx6.out⟩
     | true =>
      have HBd := hid (show P.bound s = true by unfold PP.bound; rw [HX.out, HYv.out, ha0]; rfl)
      clear ha0
      have Hn := hid (show s.isK kNew = false from hn)
      cases hc : (s.kind.toList == [99, 97, 108, 108]) with
      | true =>
       have Hc := hid (show s.isK kCall = true from hc)
       by_cases h3 : 3 < s.args.length
       ·have Hr := hid (show P.stmtErr s = 9 by unfold PP.stmtErr; rw [Hm.out]; simp only [HBd.out, Hc.out, Hn.out]; simp [*])
        go_wp2
        go_ret
        exact ⟨by rw [Hr.out]; rfl, Hx6.out⟩
       ·have Hr := hid (show P.stmtErr s = 0 by unfold PP.stmtErr; rw [Hm.out]; simp only [HBd.out, Hc.out, Hn.out]; simp [*])
        go_wp2
        go_ret
        exact ⟨by rw [Hr.out]; rfl, Hx6.out⟩
      | false =>
       have Hc := hid (show s.isK kCall = false from hc)
       by_cases h0 : 0 < s.args.length
       ·have Hr := hid (show P.stmtErr s = 3 by unfold PP.stmtErr; rw [Hm.out]; simp only [HBd.out, Hc.out]; simp [h0])
        go_wp2
        go_ret
        exact ⟨by rw [Hr.out]; rfl, Hx6.out⟩
       ·have Hr := hid (show P.stmtErr s = 0 by unfold PP.stmtErr; rw [Hm.out]; simp only [HBd.out, Hc.out, Hn.out]; simp [*])
        go_wp2
        go_ret
        exact ⟨by rw [Hr.out]; rfl, Hx6.out⟩
   ·have HYv := hid (show P.boundY s = false by unfold PP.boundY; rw [Hf.out, decide_eq_false y2]; simp)
    go_wp2_with fail
    refine (H4.out _ Hx5.out).mono ?_
    intro e w6 hx
    obtain ⟨rfl, hx6⟩ := hx
    have Hx6 := hid (Hx5.out.trans hx6)
    clear d0 d1 d2 k0 k1 k2 k3
    have k0 := (HB2.out.ext hx6).av 0 rfl
    have k2 := (HB2.out.ext hx6).av 2 rfl
    have k3 := (HB2.out.ext hx6).av 3 rfl
    simp only [scells, qA0, qA1, qA2] at k0 k2 k3
    clear hx6 H4
    cases hx0 : P.inV s.x with
    | false =>
     have HX := hid hx0
     have Hr := hid (show P.stmtErr s = 2 by unfold PP.stmtErr PP.bound; rw [Hm.out, HX.out]; rfl)
     clear hx0
     go_wp2
     go_ret
     exact ⟨by rw [Hr.out]; rfl, Hx6.out⟩
    | true =>
     have HX := hid hx0
     clear hx0
     have Hr := hid (show P.stmtErr s = 2 by unfold PP.stmtErr PP.bound; rw [Hm.out, HX.out, HYv.out]; rfl)
     go_wp2
     go_ret
     exact ⟨by rw [Hr.out]; rfl, Hx6.out⟩
  ·have HYv := hid (show P.boundY s = false by unfold PP.boundY; rw [Hf.out, decide_eq_false y1]; simp)
   go_wp2_with fail
   refine (H4.out _ Hx5.out).mono ?_
   intro e w6 hx
   obtain ⟨rfl, hx6⟩ := hx
   have Hx6 := hid (Hx5.out.trans hx6)
   clear d0 d1 d2 k0 k1 k2 k3
   have k0 := (HB2.out.ext hx6).av 0 rfl
   have k2 := (HB2.out.ext hx6).av 2 rfl
   have k3 := (HB2.out.ext hx6).av 3 rfl
   simp only [scells, qA0, qA1, qA2] at k0 k2 k3
   clear hx6 H4
   cases hx0 : P.inV s.x with
   | false =>
    have HX := hid hx0
    have Hr := hid (show P.stmtErr s = 2 by unfold PP.stmtErr PP.bound; rw [Hm.out, HX.out]; rfl)
    clear hx0
    go_wp2
    go_ret
    exact ⟨by rw [Hr.out]; rfl, Hx6.out⟩
   | true =>
    have HX := hid hx0
    clear hx0
    have Hr := hid (show P.stmtErr s = 2 by unfold PP.stmtErr PP.bound; rw [Hm.out, HX.out, HYv.out]; rfl)
    go_wp2
    go_ret
    exact ⟨by rw [Hr.out]; rfl, Hx6.out⟩
 | false =>
  have Hf := hid (show s.isK kFun = false from hf)
  cases hn : (s.kind.toList == [110, 101, 119]) with
  | true =>
   have HYv := hid (show P.boundY s = true by unfold PP.boundY; rw [Hf.out, show s.isK kNew = true from hn]; rfl)
   go_wp2_with fail
   refine (H4.out _ Hx5.out).mono ?_
   intro e w6 hx
   obtain ⟨rfl, hx6⟩ := hx
   have Hx6 := hid (Hx5.out.trans hx6)
   clear d0 d1 d2 k0 k1 k2 k3
   have k0 := (HB2.out.ext hx6).av 0 rfl
   have k2 := (HB2.out.ext hx6).av 2 rfl
   have k3 := (HB2.out.ext hx6).av 3 rfl
   simp only [scells, qA0, qA1, qA2] at k0 k2 k3
   clear hx6 H4
   cases hx0 : P.inV s.x with
   | false =>
    have HX := hid hx0
    have Hr := hid (show P.stmtErr s = 2 by unfold PP.stmtErr PP.bound; rw [Hm.out, HX.out]; rfl)
    clear hx0
    go_wp2
    go_ret
    exact ⟨by rw [Hr.out]; rfl, Hx6.out⟩
   | true =>
    have HX := hid hx0
    clear hx0
    cases ha0 : P.allV s.args with
    | false =>
     have HA := hid ha0
     clear ha0
     have Hr := hid (show P.stmtErr s = 2 by unfold PP.stmtErr PP.bound; rw [Hm.out, HX.out, HYv.out, HA.out]; rfl)
     go_wp2
     go_ret
     exact ⟨by rw [Hr.out]; rfl, Hx6.out⟩
    | true =>
     have HBd := hid (show P.bound s = true by unfold PP.bound; rw [HX.out, HYv.out, ha0]; rfl)
     clear ha0
     have Hn := hid (show s.isK kNew = true from hn)
     have hc : (s.kind.toList == [99, 97, 108, 108]) = false := by rw [eq_of_beq hn]; rfl
     have Hc := hid (show s.isK kCall = false from hc)
     by_cases h0 : 0 < s.args.length
     ·have Hr := hid (show P.stmtErr s = 3 by unfold PP.stmtErr; rw [Hm.out]; simp only [HBd.out, Hc.out]; simp [h0])
      go_wp2
      go_ret
      exact ⟨by rw [Hr.out]; rfl, Hx6.out⟩
     ·by_cases hy : s.y = 0
      ·have hyb : (s.y != 0) = false := by rw [hy]; rfl
       have Hr := hid (show P.stmtErr s = 0 by unfold PP.stmtErr; rw [Hm.out]; simp only [HBd.out, Hc.out, Hn.out]; simp [*])
       go_wp2
       go_ret
       exact ⟨by rw [Hr.out]; rfl, Hx6.out⟩
      ·have hyb : (s.y != 0) = true := bne_iff_ne.2 hy
       have Hr := hid (show P.stmtErr s = 3 by unfold PP.stmtErr; rw [Hm.out]; simp only [HBd.out, Hc.out, Hn.out]; simp [*])
       go_wp2
       go_ret
       exact ⟨by rw [Hr.out]; rfl, Hx6.out⟩
  | false =>
   cases hy0 : P.inV s.y with
   | true =>
    have HYv := hid (show P.boundY s = true by unfold PP.boundY; rw [Hf.out, show s.isK kNew = false from hn]; exact hy0)
    go_wp2_with fail
    refine (H4.out _ Hx5.out).mono ?_
    intro e w6 hx
    obtain ⟨rfl, hx6⟩ := hx
    have Hx6 := hid (Hx5.out.trans hx6)
    clear d0 d1 d2 k0 k1 k2 k3
    have k0 := (HB2.out.ext hx6).av 0 rfl
    have k2 := (HB2.out.ext hx6).av 2 rfl
    have k3 := (HB2.out.ext hx6).av 3 rfl
    simp only [scells, qA0, qA1, qA2] at k0 k2 k3
    clear hx6 H4
    cases hx0 : P.inV s.x with
    | false =>
     have HX := hid hx0
     have Hr := hid (show P.stmtErr s = 2 by unfold PP.stmtErr PP.bound; rw [Hm.out, HX.out]; rfl)
     clear hx0
     go_wp2
     go_ret
     exact ⟨by rw [Hr.out]; rfl, Hx6.out⟩
    | true =>
     have HX := hid hx0
     clear hx0
     cases ha0 : P.allV s.args with
     | false =>
      have HA := hid ha0
      clear ha0
      have Hr := hid (show P.stmtErr s = 2 by unfold PP.stmtErr PP.bound; rw [Hm.out, HX.out, HYv.out, HA.out]; rfl)
      go_wp2
      go_ret
      exact ⟨by rw [Hr.out]; rfl, Hx6.out⟩
     | true =>
      have HBd := hid (show P.bound s = true by unfold PP.bound; rw [HX.out, HYv.out, ha0]; rfl)
      clear ha0
      have Hn := hid (show s.isK kNew = false from hn)
      cases hc : (s.kind.toList == [99, 97, 108, 108]) with
      | true =>
       have Hc := hid (show s.isK kCall = true from hc)
       by_cases h3 : 3 < s.args.length
       ·have Hr := hid (show P.stmtErr s = 9 by unfold PP.stmtErr; rw [Hm.out]; simp only [HBd.out, Hc.out, Hn.out]; simp [*])
        go_wp2
        go_ret
        exact ⟨by rw [Hr.out]; rfl, Hx6.out⟩
       ·have Hr := hid (show P.stmtErr s = 0 by unfold PP.stmtErr; rw [Hm.out]; simp only [HBd.out, Hc.out, Hn.out]; simp [*])
        go_wp2
        go_ret
        exact ⟨by rw [Hr.out]; rfl, Hx6.out⟩
      | false =>
       have Hc := hid (show s.isK kCall = false from hc)
       by_cases h0 : 0 < s.args.length
       ·have Hr := hid (show P.stmtErr s = 3 by unfold PP.stmtErr; rw [Hm.out]; simp only [HBd.out, Hc.out]; simp [h0])
        go_wp2
        go_ret
        exact ⟨by rw [Hr.out]; rfl, Hx6.out⟩
       ·have Hr := hid (show P.stmtErr s = 0 by unfold PP.stmtErr; rw [Hm.out]; simp only [HBd.out, Hc.out, Hn.out]; simp [*])
        go_wp2
        go_ret
        exact ⟨by rw [Hr.out]; rfl, Hx6.out⟩
   | false =>
    have HYv := hid (show P.boundY s = false by unfold PP.boundY; rw [Hf.out, show s.isK kNew = false from hn]; exact hy0)
    go_wp2_with fail
    refine (H4.out _ Hx5.out).mono ?_
    intro e w6 hx
    obtain ⟨rfl, hx6⟩ := hx
    have Hx6 := hid (Hx5.out.trans hx6)
    clear d0 d1 d2 k0 k1 k2 k3
    have k0 := (HB2.out.ext hx6).av 0 rfl
    have k2 := (HB2.out.ext hx6).av 2 rfl
    have k3 := (HB2.out.ext hx6).av 3 rfl
    simp only [scells, qA0, qA1, qA2] at k0 k2 k3
    clear hx6 H4
    cases hx0 : P.inV s.x with
    | false =>
     have HX := hid hx0
     have Hr := hid (show P.stmtErr s = 2 by unfold PP.stmtErr PP.bound; rw [Hm.out, HX.out]; rfl)
     clear hx0
     go_wp2
     go_ret
     exact ⟨by rw [Hr.out]; rfl, Hx6.out⟩
    | true =>
     have HX := hid hx0
     clear hx0
     have Hr := hid (show P.stmtErr s = 2 by unfold PP.stmtErr PP.bound; rw [Hm.out, HX.out, HYv.out]; rfl)
     go_wp2
     go_ret
     exact ⟨by rw [Hr.out]; rfl, Hx6.out⟩
section
variable {P : Program} {ops : Array Oper} {X : Nat → Prop} {w0 : World} {Q : Act → World → Prop} {L : List Nat}
end
theorem does_append_el {ops : Array Oper} {o : Oper} {a : Act} {w : World} {R : Value → World → Prop} (base : Nat) (hbase : base ≤ w.heap.size) (t e : TypeId) (z : Value) (size bytes : Nat) (ht : Tryz.prog.underlying t = some (.slice e)) (hinf : (Tryz.prog.info? e).map (fun i => (i.zero, i.size, i.bytes)) = some (some z, size, bytes)) (hz1 : z.cells.size = size) (hsz : 0 < size)
  (hb8 : bytes ≤ 64) (hg : o.guard = none) (s x : Operand) (ho : o.op = .call { callee := .builtin .append, args := #[s, x], argTypes := #[t, t] })
  (v : Value) (n : Nat) (xs : List Value) (hs : a.eval s = v) (hown : w.ownsRow base e size v n xs) (g : Nat) (us : List Value) (hul : us.length = size) (hu : ∀ u ∈ us, u.oneCell' = true) (hx : a.eval x = .slice (some ⟨g, 0, none⟩) 1 1) (hb : Blk w g us.toArray e) (hl : n ≤ 1000000)
  (h : ∀ v' w', w'.ownsRow base e size v' (n + 1) (xs ++ us) → Keep (fun k => v.ownBlock = some k) w w' → (v'.ownBlock = v.ownBlock ∨ v'.ownBlock = some w.heap.size) → R v' w') : does Tryz.prog ops o a w R := by
 obtain ⟨ti, hi, hz0, hz, hz2⟩ := info_parts hinf
 obtain ⟨v', w', hr, h2, h3, _, h4⟩ := run_append_own_at (P := Tryz.prog) w base t o.type e ti z size bytes ht hi hz0 hz hz2 hz1 hsz v n xs hown ⟨g, 0, none⟩ 1 1 us (by rw [hul]; omega) (fun j q hq => by
  rw [show (⟨g, 0, none⟩ : Addr).add j = ⟨g, j, none⟩ from by by_cases h0 : j = 0 <;> simp [Addr.add, h0], hb.cell j]
  simpa using hq) hu (by simp only [maxLen]; omega) (by
   have : (n + 1) * bytes ≤ (n + 1) * 64 := Nat.mul_le_mul_left _ hb8
   omega) hbase
 exact does_of_run hg (run_exec_append s x t ho hs hx hr) (h v' w' h2 (grown_keep h3) h4)
section
variable {P : Program} {ops : Array Oper} {X : Nat → Prop} {w0 : World} {Q : Act → World → Prop} {L : List Nat}
theorem Flow.l {listed : Array Bool} {C : World → Prop} {a : Act} {v : Value} (i : Nat) (o : Oper) (ho : ops[i]? = some o) (hr : (Region.ready .any ops listed).contains i = true)
  (h : ∀ w, does P ops o a w (DetR v w)) (k : Flow P ops w0 Q X (i :: L) (listed.setIfInBounds i true) C (a.put o.dst v)) : Flow P ops w0 Q X L listed C a :=
 Flow.loose i o v ho (by simpa using hr) h k
end
def IntOne (k : Nat) (u : Value) (w : World) : Prop := ∃ b, u = .slice (some ⟨b, 0, none⟩) 1 1 ∧ Blk w b #[.int .i64 (k : Int)] 3
theorem IntOne.ext {k : Nat} {u : Value} {w w' : World} (h : IntOne k u w) (x : Ext w w') : IntOne k u w' := by
 obtain ⟨b, e, hb⟩ := h
 exact ⟨b, e, hb.ext x⟩
theorem IntOne.mk (k : Nat) (w : World) : IntOne k (.slice (some ⟨w.heap.size, 0, none⟩) 1 1) (w.alloc (.cells #[.int .i64 (k : Int)] 3)) := ⟨_, rfl, Blk.new _ _ _⟩
theorem isK_of {x : PS} {b : ByteArray} {k : List UInt8} (hb : b.toList = k) (h : eqB x.kind b = true) : x.isK k = true := by
 unfold eqB at h
 rw [hb] at h
 exact h
theorem kind_cases {P : PP} {x : PS} (h : P.stmtErr x = 0) : x.isK kAddr = true ∨ x.isK kCopy = true ∨ x.isK kLoad = true ∨ x.isK kStore = true ∨ x.isK kNew = true ∨ x.isK kFun = true ∨ x.isK kCall = true := by
 unfold PP.stmtErr at h
 cases hm : memB x.kind kindsS with
 | false => rw [hm] at h; simp at h
 | true =>
  simp only [memB, kindsS, List.any_cons, List.any_nil, Bool.or_false, Bool.or_eq_true] at hm
  refine hm.imp (fun h => ?_) (Or.imp (fun h => ?_) (Or.imp (fun h => ?_) (Or.imp (fun h => ?_) (Or.imp (fun h => ?_) (Or.imp (fun h => ?_) (fun h => ?_))))))
  ·exact isK_of (k := kAddr) (by decide +kernel) h
  ·exact isK_of (k := kCopy) (by decide +kernel) h
  ·exact isK_of (k := kLoad) (by decide +kernel) h
  ·exact isK_of (k := kStore) (by decide +kernel) h
  ·exact isK_of (k := kNew) (by decide +kernel) h
  ·exact isK_of (k := kFun) (by decide +kernel) h
  ·exact isK_of (k := kCall) (by decide +kernel) h
def PP.badk (P : PP) (n : Int) : Bool := decide (n < 0) || decide ((P.stmts.length : Int) ≤ n)
def zeroS : Value := .agg #[.slice none 0 0, .slice none 0 0, .slice none 0 0]
def zcells : Array Value := #[.slice none 0 0, .slice none 0 0, .slice none 0 0]
theorem ErrIs.form {ad : Nat → Addr} {P : PP} {w : World} {v : Value} (h : ErrIs ad P w v) : (v = .nilIface ∧ P.err1 = 0 ∧ P.allWell) ∨ ((∃ t x, v = .iface t (.pointer (some x))) ∧ ¬ (P.err1 = 0 ∧ P.allWell)) := by
 rcases h with ⟨h1, h2⟩ | ⟨h1, h2, h3⟩ | ⟨h1, i, s, b, h2, h3, _⟩
 ·refine .inr ⟨?_, fun h => h1 h.1⟩
  obtain ⟨x, hx⟩ : ∃ x, evOf ad P.err1 = .iface 273 (.pointer (some x)) := ⟨_, rfl⟩
  exact ⟨_, _, by rw [h2, hx]⟩
 ·exact .inl ⟨h3, h1, h2⟩
 ·refine .inr ⟨⟨_, _, h3⟩, fun h => h2.2.1 (h.2 i s ?_ h2.1)⟩
  rcases Nat.lt_or_ge i P.stmts.length with h | h
  ·exact h
  ·have h3 := h2.1; rw [List.getElem?_eq_none h] at h3; cases h3
def PP.FirstK (P : PP) (l : List Int) (i : Nat) : Prop := ∃ x, l[i]? = some x ∧ P.badk x = true ∧ ∀ j y, j < i → l[j]? = some y → P.badk y = false
def RunNo (ad : Nat → Addr) (P : PP) (l : List Int) (w : World) (v : Value) : Prop :=
 (¬ (P.err1 = 0 ∧ P.allWell) ∧ ErrIs ad P w v) ∨ (P.err1 = 0 ∧ P.allWell ∧ 2000 < l.length ∧ v = evOf ad 8) ∨
 (P.err1 = 0 ∧ P.allWell ∧ l.length ≤ 2000 ∧ ∃ i b, P.FirstK l i ∧ v = .iface 126 (.pointer (some ⟨b, 0, none⟩)) ∧ Blk w b #[.int .i64 (i : Int), evOf ad 2] 128)
def PP.Runs (P : PP) (l : List Int) : Prop := P.err1 = 0 ∧ P.allWell ∧ l.length ≤ 2000 ∧ ∀ x ∈ l, P.badk x = false
theorem store3_keep (w : World) (g : Nat) (v0 v1 v2 : Value) : Keep (fun b => b = g) w (((w.setCell ⟨g, 0, none⟩ v0).setCell ⟨g, 1, none⟩ v1).setCell ⟨g, 2, none⟩ v2) :=
 have k : ∀ (u : World) j v, Keep (fun b => b = g) w u → Keep (fun b => b = g) w (u.setCell ⟨g, j, none⟩ v) := fun _ _ v h => h.set rfl v
 k _ _ _ (k _ _ _ (k _ _ _ (Keep.refl _ w)))
theorem store3 {w : World} {g : Nat} {x0 x1 x2 v0 v1 v2 : Value} {t : TypeId} (h : Blk w g #[x0, x1, x2] t) : Blk (((w.setCell ⟨g, 0, none⟩ v0).setCell ⟨g, 1, none⟩ v1).setCell ⟨g, 2, none⟩ v2) g #[v0, v1, v2] t := by
 have := ((h.set 0 v0).set 1 v1).set 2 v2
 simpa using this
def FtAt (i : Nat) (ev : Value) (v : Value) (w : World) : Prop := ∃ b, v = .pointer (some ⟨b, 0, none⟩) ∧ Blk w b #[.int .i64 (i : Int), ev] 128
theorem FtAt.ext {i : Nat} {ev v : Value} {w w' : World} (h : FtAt i ev v w) (x : Ext w w') : FtAt i ev v w' := by
 obtain ⟨b, e, h⟩ := h
 exact ⟨b, e, h.ext x⟩
theorem Rn.Ok.step {P : PP} {s : Rn} (h : s.Ok P) (hw : P.allWell) (k : Nat) : (s.step P k).Ok P := by
 unfold Rn.step
 cases hx : P.stmts[k]? with
 | none => exact h
 | some x =>
  have hk : k < P.stmts.length := by
   rcases Nat.lt_or_ge k P.stmts.length with h | h
   ·exact h
   ·rw [List.getElem?_eq_none h] at hx; cases hx
  exact h.stmt k (PP.good (hw k x hk hx))
theorem Rn.Ok.foldl {P : PP} (hw : P.allWell) : ∀ (l : List Nat) {s : Rn}, s.Ok P → (l.foldl (Rn.step P) s).Ok P
 | [], _, h => h
 | k :: l, _, h => Rn.Ok.foldl hw l (h.step hw k)
theorem Rn.Ok.run {P : PP} (hw : P.allWell) (l : List Nat) : (Rn.run P l).Ok P := Rn.Ok.foldl hw l (Rn.Ok.begin P)
theorem ElR.lift {n0 n1 n : Nat} {v : Value} {E : Nat → Addr → Prop} (h : ElR n0 v n E) (hn : n0 ≤ n1) : ElR n1 v n E := h.mono hn fun _ _ _ _ h => h
theorem ProgR.lift {w : World} {n0 n1 : Nat} {v1 v2 v3 : Value} {P : PP} (h : ProgR w n0 v1 v2 v3 P) (hn : n0 ≤ n1) : ProgR w n1 v1 v2 v3 P :=
 ⟨ElR.lift h.vars hn, ElR.mono h.funs hn fun i y _ _ hE f hf => by
  obtain ⟨pv, h1, h2, h3, h4⟩ := hE f hf
  exact ⟨pv, h1, h2, h3, ElR.lift h4 hn⟩, ElR.mono h.stmts hn fun i y _ _ hE f hf => by
  obtain ⟨pv, h1, h2, h3, h4, h5⟩ := hE f hf
  exact ⟨pv, h1, h2, h3, h4, ElR.lift h5 hn⟩⟩
theorem IntsR.at {w : World} {n0 : Nat} {a : Option Addr} {n cap : Nat} {l : List Int} (h : IntsR w n0 (.slice a n cap) l) {k : Nat} (hk : k < l.length) : ∃ y q, a = some y ∧ l[k]? = some q ∧ w.cell? (y.add k) = some (.int .i64 q) := by
 obtain ⟨a', cap', h1, h2, h3, h4, h5⟩ := h
 obtain ⟨rfl, rfl, rfl⟩ : a = a' ∧ n = l.length ∧ cap = cap' := by simpa using h1
 obtain ⟨y, rfl⟩ := h4 (by omega)
 have hx : l[k]? = some (l[k]'hk) := List.getElem?_eq_getElem hk
 exact ⟨y, _, rfl, hx, (h5 y rfl (by omega)).2 k hk _ hx⟩
theorem PP.funs_ok {P : PP} (h : P.err1 = 0) : P.funsErr = 0 := by
 unfold PP.err1 at h
 cases hb : P.big with
 | true => rw [hb] at h; simp at h
 | false =>
  rw [hb] at h
  simp only [cond_false] at h
  split at h
  ·omega
  ·split at h
   ·omega
   ·exact h
def FaultIs (P : PP) (c : Nat) (p : Int) : Prop :=
 (P.err1 ≠ 0 ∧ c = P.err1 ∧ p = -1) ∨ (P.err1 = 0 ∧ P.allWell ∧ c = 0 ∧ p = -1) ∨ (P.err1 = 0 ∧ ∃ i s, P.FirstBad i s ∧ c = P.stmtErr s ∧ p = (i : Int))
theorem two_keep (w : World) (g : Nat) (v0 v1 : Value) : Keep (fun b => b = g) w ((w.setCell ⟨g, 0, none⟩ v0).setCell ⟨g, 1, none⟩ v1) :=
 have k : ∀ (u : World) j v, Keep (fun b => b = g) w u → Keep (fun b => b = g) w (u.setCell ⟨g, j, none⟩ v) := fun _ _ v h => h.set rfl v
 k _ _ _ (k _ _ _ (Keep.refl _ w))
theorem two {w : World} {g : Nat} {x0 x1 v0 v1 : Value} {t : TypeId} (h : Blk w g #[x0, x1] t) : Blk ((w.setCell ⟨g, 0, none⟩ v0).setCell ⟨g, 1, none⟩ v1) g #[v0, v1] t := by
 have := (h.set 0 v0).set 1 v1
 simpa using this
set_option maxRecDepth 100000 in
theorem rbare_any (n : Int) (w : World) : Calls Tryz.prog 38 #[.int .i64 n] w fun e w' => e = .returned (.agg #[.int .i64 n, .int .i64 (-1)]) ∧ Ext w w' := by
 have hB := Blk.new w #[.int .i64 0, .int .i64 0] 36
 have c0 := (two (v0 := .int .i64 n) (v1 := .int .i64 (-1)) hB).av 0 rfl
 have c1 := (two (v0 := .int .i64 n) (v1 := .int .i64 (-1)) hB).av 1 rfl
 have z0 := hB.av 0 rfl
 have z1 := hB.av 1 rfl
 have f0 := hB.free 0
 have f1 := hB.free 1
 go_enter Tryz.func38, Tryz.ntmps38
 go_wp2
 refine bodyPost_ret (v := .agg #[.int .i64 n, .int .i64 (-1)]) ?_ rfl ?_
 ·simp [results, Tryz.results38, go_sem, c0, c1]
 exact ⟨rfl, (Ext.refl w).alloc _⟩
set_option maxRecDepth 100000 in
theorem rfine_any (w : World) : Calls Tryz.prog 43 #[] w fun e w' => e = .returned (.agg #[.int .i64 0, .int .i64 (-1)]) ∧ Ext w w' := by
 have hB := Blk.new w #[.int .i64 0, .int .i64 0] 36
 have c0 := (two (v0 := .int .i64 0) (v1 := .int .i64 (-1)) hB).av 0 rfl
 have c1 := (two (v0 := .int .i64 0) (v1 := .int .i64 (-1)) hB).av 1 rfl
 have z0 := hB.av 0 rfl
 have z1 := hB.av 1 rfl
 have f0 := hB.free 0
 have f1 := hB.free 1
 go_enter Tryz.func43, Tryz.ntmps43
 go_wp2
 refine bodyPost_ret (v := .agg #[.int .i64 0, .int .i64 (-1)]) ?_ rfl ?_
 ·simp [results, Tryz.results43, go_sem, c0, c1]
 exact ⟨rfl, (Ext.refl w).alloc _⟩
theorem anyBad_of {l : List ByteArray} {k : Nat} {s : ByteArray} (h : l[k]? = some s) (hn : nameOk s = false) : anyBad l = true := List.any_eq_true.2 ⟨s, List.mem_of_getElem? h, by rw [hn]; rfl⟩
theorem anyBad_no {l : List ByteArray} (h : ∀ j s, j < l.length → l[j]? = some s → nameOk s = true) : anyBad l = false := List.any_eq_false.2 fun s hs => by
 obtain ⟨j, hj, e⟩ := List.mem_iff_getElem.1 hs
 rw [h j s hj (by rw [List.getElem?_eq_getElem hj, e])]
 decide
theorem dupS_of {l : List ByteArray} {i k : Nat} {s t : ByteArray} (hk : k < i) (h : l[i]? = some s) (h2 : l[k]? = some t) (he : eqB s t = true) : dupS l = true := by
 have hi : i < l.length := by
  rcases Nat.lt_or_ge i l.length with h' | h'
  ·exact h'
  ·rw [List.getElem?_eq_none h'] at h; cases h
 refine List.any_eq_true.2 ⟨i, List.mem_range.2 hi, List.any_eq_true.2 ⟨t, ?_, ?_⟩⟩
 ·exact List.mem_of_getElem? (i := k) (by rw [List.getElem?_take, if_pos hk]; exact h2)
 ·rw [List.getD_eq_getElem?_getD, h]; exact he
theorem dupS_no {l : List ByteArray} (h : ∀ (i k : Nat) (s t : ByteArray), i < l.length → k < i → l[i]? = some s → l[k]? = some t → eqB s t = false) : dupS l = false := by
 refine List.any_eq_false.2 fun i hi => ?_
 have hi' := List.mem_range.1 hi
 rw [Bool.not_eq_true]
 refine List.any_eq_false.2 fun t ht => ?_
 obtain ⟨k, hk, e⟩ := List.mem_iff_getElem.1 ht
 have hki : k < i := by rw [List.length_take] at hk; omega
 have e2 : l[k]? = some t := by
  have : (l.take i)[k]? = some t := by rw [List.getElem?_eq_getElem hk, e]
  rwa [List.getElem?_take, if_pos hki] at this
 have e1 : l[i]? = some (l.getD i ⟨#[]⟩) := by simp [List.getD_eq_getElem?_getD, hi']
 rw [h i k _ t hi' hki e1 e2]
 decide
def rgv (s : Rn) : Vl → Value
 | .var n => .tuple #[.agg #[.string (s.vars.getD n .none).kind, .int .i64 ((s.vars.getD n .none).num : Int)], .bool true]
 | .thing n => .tuple #[.agg #[.string (s.things.getD n .none).kind, .int .i64 ((s.things.getD n .none).num : Int)], .bool true]
 | _ => .tuple #[.agg #[.string ⟨#[]⟩, .int .i64 0], .bool false]
end Go.Proofs.YtngdpnlgnpdkcaaGreatDoor
