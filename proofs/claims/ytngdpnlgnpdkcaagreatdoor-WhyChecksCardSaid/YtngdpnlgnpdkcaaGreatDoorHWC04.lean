/- Texts of one proof, put together: Y6 Y7 Y8 Y9 YA YP YQ YK S3 S4 YB YN YM YG YC YD YE YF YH YL YR YI S5 YW YJ Z1 Z2 Z3 YT Z4 M1 E1. -/
import Derived.Test.YtngdpnlgnpdkcaaGreatDoorHWC02
import Derived.Test.YtngdpnlgnpdkcaaGreatDoorHWC03
import Derived.Lib.SlicesCompact
import Derived.Lib.AppendZeros
import Derived.Sort.Grow
import Derived.Deep.Draws
import Derived.Laws.StructEq
import Derived.Test.YtngdpnlgnpdkcaaGreatDoorProg
import Derived.Shelf.SlSortCmp.NoneTotal
import Derived.Test.YtngdpnlgnpdkcaaGreatDoorHWC01
set_option linter.unusedSimpArgs false
set_option linter.unusedVariables false
namespace Go.Proofs.YtngdpnlgnpdkcaaGreatDoor
open Go Go.RowKit
theorem icells_set (R : List Int) (i : Nat) (y : Int) : (icells R).set i (.int .i64 y) = icells (R.set i y) := by
 unfold icells; rw [List.map_set]
theorem own_putI {w : World} {base g n cap : Nat} {e : TypeId} {R : List Int} (h : w.ownsRow base e 1 (.slice (some ⟨g, 0, none⟩) n cap) n (icells R)) (i : Nat) (hi : i < R.length) (y : Int) : (w.setCell ⟨g, i, none⟩ (.int .i64 y)).ownsRow base e 1 (.slice (some ⟨g, 0, none⟩) n cap) n (icells (R.set i y)) := by
 rw [← icells_set]
 exact own_set h i (by simpa [icells] using hi) _
theorem own_i {w : World} {base g n cap : Nat} {e : TypeId} {R : List Int} (h : w.ownsRow base e 1 (.slice (some ⟨g, 0, none⟩) n cap) n (icells R)) {i : Nat} {x : Int} (hx : R[i]? = some x) : w.cell? ⟨g, i, none⟩ = some (.int .i64 x) :=
 own_get h i (by unfold icells; rw [List.getElem?_map, hx]; rfl)
theorem filter_next {p : Int → Bool} {l : List Int} {j : Nat} {x : Int} (hx : l[j]? = some x) : (l.take (j + 1)).filter p = (l.take j).filter p ++ (if p x = true then [x] else []) := by
 rw [List.take_add_one, hx]
 simp only [Option.toList, List.filter_append, List.filter_cons, List.filter_nil]
set_option maxRecDepth 100000 in
set_option maxHeartbeats 800000 in
theorem indexfi_nodesc (b : Value) (p : Int → Bool) (v : Value) (l : List Int) (w : World) (n0 : Nat) (h : IntsR w n0 v l) (hF : ∀ n w1, Ext w w1 → Calls Tryz.prog 132 #[.int .i64 n, b] w1 fun e w' => e = .returned (.bool (p n)) ∧ Ext w1 w') :
  Calls Tryz.prog 64 #[v, .func (.func 132) #[] #[b]] w fun e w' => ∃ r : Int, e = .returned (.int .i64 r) ∧ IdxF p l r ∧ Ext w w' := by
 have HS := hid h
 have HF := hid hF
 obtain ⟨a, cap, rfl, h2, h3, h4, _⟩ := h
 have H4 := hid h4
 have hml : (l.length : Int) ≤ 9223372036854775807 := by omega
 clear h2 h3 h4 hF
 go_enter Tryz.func64, Tryz.ntmps64
 go_wp2
 go_loopw [8] (fun t8 wr => ∃ k : Nat, t8 = .int .i64 (k : Int) ∧ k ≤ l.length ∧ (∀ j t, j < k → l[j]? = some t → p t = false) ∧ Ext w wr) (fun t8 _ => l.length - (intOf t8).toNat)
 case atStart => exact ⟨0, rfl, Nat.zero_le _, fun j t h => by omega, Ext.refl _⟩
 case round =>
  obtain ⟨k, rfl, hk, hne, hx⟩ := hrel
  have Hne := hid hne
  clear hne
  by_cases hlt : k < l.length
  ·obtain ⟨y, rfl⟩ := H4.out (by omega)
   have hxk : l[k]? = some (l[k]'hlt) := List.getElem?_eq_getElem hlt
   obtain ⟨t, ht⟩ : ∃ t, t = l[k]'hlt := ⟨_, rfl⟩
   rw [← ht] at hxk
   obtain ⟨a', cap', h1, _, _, _, h5⟩ := HS.out.old (hx.old n0)
   obtain ⟨rfl, rfl⟩ : some y = a' ∧ cap = cap' := by simpa using h1
   have hc := (h5 y rfl (by omega)).2 k hlt t hxk
   have HN := hid (HF.out t wr hx)
   have Hxk := hid hxk
   have Hx := hid hx
   clear hxk ht h1 h5 hx
   go_wp2_with fail
   refine HN.out.mono ?_
   intro e w1 hx1
   obtain ⟨rfl, hx1⟩ := hx1
   have Hx1 := hid (Hx.out.trans hx1)
   clear HN hx1 Hx hc
   cases he : p t with
   | true =>
    have Hin := hid (show IdxF p l (k : Int) from .inr ⟨k, t, rfl, hlt, Hxk.out, he, Hne.out⟩)
    go_wp2
    go_ret
    exact ⟨(k : Int), rfl, Hin.out, Hx1.out⟩
   | false =>
    have Hf := hid he
    clear he
    go_wp2
    go_roundw
    case rel =>
     refine ⟨k + 1, by go_num, by omega, fun j u hj hu => ?_, Hx1.out⟩
     by_cases hjk : j = k
     ·subst hjk
      obtain rfl := Option.some.inj (Hxk.out.symm.trans hu)
      exact Hf.out
     ·exact Hne.out j u (by omega) hu
    case measure => simp [intOf]; omega
  ·obtain rfl : k = l.length := by omega
   have Hx := hid hx
   clear hx
   have Hnot := hid (show IdxF p l (-1) from .inl ⟨rfl, fun x hx => by
    obtain ⟨j, hj, e2⟩ := List.mem_iff_getElem.1 hx
    exact Hne.out j x hj (by rw [List.getElem?_eq_getElem hj, e2])⟩)
   go_wp2
   go_ret
   exact ⟨(-1 : Int), rfl, Hnot.out, Hx.out⟩
set_option maxRecDepth 100000 in
set_option maxHeartbeats 3200000 in
theorem idel_nodesc (b : Value) (p : Int → Bool) (lv : Value) (l : List Int) (w0 w : World) (n0 : Nat) (hx0 : Ext w0 w) (hb0 : w0.heap.size ≤ n0) (hr : IRow n0 w lv l) (hF : ∀ n w1, Ext w0 w1 → Calls Tryz.prog 132 #[.int .i64 n, b] w1 fun e w' => e = .returned (.bool (p n)) ∧ Ext w1 w') (hfew : l.length ≤ 100000) :
  Calls Tryz.prog 131 #[lv, .func (.func 132) #[] #[b]] w fun e w' => ∃ lv', e = .returned lv' ∧ IRow n0 w' lv' (l.filter fun x => !p x) ∧ Ext w0 w' := by
 have HI := hid (indexfi_nodesc b p lv l w w.heap.size (IntsR.own hr (Nat.le_refl _)) (fun n w1 x => hF n w1 (hx0.trans x)))
 have HF := hid hF
 obtain ⟨a, c, rfl⟩ := hr.form
 have Hr := hid hr
 have Hx0 := hid hx0
 have Hb0 := hid hb0
 clear hr hF hx0 hb0
 go_enter Tryz.func131, Tryz.ntmps131
 go_wp2_with fail
 refine HI.out.mono ?_
 intro e w1 hx
 obtain ⟨r, rfl, hidx, hx1⟩ := hx
 have Hx1 := hid (Hx0.out.trans hx1)
 have Hr1 := hid (Hr.out.ext hx1)
 clear HI hx1
 rcases hidx with ⟨rfl, hall⟩ | ⟨i0, x0, rfl, hi0, hx0, hd0, hlow⟩
 ·have hf : Hid (l.filter (fun x => !p x) = l) := hid (List.filter_eq_self.2 fun x hx => by rw [hall x hx]; rfl)
  clear hall
  go_wp2
  go_ret
  exact ⟨_, rfl, by rw [hf.out]; exact Hr1.out, Hx1.out⟩
 ·obtain ⟨gb, cp, he⟩ : ∃ g cap, Value.slice a l.length c = .slice (some ⟨g, 0, none⟩) l.length cap := by
   rcases Hr1.out.case with ⟨_, h⟩ | h
   ·rw [h] at hi0; simp at hi0
   ·exact h
  simp only [Value.slice.injEq, true_and] at he
  obtain ⟨rfl, rfl⟩ := he
  obtain ⟨_, hbase, hcap, hmx, _⟩ := Hr1.out.cur
  have hstart : l.take i0 = (l.take (i0 + 1)).filter fun x => !p x := by
   rw [filter_next hx0, hd0, List.filter_eq_self.2 fun x hx => ?_]
   ·simp
   ·obtain ⟨j, hj, e⟩ := List.mem_iff_getElem.1 hx
    rw [List.length_take] at hj
    rw [List.getElem_take] at e
    rw [hlow j x (by omega) (by rw [List.getElem?_eq_getElem (by omega), e])]; rfl
  have Hstart := hid hstart
  have Hbase := hid hbase
  have hmx' : (c : Int) ≤ 9223372036854775807 := by unfold maxLen at hmx; omega
  have hcl : (l.length : Int) ≤ (c : Int) := by omega
  have hi1 : ((i0 : Int) == -1) = false := beq_eq_false_iff_ne.2 (by omega)
  clear hstart hx0 hd0 hlow hbase hcap hmx
  go_wp2
  clear hi1
  go_loopw [5, 6] (fun t5 t6 wr => ∃ (i j : Nat) (R : List Int), t5 = .int .i64 (i : Int) ∧ t6 = .int .i64 (j : Int) ∧ i < j ∧ j ≤ l.length ∧ R.length = l.length ∧ R.take i = (l.take j).filter (fun x => !p x) ∧ R.drop j = l.drop j ∧
   wr.ownsRow n0 3 1 (.slice (some ⟨gb, 0, none⟩) l.length c) l.length (icells R) ∧ Ext w0 wr) (fun _ t6 _ => l.length - (intOf t6).toNat)
  case atStart => exact ⟨i0, i0 + 1, l, rfl, rfl, by omega, by omega, rfl, Hstart.out, rfl, Hr1.out, Hx1.out⟩
  case round =>
   obtain ⟨i, j, R, rfl, rfl, hij, hj, hRl, hT, hD, hrow, hx⟩ := hrel
   have HRl := hid hRl
   have HT := hid hT
   have HD := hid hD
   have Hrow := hid hrow
   have Hx := hid hx
   clear hRl hT hD Hstart hrow hx
   by_cases hlt : j < l.length
   ·have hxj : R[j]? = some (l[j]'hlt) := by
     have := congrArg (fun l => l[0]?) HD.out
     simpa [List.getElem?_drop, List.getElem?_eq_getElem hlt] using this
    obtain ⟨x, hxd⟩ : ∃ x, x = l[j]'hlt := ⟨_, rfl⟩
    rw [← hxd] at hxj
    have hxk : l[j]? = some x := by rw [hxd]; exact List.getElem?_eq_getElem hlt
    have c0 := own_i Hrow.out hxj
    have HN := hid (HF.out x wr Hx.out)
    have Hxk := hid hxk
    have hji : (i : Int) < (l.length : Int) := by omega
    clear hxd hxj hxk
    go_wp2_with fail
    refine HN.out.mono ?_
    intro e w2 hx2
    obtain ⟨rfl, hx2⟩ := hx2
    have Hrow2 := hid (own_ext Hrow.out hx2)
    have Hx2 := hid (Hx.out.trans hx2)
    clear HN hx2 c0
    cases hf : p x with
    | true =>
     have Hf : Hid ((fun x => !p x) x = false) := hid (by show (!p x) = false; rw [hf]; rfl)
     clear hf
     go_wp2
     go_roundw
     case rel => exact ⟨i, j + 1, R, rfl, by go_num, by omega, by omega, HRl.out, by rw [filter_next Hxk.out, if_neg (by rw [Hf.out]; simp), HT.out]; simp, by rw [← List.drop_drop, HD.out, List.drop_drop], Hrow2.out, Hx2.out⟩
     case measure => simp [intOf]; omega
    | false =>
     have Hf : Hid ((fun x => !p x) x = true) := hid (by show (!p x) = true; rw [hf]; rfl)
     have hiR : i < R.length := by have := HRl.out; omega
     have y0 := own_i Hrow2.out (List.getElem?_eq_getElem hiR)
     have hfr := own_free Hrow2.out
     have hput := hid (own_putI Hrow2.out i hiR x)
     have hkp2 : Hid (Ext w0 (w2.setCell ⟨gb, i, none⟩ (.int .i64 x))) := hid (Keep.new Hx2.out (Keep.set (X := fun b => b = gb) (Keep.refl _ w2) rfl (.int .i64 x) : Keep (fun b => b = gb) w2 (w2.setCell ⟨gb, i, none⟩ (.int .i64 x))) fun b e => by rw [e]; exact Nat.le_trans Hb0.out Hbase.out)
     generalize hyv : R[i] = y at *
     clear hyv hf
     go_wp2
     go_roundw
     case rel => exact ⟨i + 1, j + 1, R.set i x, by go_num, by go_num, by omega, by omega, by rw [List.length_set]; exact HRl.out, by rw [take_set_succ R i x hiR, filter_next Hxk.out, if_pos Hf.out, HT.out], by rw [List.drop_set_of_lt (by omega), ← List.drop_drop, HD.out, List.drop_drop], hput.out, hkp2.out⟩
     case measure => simp [intOf]; omega
   ·obtain rfl : j = l.length := by omega
    have hTf : R.take i = l.filter fun x => !p x := by rw [HT.out, List.take_length]
    have hRi : (l.filter fun x => !p x).length = i := by rw [← hTf, List.length_take, HRl.out]; omega
    obtain ⟨cu, hcu, hb0, hcap, hmx, hcs, htk⟩ := own_blk Hrow.out
    obtain ⟨ti, hi, hz0, hz1, hz2⟩ := info_parts ints_info
    have hsz : i + (l.length - i) * 1 ≤ cu.size := by rw [hcs]; omega
    have hclr := fun ty => run_clear_row (P := Tryz.prog) wr 43 ty 3 ti _ Tryz.underlying43 hi hz0 (by simp [Value.cells, Value.oneCell']) gb i (l.length - i) (c - i) (by omega) cu hcu hsz
    obtain ⟨cu', hcu'⟩ : ∃ cu', cu' = (cu.toList.take i ++ (Builtin.zeroCells (Value.int .i64 0).cells (l.length - i)).toList ++ cu.toList.drop (i + (l.length - i) * (Value.int .i64 0).cells.size)).toArray := ⟨_, rfl⟩
    rw [← hcu'] at hclr
    have hsz' : cu'.size = c * 1 := by
     have h6 : (Value.int .i64 0).cells.size = 1 := rfl
     rw [hcu', List.size_toArray, List.length_append, List.length_append, List.length_take, List.length_drop, Array.length_toList, Array.length_toList, size_zeroCells, h6, hcs]
     omega
    have htk' : cu'.toList.take (i * 1) = icells (l.filter fun x => !p x) := by
     rw [hcu', List.toList_toArray, List.append_assoc, Nat.mul_one, List.take_append_of_le_length (by rw [List.length_take, Array.length_toList]; omega), List.take_take, Nat.min_self, ← hTf]
     have h7 : cu.toList.take l.length = icells R := by simpa using htk
     have h8 := congrArg (fun l => l.take i) h7
     simp only [List.take_take, Nat.min_eq_left (show i ≤ l.length by omega)] at h8
     rw [h8]; unfold icells; rw [List.map_take]
    have hfin := hid (own_of_blk (setRow_blk hcu cu') hb0 (show i ≤ c by omega) hmx hsz' htk')
    have hkf : Hid (Ext w0 _) := hid (Keep.new Hx.out (setRow_keep wr gb cu') fun b e => by rw [e]; exact Nat.le_trans Hb0.out Hbase.out)
    have HRi := hid hRi
    have hci : (i : Int) ≤ (l.length : Int) := by omega
    clear hTf hRi hcu hb0 hcap hmx hcs htk hi hz0 hz1 hz2 hsz hcu' hsz' htk' HRl HT HD
    go_wp2
    go_ret
    exact ⟨.slice (some ⟨gb, 0, none⟩) i c, rfl, by unfold IRow; rw [HRi.out]; exact hfin.out, hkf.out⟩
def PP.nodesOf (P : PP) (l : List Int) : List Int := l.filter fun x => !decide ((P.nodesV : Int) ≤ x)
theorem consnodesc_any (g : Nat) (a1 a2 a3 : Option Addr) (c1 c2 c3 : Nat) (P : PP) (n : Int) (w : World) (n0 : Nat) (ad : Nat → Addr) (hB : Blk w g (pcells a1 a2 a3 c1 c2 c3 P) 26) (h : PW w n0 ad a1 a2 a3 c1 c2 c3 P) :
  Calls Tryz.prog 132 #[.int .i64 n, .pointer (some ⟨g, 0, none⟩)] w fun e w' => e = .returned (.bool (decide ((P.nodesV : Int) ≤ n))) ∧ Ext w w' := by
 have HN := hid (prognodes_any a1 a2 a3 c1 c2 c3 P w n0 ad h.errs h.prog h.z1 h.z2 h.well)
 have d0 := hB.av 0 rfl
 have d1 := hB.av 1 rfl
 have d2 := hB.av 2 rfl
 simp only [pcells, qA0, qA1, qA2] at d0 d1 d2
 unfold pval at HN
 clear hB h
 generalize P.nodesV = N at *
 go_enter Tryz.func132, Tryz.ntmps132
 go_wp2_with fail
 refine HN.out.mono ?_
 intro e w1 hx
 obtain ⟨rfl, hx1⟩ := hx
 have Hx1 := hid hx1
 clear HN hx1 d0 d1 d2
 by_cases hn : (N : Int) ≤ n
 ·go_wp2
  go_ret
  exact ⟨by simp [hn], Hx1.out⟩
 ·go_wp2
  go_ret
  exact ⟨by simp [hn], Hx1.out⟩
set_option maxRecDepth 100000 in
set_option maxHeartbeats 1600000 in
theorem consnodes_any (a1 a2 a3 : Option Addr) (c1 c2 c3 : Nat) (P : PP) (v : Value) (l : List Int) (w : World) (n0 : Nat) (ad : Nat → Addr) (h : PW w n0 ad a1 a2 a3 c1 c2 c3 P) (hl : IntsR w n0 v l) (hfew : l.length ≤ 100000) :
  Calls Tryz.prog 102 #[pval a1 a2 a3 c1 c2 c3 P, v] w fun e w' => ∃ v', e = .returned v' ∧ IRow w.heap.size w' v' (P.nodesOf l) ∧ Ext w w' := by
 obtain ⟨W, hW⟩ : ∃ W, W = w.alloc (.cells (pcells a1 a2 a3 c1 c2 c3 P) 26) := ⟨_, rfl⟩
 have HX : Hid (Ext w W) := hid (by rw [hW]; exact (Ext.refl _).alloc _)
 have HBx : Hid (Blk W w.heap.size (pcells a1 a2 a3 c1 c2 c3 P) 26) := hid (by rw [hW]; exact Blk.new _ _ _)
 have HWe : Hid (W = w.alloc (.cells #[.slice a1 P.vars.length c1, .slice a2 P.funs.length c2, .slice a3 P.stmts.length c3] 26)) := hid (by rw [hW]; rfl)
 have HPW := hid h
 have HC := hid (clone_big v l W n0 (hl.old (HX.out.old n0)) hfew)
 obtain ⟨av, cv, rfl, _⟩ := hl
 unfold pval
 clear hW h
 go_enter Tryz.func102, Tryz.ntmps102
 go_wp2_with fail
 rw [← HWe.out]
 refine HC.out.mono ?_
 intro e w1 hx
 obtain ⟨v1, rfl, hx1, hr1⟩ := hx
 have HD := hid (idel_nodesc (.pointer (some ⟨w.heap.size, 0, none⟩)) (fun o => decide ((P.nodesV : Int) ≤ o)) v1 l W w1 W.heap.size hx1 (Nat.le_refl _) hr1 (fun n w2 x => consnodesc_any w.heap.size a1 a2 a3 c1 c2 c3 P n w2 n0 ad (HBx.out.ext x) (HPW.out.ext (HX.out.trans x))) hfew)
 obtain ⟨a1', p1', rfl⟩ := hr1.form
 clear HC hx1 hr1
 go_wp2_with fail
 refine HD.out.mono ?_
 intro e w2 hx
 obtain ⟨v2, rfl, hr2, hx2⟩ := hx
 have Hr2 := hid (hr2.base HX.out.size)
 have Hx2 := hid (HX.out.trans hx2)
 clear HD hr2 hx2
 obtain ⟨a2', p2', rfl⟩ := Hr2.out.form
 go_wp2
 go_ret
 exact ⟨_, rfl, Hr2.out, Hx2.out⟩
def PP.callsOf (P : PP) (r : RV) (o : Int) : List (Int × Int) := if 0 ≤ P.funV o then calledV (P.funs.getD (P.funV o).toNat ⟨⟨#[]⟩, [], 0⟩) r else []
def PP.redges (P : PP) (r : RV) (has : List (List Int)) : List (Int × Int) :=
 bif r.kind.toList == kCopy then [(r.a, r.b)] else
 bif r.kind.toList == kLoad then (P.nodesOf (has.getD r.a.toNat [])).map fun o => (o, r.b) else
 bif r.kind.toList == kStore then (P.nodesOf (has.getD r.b.toNat [])).map fun o => (r.a, o) else
 bif r.kind.toList == kCall then (has.getD r.a.toNat []).flatMap (P.callsOf r) else []
set_option maxRecDepth 100000 in
set_option maxHeartbeats 6400000 in
theorem redges_copy (a1 a2 a3 : Option Addr) (c1 c2 c3 : Nat) (P : PP) (r : RV) (av hv : Value) (has : List (List Int)) (w : World) (n0 : Nat) (ad : Nat → Addr) (h : PW w n0 ad a1 a2 a3 c1 c2 c3 P) (ha : IntsR w n0 av r.args) (hh : SetsR w n0 hv has) (hfew : ∀ l ∈ has, l.length ≤ 10000) (hkd : (r.kind.toList == [99, 111, 112, 121]) = true) :
  Calls Tryz.prog 57 #[pval a1 a2 a3 c1 c2 c3 P, r.val av, hv] w fun e w' => ∃ v, e = .returned v ∧ ERow w.heap.size w' v (P.redges r has) ∧ Ext w w' := by
 obtain ⟨aa, ca, rfl, _⟩ := id ha
 obtain ⟨ah, ch, rfl⟩ := hh.form
 have hhl := hh.len
 have hal := ha.len
 obtain ⟨W1, hW1⟩ : ∃ W1, W1 = w.alloc (.cells (pcells a1 a2 a3 c1 c2 c3 P) 26) := ⟨_, rfl⟩
 have hx1 : Ext w W1 := by rw [hW1]; exact (Ext.refl _).alloc _
 obtain ⟨W, hW⟩ : ∃ W, W = W1.alloc (.cells #[.string r.kind, .int .i64 r.a, .int .i64 r.b, .int .i64 r.k, .slice aa r.args.length ca] 87) := ⟨_, rfl⟩
 have hx2 : Ext W1 W := by rw [hW]; exact (Ext.refl _).alloc _
 have s1 : W1.heap.size = w.heap.size + 1 := by rw [hW1, heap_size_alloc]
 have HX := hid (hx1.trans hx2)
 have HB0 : Hid (Blk W w.heap.size (pcells a1 a2 a3 c1 c2 c3 P) 26) := hid (by
  have : Blk W1 w.heap.size (pcells a1 a2 a3 c1 c2 c3 P) 26 := by rw [hW1]; exact Blk.new _ _ _
  exact this.ext hx2)
 have HB1 : Hid (Blk W (w.heap.size + 1) #[.string r.kind, .int .i64 r.a, .int .i64 r.b, .int .i64 r.k, .slice aa r.args.length ca] 87) := hid (by rw [← s1, hW]; exact Blk.new _ _ _)
 have HWe : Hid (W = (w.alloc (.cells #[.slice a1 P.vars.length c1, .slice a2 P.funs.length c2, .slice a3 P.stmts.length c3] 26)).alloc (.cells #[.string r.kind, .int .i64 r.a, .int .i64 r.b, .int .i64 r.k, .slice aa r.args.length ca] 87)) := hid (by rw [hW, hW1]; rfl)
 have HPW := hid h
 have HH := hid hh
 have HA := hid ha
 have Hfew := hid hfew
 unfold RV.val pval
 clear h ha hh hfew hW1 hW hx1 hx2 s1
 have Hr : Hid (P.redges r has = [(r.a, r.b)]) := hid (by unfold PP.redges kCopy; rw [hkd]; rfl)
 go_enter Tryz.func57, Tryz.ntmps57
 go_wp2
 go_ret
 refine ⟨_, rfl, ?_, ?_⟩
 ·rw [Hr.out]
  refine ⟨rfl, .inr ⟨w.heap.size + 1 + 1, 1, #[.int .i64 r.a, .int .i64 r.b], rfl, by omega, ?_, Nat.le_refl _, by unfold maxLen; omega, rfl, rfl⟩⟩
  have := Blk.new W #[.int .i64 r.a, .int .i64 r.b] 62
  rw [HWe.out] at this
  simp only [heap_size_alloc] at this
  exact this
 ·exact (((Ext.refl w).alloc _).alloc _).alloc _
set_option maxRecDepth 100000 in
set_option maxHeartbeats 6400000 in
theorem redges_load (a1 a2 a3 : Option Addr) (c1 c2 c3 : Nat) (P : PP) (r : RV) (av hv : Value) (has : List (List Int)) (w : World) (n0 : Nat) (ad : Nat → Addr) (h : PW w n0 ad a1 a2 a3 c1 c2 c3 P) (ha : IntsR w n0 av r.args) (hh : SetsR w n0 hv has) (hfew : ∀ l ∈ has, l.length ≤ 10000) (hkd : (r.kind.toList == [108, 111, 97, 100]) = true) (hidx : 0 ≤ r.a ∧ r.a < has.length) :
  Calls Tryz.prog 57 #[pval a1 a2 a3 c1 c2 c3 P, r.val av, hv] w fun e w' => ∃ v, e = .returned v ∧ ERow w.heap.size w' v (P.redges r has) ∧ Ext w w' := by
 obtain ⟨aa, ca, rfl, _⟩ := id ha
 obtain ⟨ah, ch, rfl⟩ := hh.form
 have hhl := hh.len
 have hal := ha.len
 obtain ⟨W1, hW1⟩ : ∃ W1, W1 = w.alloc (.cells (pcells a1 a2 a3 c1 c2 c3 P) 26) := ⟨_, rfl⟩
 have hx1 : Ext w W1 := by rw [hW1]; exact (Ext.refl _).alloc _
 obtain ⟨W, hW⟩ : ∃ W, W = W1.alloc (.cells #[.string r.kind, .int .i64 r.a, .int .i64 r.b, .int .i64 r.k, .slice aa r.args.length ca] 87) := ⟨_, rfl⟩
 have hx2 : Ext W1 W := by rw [hW]; exact (Ext.refl _).alloc _
 have s1 : W1.heap.size = w.heap.size + 1 := by rw [hW1, heap_size_alloc]
 have HX := hid (hx1.trans hx2)
 have HB0 : Hid (Blk W w.heap.size (pcells a1 a2 a3 c1 c2 c3 P) 26) := hid (by
  have : Blk W1 w.heap.size (pcells a1 a2 a3 c1 c2 c3 P) 26 := by rw [hW1]; exact Blk.new _ _ _
  exact this.ext hx2)
 have HB1 : Hid (Blk W (w.heap.size + 1) #[.string r.kind, .int .i64 r.a, .int .i64 r.b, .int .i64 r.k, .slice aa r.args.length ca] 87) := hid (by rw [← s1, hW]; exact Blk.new _ _ _)
 have HWe : Hid (W = (w.alloc (.cells #[.slice a1 P.vars.length c1, .slice a2 P.funs.length c2, .slice a3 P.stmts.length c3] 26)).alloc (.cells #[.string r.kind, .int .i64 r.a, .int .i64 r.b, .int .i64 r.k, .slice aa r.args.length ca] 87)) := hid (by rw [hW, hW1]; rfl)
 have HPW := hid h
 have HH := hid hh
 have HA := hid ha
 have Hfew := hid hfew
 unfold RV.val pval
 clear h ha hh hfew hW1 hW hx1 hx2 s1
 have hk0 : (r.kind.toList == [99, 111, 112, 121]) = false := by rw [eq_of_beq hkd]; rfl
 obtain ⟨K, hK⟩ := Int.eq_ofNat_of_zero_le hidx.1
 have hKl : K < has.length := by omega
 obtain ⟨y, l, bl, cl, hya, hl, hc, hI⟩ := (HH.out.old (HX.out.old n0)).at hKl
 subst hya
 have Hl : Hid (has.getD (r.a).toNat [] = l) := hid (by rw [hK, List.getD_eq_getElem?_getD]; show (has[K]?).getD [] = l; rw [hl]; rfl)
 have hll : l.length ≤ 10000 := Hfew.out l (List.mem_of_getElem? hl)
 have HI := hid hI
 have c0 : ∀ w1, Keep (fun _ => False) W w1 → w1.cell? (y.add K) = some (.slice bl l.length cl) := fun w1 k => k.ext.cellx hc
 obtain ⟨m, hm⟩ : ∃ m, m = P.nodesOf l := ⟨_, rfl⟩
 have hml : m.length ≤ 10000 := by rw [hm]; exact Nat.le_trans (List.length_filter_le _ _) hll
 have Hr : Hid (P.redges r has = m.map fun o => (o, r.b)) := hid (by unfold PP.redges kCopy kLoad; rw [hk0, hkd, Hl.out, hm]; rfl)
 have HN := fun w1 (x : Ext W w1) => hid (consnodes_any a1 a2 a3 c1 c2 c3 P (.slice bl l.length cl) l w1 n0 ad (HPW.out.ext (HX.out.trans x)) (HI.out.old (x.old n0)) (by omega))
 unfold pval at HN
 rw [← hm] at HN
 rw [hK] at HB1 HWe
 have x0 := Ext.refl W
 have d0 := (HB0.out.ext x0).kc (X := fun _ => False) (fun e => e) 0 rfl
 have d1 := (HB0.out.ext x0).kc (X := fun _ => False) (fun e => e) 1 rfl
 have d2 := (HB0.out.ext x0).kc (X := fun _ => False) (fun e => e) 2 rfl
 have m0 := (HB1.out.ext x0).kc (X := fun _ => False) (fun e => e) 0 rfl
 have m1 := (HB1.out.ext x0).kc (X := fun _ => False) (fun e => e) 1 rfl
 have m2 := (HB1.out.ext x0).kc (X := fun _ => False) (fun e => e) 2 rfl
 have m3 := (HB1.out.ext x0).kc (X := fun _ => False) (fun e => e) 3 rfl
 have m4 := (HB1.out.ext x0).kc (X := fun _ => False) (fun e => e) 4 rfl
 simp only [pcells, qA0, qA1, qA2] at d0 d1 d2 m0 m1 m2 m3 m4
 clear x0 hl hc hI hidx hm
 go_enter Tryz.func57, Tryz.ntmps57
 rw [hK]
 clear hK
 go_wp2
 rw [← HWe.out]
 refine wp_flow (fun _ => False) (by kernel_rfl) (by kernel_rfl) ?_
 apply Flow.d 0 _ rfl (by simp) (by kernel_rfl)
 ·intro w1 hk; unfold does; go_simp; (try go_ints); exact DetR.mk
 simp only [qA0, qA1, qA2, Act.put, qS0, qS1, qS2]
 apply Flow.d 1 _ rfl (by simp) (by kernel_rfl)
 ·intro w1 hk; unfold does; go_simp; (try go_ints); exact DetR.mk
 simp only [qA0, qA1, qA2, Act.put, qS0, qS1, qS2]
 apply Flow.d 2 _ rfl (by simp) (by kernel_rfl)
 ·intro w1 hk; unfold does; go_simp; (try go_ints); exact DetR.mk
 simp only [qA0, qA1, qA2, Act.put, qS0, qS1, qS2]
 apply Flow.d 3 _ rfl (by simp) (by kernel_rfl)
 ·intro w1 hk; unfold does; go_simp; (try go_ints); exact DetR.mk
 simp only [qA0, qA1, qA2, Act.put, qS0, qS1, qS2]
 apply Flow.d 4 _ rfl (by simp) (by kernel_rfl)
 ·intro w1 hk; unfold does; go_simp; (try go_ints); exact DetR.mk
 simp only [qA0, qA1, qA2, Act.put, qS0, qS1, qS2]
 apply Flow.d 5 _ rfl (by simp) (by kernel_rfl)
 ·intro w1 hk; unfold does; go_simp; (try go_ints); exact DetR.mk
 simp only [qA0, qA1, qA2, Act.put, qS0, qS1, qS2]
 apply Flow.d 8 _ rfl (by simp) (by kernel_rfl)
 ·intro w1 hk; unfold does; go_simp; (try go_ints); exact DetR.mk
 simp only [qA0, qA1, qA2, Act.put, qS0, qS1, qS2]
 refine Flow.one 6 _ rfl (by kernel_rfl) (fun v w' => (∃ a c, v = .slice a m.length c) ∧ IRow W.heap.size w' v m ∧ Ext W w') (fun _ _ _ ⟨h1, h2, h3⟩ y => ⟨h1, h2.ext y, h3.trans y⟩) (fun w1 hC hk => ?_) ?_
 ·unfold does
  go_simp
  refine CallR.act ((HN w1 hC).out.mono ?_)
  rintro e w2 ⟨v, rfl, hr, hx⟩
  exact ⟨v, rfl, (hC.trans hx).keep _, hr.form, hr.base hC.size, hC.trans hx⟩
 rintro _ ⟨_, ⟨a9, c9, rfl⟩, _, _⟩
 simp only [qA0, qA1, qA2, Act.put, qS0, qS1, qS2]
 apply Flow.d 7 _ rfl (by simp) (by kernel_rfl)
 ·intro w1 hk; unfold does; go_simp; (try go_ints); exact DetR.mk
 simp only [qA0, qA1, qA2, Act.put, qS0, qS1, qS2]
 refine Flow.fin (by kernel_rfl) fun w3 hC hk3 => ?_
 obtain ⟨_, hrm, hx3⟩ := hC
 have Hrm := hid hrm
 have Hx3 := hid hx3
 clear hrm hx3 hk3 HN c0 d0 d1 d2 m0 m1 m2 m3 m4
 go_wp2
 go_loopw [7, 35] (fun t7 ti wr => ∃ (k : Nat) (E : List (Int × Int)), ti = .int .i64 (k : Int) ∧ k ≤ m.length ∧ E = ((m.take k).map fun o => (o, r.b)) ∧ wr.ownsRow w3.heap.size 62 2 t7 k (E.flatMap eCells) ∧ Ext w3 wr) (fun _ ti _ => m.length - (intOf ti).toNat)
 case atStart => exact ⟨0, [], rfl, Nat.zero_le _, rfl, World.ownsRow_nil _ _ _ _, Ext.refl _⟩
 case round =>
  obtain ⟨k, E, rfl, hk, hE, hr, hx⟩ := hrel
  obtain ⟨a7, c7, rfl⟩ := row_form hr
  have Hr7 := hid hr
  have Hx := hid hx
  have HE := hid hE
  have HrmX := hid (Hrm.out.ext hx)
  clear hr hx hE
  by_cases hlt : k < m.length
  ·obtain ⟨g9, cp9, he9⟩ : ∃ g cap, Value.slice a9 m.length c9 = .slice (some ⟨g, 0, none⟩) m.length cap := by
    rcases HrmX.out.case with ⟨_, h⟩ | h
    ·rw [h] at hlt; simp at hlt
    ·exact h
   simp only [Value.slice.injEq, true_and] at he9
   obtain ⟨rfl, rfl⟩ := he9
   obtain ⟨o, ho⟩ : ∃ o, m[k]? = some o := ⟨_, List.getElem?_eq_getElem hlt⟩
   have hco := own_i HrmX.out ho
   have Hn : Hid (((m.take (k + 1)).map fun o => (o, r.b)) = E ++ [((fun o => (o, r.b)) o)]) := hid (by rw [List.take_add_one, ho, HE.out, List.map_append]; rfl)
   have q2 := (HB1.out.ext (Hx3.out.trans Hx.out)).av 2 rfl
   simp only [qA0, qA1, qA2] at q2
   have hxa : Hid (Ext w3 (wr.alloc (.cells #[.int .i64 o, .int .i64 r.b] 62))) := hid (Hx.out.alloc _)
   have Hra := hid (own_ext Hr7.out ((Ext.refl wr).alloc (.cells #[.int .i64 o, .int .i64 r.b] 62)))
   clear ho
   go_wp2_with (at_builtin; refine wpList_append_el w3.heap.size hxa.out.size 55 62 (.agg #[.int .i64 0, .int .i64 0]) 2 16 Tryz.underlying55 edge_info rfl (by omega) (by omega) rfl _ _ rfl (.slice a7 k c7) k (E.flatMap eCells) rfl Hra.out wr.heap.size [.int .i64 o, .int .i64 r.b] rfl (by simp [Value.oneCell']) rfl (Blk.new _ _ _) (by omega) ?_; intro v' w' h1 h2 h4; obtain ⟨a', c', rfl⟩ := row_form h1; have h3 := hid (Keep.new hxa.out h2 (fun k hk => (World.ownsRow.lt Hra.out k hk).1)); have h1 := hid h1; clear h2 h4)
   go_roundw
   case rel =>
    refine ⟨k + 1, _, by go_num, by omega, Hn.out.symm, ?_, h3.out⟩
    rw [List.flatMap_append]
    simpa [eCells] using h1.out
   case measure => simp [intOf]; omega
  ·obtain rfl : k = m.length := by omega
   have HEn : Hid (P.redges r has = E) := hid (by rw [Hr.out, HE.out, List.take_of_length_le (Nat.le_refl _)])
   have hEl : Hid (E.length = m.length) := hid (by rw [HE.out, List.length_map, List.length_take, Nat.min_self])
   go_wp2
   go_ret
   exact ⟨_, rfl, by unfold ERow; rw [HEn.out, hEl.out]; exact own_low Hr7.out (HX.out.trans Hx3.out).size, HX.out.trans (Hx3.out.trans Hx.out)⟩
set_option maxRecDepth 100000 in
set_option maxHeartbeats 6400000 in
theorem redges_store (a1 a2 a3 : Option Addr) (c1 c2 c3 : Nat) (P : PP) (r : RV) (av hv : Value) (has : List (List Int)) (w : World) (n0 : Nat) (ad : Nat → Addr) (h : PW w n0 ad a1 a2 a3 c1 c2 c3 P) (ha : IntsR w n0 av r.args) (hh : SetsR w n0 hv has) (hfew : ∀ l ∈ has, l.length ≤ 10000) (hkd : (r.kind.toList == [115, 116, 111, 114, 101]) = true) (hidx : 0 ≤ r.b ∧ r.b < has.length) :
  Calls Tryz.prog 57 #[pval a1 a2 a3 c1 c2 c3 P, r.val av, hv] w fun e w' => ∃ v, e = .returned v ∧ ERow w.heap.size w' v (P.redges r has) ∧ Ext w w' := by
 obtain ⟨aa, ca, rfl, _⟩ := id ha
 obtain ⟨ah, ch, rfl⟩ := hh.form
 have hhl := hh.len
 have hal := ha.len
 obtain ⟨W1, hW1⟩ : ∃ W1, W1 = w.alloc (.cells (pcells a1 a2 a3 c1 c2 c3 P) 26) := ⟨_, rfl⟩
 have hx1 : Ext w W1 := by rw [hW1]; exact (Ext.refl _).alloc _
 obtain ⟨W, hW⟩ : ∃ W, W = W1.alloc (.cells #[.string r.kind, .int .i64 r.a, .int .i64 r.b, .int .i64 r.k, .slice aa r.args.length ca] 87) := ⟨_, rfl⟩
 have hx2 : Ext W1 W := by rw [hW]; exact (Ext.refl _).alloc _
 have s1 : W1.heap.size = w.heap.size + 1 := by rw [hW1, heap_size_alloc]
 have HX := hid (hx1.trans hx2)
 have HB0 : Hid (Blk W w.heap.size (pcells a1 a2 a3 c1 c2 c3 P) 26) := hid (by
  have : Blk W1 w.heap.size (pcells a1 a2 a3 c1 c2 c3 P) 26 := by rw [hW1]; exact Blk.new _ _ _
  exact this.ext hx2)
 have HB1 : Hid (Blk W (w.heap.size + 1) #[.string r.kind, .int .i64 r.a, .int .i64 r.b, .int .i64 r.k, .slice aa r.args.length ca] 87) := hid (by rw [← s1, hW]; exact Blk.new _ _ _)
 have HWe : Hid (W = (w.alloc (.cells #[.slice a1 P.vars.length c1, .slice a2 P.funs.length c2, .slice a3 P.stmts.length c3] 26)).alloc (.cells #[.string r.kind, .int .i64 r.a, .int .i64 r.b, .int .i64 r.k, .slice aa r.args.length ca] 87)) := hid (by rw [hW, hW1]; rfl)
 have HPW := hid h
 have HH := hid hh
 have HA := hid ha
 have Hfew := hid hfew
 unfold RV.val pval
 clear h ha hh hfew hW1 hW hx1 hx2 s1
 have hk0 : (r.kind.toList == [99, 111, 112, 121]) = false := by rw [eq_of_beq hkd]; rfl
 have hk1 : (r.kind.toList == [108, 111, 97, 100]) = false := by rw [eq_of_beq hkd]; rfl
 obtain ⟨K, hK⟩ := Int.eq_ofNat_of_zero_le hidx.1
 have hKl : K < has.length := by omega
 obtain ⟨y, l, bl, cl, hya, hl, hc, hI⟩ := (HH.out.old (HX.out.old n0)).at hKl
 subst hya
 have Hl : Hid (has.getD (r.b).toNat [] = l) := hid (by rw [hK, List.getD_eq_getElem?_getD]; show (has[K]?).getD [] = l; rw [hl]; rfl)
 have hll : l.length ≤ 10000 := Hfew.out l (List.mem_of_getElem? hl)
 have HI := hid hI
 have c0 : ∀ w1, Keep (fun _ => False) W w1 → w1.cell? (y.add K) = some (.slice bl l.length cl) := fun w1 k => k.ext.cellx hc
 obtain ⟨m, hm⟩ : ∃ m, m = P.nodesOf l := ⟨_, rfl⟩
 have hml : m.length ≤ 10000 := by rw [hm]; exact Nat.le_trans (List.length_filter_le _ _) hll
 have Hr : Hid (P.redges r has = m.map fun o => (r.a, o)) := hid (by unfold PP.redges kCopy kLoad kStore; rw [hk0, hk1, hkd, Hl.out, hm]; rfl)
 have HN := fun w1 (x : Ext W w1) => hid (consnodes_any a1 a2 a3 c1 c2 c3 P (.slice bl l.length cl) l w1 n0 ad (HPW.out.ext (HX.out.trans x)) (HI.out.old (x.old n0)) (by omega))
 unfold pval at HN
 rw [← hm] at HN
 rw [hK] at HB1 HWe
 have x0 := Ext.refl W
 have d0 := (HB0.out.ext x0).kc (X := fun _ => False) (fun e => e) 0 rfl
 have d1 := (HB0.out.ext x0).kc (X := fun _ => False) (fun e => e) 1 rfl
 have d2 := (HB0.out.ext x0).kc (X := fun _ => False) (fun e => e) 2 rfl
 have m0 := (HB1.out.ext x0).kc (X := fun _ => False) (fun e => e) 0 rfl
 have m1 := (HB1.out.ext x0).kc (X := fun _ => False) (fun e => e) 1 rfl
 have m2 := (HB1.out.ext x0).kc (X := fun _ => False) (fun e => e) 2 rfl
 have m3 := (HB1.out.ext x0).kc (X := fun _ => False) (fun e => e) 3 rfl
 have m4 := (HB1.out.ext x0).kc (X := fun _ => False) (fun e => e) 4 rfl
 simp only [pcells, qA0, qA1, qA2] at d0 d1 d2 m0 m1 m2 m3 m4
 clear x0 hl hc hI hidx hm
 go_enter Tryz.func57, Tryz.ntmps57
 rw [hK]
 clear hK
 go_wp2
 rw [← HWe.out]
 refine wp_flow (fun _ => False) (by kernel_rfl) (by kernel_rfl) ?_
 apply Flow.d 0 _ rfl (by simp) (by kernel_rfl)
 ·intro w1 hk; unfold does; go_simp; (try go_ints); exact DetR.mk
 simp only [qA0, qA1, qA2, Act.put, qS0, qS1, qS2]
 apply Flow.d 1 _ rfl (by simp) (by kernel_rfl)
 ·intro w1 hk; unfold does; go_simp; (try go_ints); exact DetR.mk
 simp only [qA0, qA1, qA2, Act.put, qS0, qS1, qS2]
 apply Flow.d 2 _ rfl (by simp) (by kernel_rfl)
 ·intro w1 hk; unfold does; go_simp; (try go_ints); exact DetR.mk
 simp only [qA0, qA1, qA2, Act.put, qS0, qS1, qS2]
 apply Flow.d 3 _ rfl (by simp) (by kernel_rfl)
 ·intro w1 hk; unfold does; go_simp; (try go_ints); exact DetR.mk
 simp only [qA0, qA1, qA2, Act.put, qS0, qS1, qS2]
 apply Flow.d 4 _ rfl (by simp) (by kernel_rfl)
 ·intro w1 hk; unfold does; go_simp; (try go_ints); exact DetR.mk
 simp only [qA0, qA1, qA2, Act.put, qS0, qS1, qS2]
 apply Flow.d 5 _ rfl (by simp) (by kernel_rfl)
 ·intro w1 hk; unfold does; go_simp; (try go_ints); exact DetR.mk
 simp only [qA0, qA1, qA2, Act.put, qS0, qS1, qS2]
 apply Flow.d 8 _ rfl (by simp) (by kernel_rfl)
 ·intro w1 hk; unfold does; go_simp; (try go_ints); exact DetR.mk
 simp only [qA0, qA1, qA2, Act.put, qS0, qS1, qS2]
 refine Flow.one 6 _ rfl (by kernel_rfl) (fun v w' => (∃ a c, v = .slice a m.length c) ∧ IRow W.heap.size w' v m ∧ Ext W w') (fun _ _ _ ⟨h1, h2, h3⟩ y => ⟨h1, h2.ext y, h3.trans y⟩) (fun w1 hC hk => ?_) ?_
 ·unfold does
  go_simp
  refine CallR.act ((HN w1 hC).out.mono ?_)
  rintro e w2 ⟨v, rfl, hr, hx⟩
  exact ⟨v, rfl, (hC.trans hx).keep _, hr.form, hr.base hC.size, hC.trans hx⟩
 rintro _ ⟨_, ⟨a9, c9, rfl⟩, _, _⟩
 simp only [qA0, qA1, qA2, Act.put, qS0, qS1, qS2]
 apply Flow.d 7 _ rfl (by simp) (by kernel_rfl)
 ·intro w1 hk; unfold does; go_simp; (try go_ints); exact DetR.mk
 simp only [qA0, qA1, qA2, Act.put, qS0, qS1, qS2]
 refine Flow.fin (by kernel_rfl) fun w3 hC hk3 => ?_
 obtain ⟨_, hrm, hx3⟩ := hC
 have Hrm := hid hrm
 have Hx3 := hid hx3
 clear hrm hx3 hk3 HN c0 d0 d1 d2 m0 m1 m2 m3 m4
 go_wp2
 go_loopw [7, 57] (fun t7 ti wr => ∃ (k : Nat) (E : List (Int × Int)), ti = .int .i64 (k : Int) ∧ k ≤ m.length ∧ E = ((m.take k).map fun o => (r.a, o)) ∧ wr.ownsRow w3.heap.size 62 2 t7 k (E.flatMap eCells) ∧ Ext w3 wr) (fun _ ti _ => m.length - (intOf ti).toNat)
 case atStart => exact ⟨0, [], rfl, Nat.zero_le _, rfl, World.ownsRow_nil _ _ _ _, Ext.refl _⟩
 case round =>
  obtain ⟨k, E, rfl, hk, hE, hr, hx⟩ := hrel
  obtain ⟨a7, c7, rfl⟩ := row_form hr
  have Hr7 := hid hr
  have Hx := hid hx
  have HE := hid hE
  have HrmX := hid (Hrm.out.ext hx)
  clear hr hx hE
  by_cases hlt : k < m.length
  ·obtain ⟨g9, cp9, he9⟩ : ∃ g cap, Value.slice a9 m.length c9 = .slice (some ⟨g, 0, none⟩) m.length cap := by
    rcases HrmX.out.case with ⟨_, h⟩ | h
    ·rw [h] at hlt; simp at hlt
    ·exact h
   simp only [Value.slice.injEq, true_and] at he9
   obtain ⟨rfl, rfl⟩ := he9
   obtain ⟨o, ho⟩ : ∃ o, m[k]? = some o := ⟨_, List.getElem?_eq_getElem hlt⟩
   have hco := own_i HrmX.out ho
   have Hn : Hid (((m.take (k + 1)).map fun o => (r.a, o)) = E ++ [((fun o => (r.a, o)) o)]) := hid (by rw [List.take_add_one, ho, HE.out, List.map_append]; rfl)
   have q2 := (HB1.out.ext (Hx3.out.trans Hx.out)).av 1 rfl
   simp only [qA0, qA1, qA2] at q2
   have hxa : Hid (Ext w3 (wr.alloc (.cells #[.int .i64 r.a, .int .i64 o] 62))) := hid (Hx.out.alloc _)
   have Hra := hid (own_ext Hr7.out ((Ext.refl wr).alloc (.cells #[.int .i64 r.a, .int .i64 o] 62)))
   clear ho
   go_wp2_with (at_builtin; refine wpList_append_el w3.heap.size hxa.out.size 55 62 (.agg #[.int .i64 0, .int .i64 0]) 2 16 Tryz.underlying55 edge_info rfl (by omega) (by omega) rfl _ _ rfl (.slice a7 k c7) k (E.flatMap eCells) rfl Hra.out wr.heap.size [.int .i64 r.a, .int .i64 o] rfl (by simp [Value.oneCell']) rfl (Blk.new _ _ _) (by omega) ?_; intro v' w' h1 h2 h4; obtain ⟨a', c', rfl⟩ := row_form h1; have h3 := hid (Keep.new hxa.out h2 (fun k hk => (World.ownsRow.lt Hra.out k hk).1)); have h1 := hid h1; clear h2 h4)
   go_roundw
   case rel =>
    refine ⟨k + 1, _, by go_num, by omega, Hn.out.symm, ?_, h3.out⟩
    rw [List.flatMap_append]
    simpa [eCells] using h1.out
   case measure => simp [intOf]; omega
  ·obtain rfl : k = m.length := by omega
   have HEn : Hid (P.redges r has = E) := hid (by rw [Hr.out, HE.out, List.take_of_length_le (Nat.le_refl _)])
   have hEl : Hid (E.length = m.length) := hid (by rw [HE.out, List.length_map, List.length_take, Nat.min_self])
   go_wp2
   go_ret
   exact ⟨_, rfl, by unfold ERow; rw [HEn.out, hEl.out]; exact own_low Hr7.out (HX.out.trans Hx3.out).size, HX.out.trans (Hx3.out.trans Hx.out)⟩
theorem does_append_src {ops : Array Oper} {o : Oper} {a : Act} {w : World} {R : Value → World → Prop} (base : Nat) (hbase : base ≤ w.heap.size) (t e : TypeId) (z : Value) (size bytes : Nat) (ht : Tryz.prog.underlying t = some (.slice e)) (hinf : (Tryz.prog.info? e).map (fun i => (i.zero, i.size, i.bytes)) = some (some z, size, bytes)) (hz1 : z.cells.size = size) (hsz : 0 < size)
  (hb8 : bytes ≤ 64) (hg : o.guard = none) (s x : Operand) (ho : o.op = .call { callee := .builtin .append, args := #[s, x], argTypes := #[t, t] })
  (v : Value) (n : Nat) (xs : List Value) (hs : a.eval s = v) (hown : w.ownsRow base e size v n xs) (ad : Option Addr) (m c : Nat) (us : List Value) (hx : a.eval x = .slice ad m c) (hsrc : Src w ad m size us) (hl : n + m ≤ 1000000)
  (h : ∀ v' w', w'.ownsRow base e size v' (n + m) (xs ++ us) → Keep (fun k => v.ownBlock = some k) w w' → R v' w') : does Tryz.prog ops o a w R := by
 obtain ⟨v', w', hr, h2, h3, h4⟩ := run_append_src w base hbase t e z size bytes ht hinf hz1 hsz hb8 o.type v n xs hown ad m c us hsrc hl
 exact does_of_run hg (run_exec_append s x t ho hs hx hr) (h v' w' h2 h3)
theorem own_src {w : World} {base : Nat} {e : TypeId} {size n c : Nat} {a : Option Addr} {xs : List Value} (h : w.ownsRow base e size (.slice a n c) n xs) (h1 : ∀ u ∈ xs, u.oneCell' = true) : Src w a n size xs := by
 refine ⟨h.1, fun hn => ?_, fun x hx j u hu => ?_, h1⟩
 ·obtain ⟨g, cp, he⟩ := own_some h hn
  simp only [Value.slice.injEq] at he
  exact ⟨_, he.1⟩
 ·rcases h.2 with ⟨he, hn⟩ | ⟨g, cp, cur, he, _⟩
  ·simp only [Value.slice.injEq] at he
   rw [he.1] at hx; cases hx
  ·simp only [Value.slice.injEq] at he
   obtain ⟨rfl, _, rfl⟩ := he
   obtain rfl := Option.some.inj hx
   exact h.cells (g := g) rfl j u hu
theorem eCells_one {E : List (Int × Int)} : ∀ u ∈ E.flatMap eCells, u.oneCell' = true := fun u hu => by
 obtain ⟨e, _, h⟩ := List.mem_flatMap.1 hu
 simp only [eCells, List.mem_cons, List.mem_nil_iff, or_false] at h
 rcases h with rfl | rfl <;> rfl
theorem funV_lt {P : PP} {o : Int} (h : 0 ≤ P.funV o) : P.funV o < P.funs.length := by
 unfold PP.funV at h ⊢
 by_cases hc : 0 ≤ o - P.nodesV ∧ o - P.nodesV < P.funs.length
 ·rw [if_pos hc]; exact hc.2
 ·rw [if_neg hc] at h; omega
theorem called_few {P : PP} (hw : P.Well) {f : PF} (hf : f ∈ P.funs) (r : RV) : (calledV f r).length ≤ 4 := by
 have := (PP.goodF (PP.funs_ok hw.1) hf).few
 unfold calledV
 split
 ·rw [List.length_cons, List.length_zip]; omega
 ·simp
set_option maxRecDepth 100000 in
set_option maxHeartbeats 6400000 in
theorem redges_call (a1 a2 a3 : Option Addr) (c1 c2 c3 : Nat) (P : PP) (r : RV) (av hv : Value) (has : List (List Int)) (w : World) (n0 : Nat) (ad : Nat → Addr) (h : PW w n0 ad a1 a2 a3 c1 c2 c3 P) (ha : IntsR w n0 av r.args) (hh : SetsR w n0 hv has) (hfew : ∀ l ∈ has, l.length ≤ 10000) (hkd : (r.kind.toList == [99, 97, 108, 108]) = true) (hidx : 0 ≤ r.a ∧ r.a < has.length) (hin : ∀ l ∈ has, InR l) (hn0 : n0 ≤ w.heap.size) :
  Calls Tryz.prog 57 #[pval a1 a2 a3 c1 c2 c3 P, r.val av, hv] w fun e w' => ∃ v, e = .returned v ∧ ERow w.heap.size w' v (P.redges r has) ∧ Ext w w' := by
 obtain ⟨aa, ca, rfl, _⟩ := id ha
 obtain ⟨ah, ch, rfl⟩ := hh.form
 have hhl := hh.len
 have hal := ha.len
 obtain ⟨W1, hW1⟩ : ∃ W1, W1 = w.alloc (.cells (pcells a1 a2 a3 c1 c2 c3 P) 26) := ⟨_, rfl⟩
 have hx1 : Ext w W1 := by rw [hW1]; exact (Ext.refl _).alloc _
 obtain ⟨W, hW⟩ : ∃ W, W = W1.alloc (.cells #[.string r.kind, .int .i64 r.a, .int .i64 r.b, .int .i64 r.k, .slice aa r.args.length ca] 87) := ⟨_, rfl⟩
 have hx2 : Ext W1 W := by rw [hW]; exact (Ext.refl _).alloc _
 have s1 : W1.heap.size = w.heap.size + 1 := by rw [hW1, heap_size_alloc]
 have HX := hid (hx1.trans hx2)
 have HB0 : Hid (Blk W w.heap.size (pcells a1 a2 a3 c1 c2 c3 P) 26) := hid (by
  have : Blk W1 w.heap.size (pcells a1 a2 a3 c1 c2 c3 P) 26 := by rw [hW1]; exact Blk.new _ _ _
  exact this.ext hx2)
 have HB1 : Hid (Blk W (w.heap.size + 1) #[.string r.kind, .int .i64 r.a, .int .i64 r.b, .int .i64 r.k, .slice aa r.args.length ca] 87) := hid (by rw [← s1, hW]; exact Blk.new _ _ _)
 have HWe : Hid (W = (w.alloc (.cells #[.slice a1 P.vars.length c1, .slice a2 P.funs.length c2, .slice a3 P.stmts.length c3] 26)).alloc (.cells #[.string r.kind, .int .i64 r.a, .int .i64 r.b, .int .i64 r.k, .slice aa r.args.length ca] 87)) := hid (by rw [hW, hW1]; rfl)
 have HPW := hid h
 have HH := hid hh
 have HA := hid ha
 have Hfew := hid hfew
 unfold RV.val pval
 clear h ha hh hfew hW1 hW hx1 hx2 s1
 have hk0 : (r.kind.toList == [99, 111, 112, 121]) = false := by rw [eq_of_beq hkd]; rfl
 have hk1 : (r.kind.toList == [108, 111, 97, 100]) = false := by rw [eq_of_beq hkd]; rfl
 have hk2 : (r.kind.toList == [115, 116, 111, 114, 101]) = false := by rw [eq_of_beq hkd]; rfl
 obtain ⟨K, hK⟩ := Int.eq_ofNat_of_zero_le hidx.1
 have hKl : K < has.length := by omega
 obtain ⟨y, l, bl, cl, hya, hl, hc, hI⟩ := (HH.out.old (HX.out.old n0)).at hKl
 subst hya
 have Hl : Hid (has.getD (r.a).toNat [] = l) := hid (by rw [hK, List.getD_eq_getElem?_getD]; show (has[K]?).getD [] = l; rw [hl]; rfl)
 have hll : l.length ≤ 10000 := Hfew.out l (List.mem_of_getElem? hl)
 have HI := hid hI
 have c0 : ∀ w1, Keep (fun _ => False) W w1 → w1.cell? (y.add K) = some (.slice bl l.length cl) := fun w1 k => k.ext.cellx hc
 have Hin := hid (hin l (List.mem_of_getElem? hl))
 have Hr : Hid (P.redges r has = l.flatMap (P.callsOf r)) := hid (by unfold PP.redges kCopy kLoad kStore kCall; rw [hk0, hk1, hk2, hkd, Hl.out]; rfl)
 have HPF := fun o w1 (x : Ext W w1) (ho : 0 ≤ o ∧ o < 1000) => hid (progfun_any a1 a2 a3 c1 c2 c3 P o w1 n0 ad (HPW.out.ext (HX.out.trans x)) ho)
 have Hn0 : Hid (n0 ≤ W.heap.size) := hid (Nat.le_trans hn0 HX.out.size)
 unfold pval at HPF
 have HWk := hid HWe.out
 rw [hK] at HWk
 rw [HWk.out] at hc
 clear c0 hl hI hidx hin hn0
 go_enter Tryz.func57, Tryz.ntmps57
 rw [hK]
 clear hK
 go_wp2
 rw [← HWk.out]
 clear hc
 go_loopw [7, 77] (fun t7 t77 wr => ∃ (k : Nat) (E : List (Int × Int)), t77 = .int .i64 (k : Int) ∧ k ≤ l.length ∧ E = (l.take k).flatMap (P.callsOf r) ∧ E.length ≤ 4 * k ∧ wr.ownsRow W.heap.size 62 2 t7 E.length (E.flatMap eCells) ∧ Ext W wr) (fun _ t77 _ => l.length - (intOf t77).toNat)
 case atStart => exact ⟨0, [], rfl, Nat.zero_le _, rfl, Nat.zero_le _, World.ownsRow_nil _ _ _ _, Ext.refl _⟩
 case round =>
  obtain ⟨k, E, rfl, hk, hE, hEl, hr, hx⟩ := hrel
  obtain ⟨a7, c7, rfl⟩ := row_form hr
  have Hr7 := hid hr
  have Hx := hid hx
  have HE := hid hE
  clear hr hx hE
  by_cases hlt : k < l.length
  ·obtain ⟨yl, o, hyl, ho, hco⟩ := (HI.out.old (Hx.out.old n0)).at hlt
   subst hyl
   have hob := Hin.out o (List.mem_of_getElem? ho)
   have HF := HPF o wr Hx.out hob
   have Hn : Hid ((l.take (k + 1)).flatMap (P.callsOf r) = E ++ P.callsOf r o) := hid (by rw [List.take_add_one, ho, HE.out, List.flatMap_append]; simp)
   obtain ⟨F, hF⟩ : ∃ F, F = P.funV o := ⟨_, rfl⟩
   rw [← hF] at HF
   have HFe := hid hF
   have d0 := (HB0.out.ext Hx.out).av 0 rfl
   have d1 := (HB0.out.ext Hx.out).av 1 rfl
   have d2 := (HB0.out.ext Hx.out).av 2 rfl
   simp only [pcells, qA0, qA1, qA2] at d0 d1 d2
   clear ho hob hF
   go_wp2_with fail
   refine HF.out.mono ?_
   intro e w1 hx
   obtain ⟨rfl, hx1⟩ := hx
   have Hx1 := hid (Hx.out.trans hx1)
   have Hr1 := hid (own_ext Hr7.out hx1)
   clear HF hx1 hco d0 d1 d2
   by_cases hF0 : 0 ≤ F
   ·obtain ⟨N, rfl⟩ := Int.eq_ofNat_of_zero_le hF0
    have hN : N < P.funs.length := by have := funV_lt (P := P) (o := o) (by rw [← HFe.out]; exact hF0); rw [← HFe.out] at this; omega
    obtain ⟨yf, f, afp, cfp, hyf, hfk, e0, e1, e2, hIp⟩ := (HPW.out.prog.ext HX.out).funs.at hN
    subst hyf
    have hfm : f ∈ P.funs := List.mem_of_getElem? hfk
    have hq4 := called_few HPW.out.well hfm r
    have hpf := (PP.goodF (PP.funs_ok HPW.out.well.1) hfm).few
    obtain ⟨q, hq⟩ : ∃ q, q = calledV f r := ⟨_, rfl⟩
    have Hc : Hid (P.callsOf r o = q) := hid (by
     unfold PP.callsOf
     rw [if_pos (by rw [← HFe.out]; omega), ← HFe.out, hq]
     show calledV ((P.funs.getD N _)) r = _
     rw [List.getD_eq_getElem?_getD, hfk]; rfl)
    have HCl := fun wx (x : Ext w1 wx) => hid (conscalled_any f r (.slice afp f.params.length cfp) (.slice aa r.args.length ca) wx n0 (hIp.old ((Hx1.out.trans x).old n0)) (HA.out.old ((HX.out.trans (Hx1.out.trans x)).old n0)) (by omega))
    rw [← hq] at HCl hq4
    unfold RV.val at HCl
    have hnew : ∀ wx, Keep (fun b => W.heap.size ≤ b) w1 wx → Ext W wx := fun wx kk => Keep.new Hx1.out kk fun b hb => hb
    have f0 : ∀ wx, Keep (fun b => W.heap.size ≤ b) w1 wx → wx.cell? (yf.add (N * 3)) = some (.string f.name) := fun wx kk => (hnew wx kk).cellx e0
    have f1 : ∀ wx, Keep (fun b => W.heap.size ≤ b) w1 wx → wx.cell? ⟨(yf.add (N * 3)).block, (yf.add (N * 3)).off + 1, none⟩ = some (.slice afp f.params.length cfp) := fun wx kk => (hnew wx kk).cellx e1
    have f2 : ∀ wx, Keep (fun b => W.heap.size ≤ b) w1 wx → wx.cell? ⟨(yf.add (N * 3)).block, (yf.add (N * 3)).off + 2, none⟩ = some (.int .i64 f.ret) := fun wx kk => (hnew wx kk).cellx e2
    have nb0 : ¬ W.heap.size ≤ w.heap.size := by have := HB0.out.lt; omega
    have nb1 : ¬ W.heap.size ≤ w.heap.size + 1 := by have := HB1.out.lt; omega
    have d1 := (HB0.out.ext Hx1.out).kc (X := fun b => W.heap.size ≤ b) nb0 1 rfl
    have m0 := (HB1.out.ext Hx1.out).kc (X := fun b => W.heap.size ≤ b) nb1 0 rfl
    have m1 := (HB1.out.ext Hx1.out).kc (X := fun b => W.heap.size ≤ b) nb1 1 rfl
    have m2 := (HB1.out.ext Hx1.out).kc (X := fun b => W.heap.size ≤ b) nb1 2 rfl
    have m3 := (HB1.out.ext Hx1.out).kc (X := fun b => W.heap.size ≤ b) nb1 3 rfl
    have m4 := (HB1.out.ext Hx1.out).kc (X := fun b => W.heap.size ≤ b) nb1 4 rfl
    simp only [pcells, qA0, qA1, qA2] at d1 m0 m1 m2 m3 m4
    clear hfk e0 e1 e2 hIp hfm hq hnew nb0 nb1
    go_wp2
    refine wp_flowT (fun b => W.heap.size ≤ b) (by kernel_rfl) (by kernel_rfl) ?_
    repeat (apply FlowT.d; (intro w1 hk; unfold does; go_simp; (try go_ints); (first | exact DetR.mk | (simp only [↓IntWalk.iteOmega, Oper.doesUpon_value]; exact DetR.mk) | (simp only [↓IntWalk.iteOmega]; go_simp; (try go_ints); exact DetR.mk))); simp only [Act.put, qS0, qS1, qS2])
    refine FlowT.s (fun v w' => (∃ a c, v = .slice a q.length c) ∧ ERow W.heap.size w' v q ∧ w'.ownsRow W.heap.size 62 2 (.slice a7 E.length c7) E.length (E.flatMap eCells) ∧ Ext W w') 7 rfl (by kernel_rfl) (fun _ _ _ ⟨h1, h2, h3, h4⟩ y => ⟨h1, h2.ext y, own_ext h3 y, h4.trans y⟩) (fun w2 hC hk2 => ?_) ?_
    ·unfold does
     go_simp
     refine CallR.act ((HCl w2 hC).out.mono ?_)
     rintro e w3 ⟨v, rfl, hr, hx⟩
     exact ⟨v, rfl, hk2.trans (hx.keep _), row_form hr, hr.low (Hx1.out.trans hC).size, own_ext Hr1.out (hC.trans hx), Hx1.out.trans (hC.trans hx)⟩
    rintro _ ⟨_, ⟨a8, c8, rfl⟩, _, _, _⟩
    simp only [Act.put, qS0, qS1, qS2]
    refine FlowT.s (fun v w' => (∃ a c, v = .slice a (E.length + q.length) c) ∧ w'.ownsRow W.heap.size 62 2 v (E.length + q.length) ((E ++ q).flatMap eCells) ∧ Ext W w') 8 rfl (by kernel_rfl) (fun _ _ _ ⟨h1, h2, h3⟩ y => ⟨h1, own_ext h2 y, h3.trans y⟩) (fun w2 hC hk2 => ?_) ?_
    ·obtain ⟨_, hq8, hr8, hx8⟩ := hC
     refine does_append_src W.heap.size hx8.size 55 62 (.agg #[.int .i64 0, .int .i64 0]) 2 16 Tryz.underlying55 edge_info rfl (by omega) (by omega) rfl _ _ rfl (.slice a7 E.length c7) E.length (E.flatMap eCells) rfl hr8 a8 q.length c8 (q.flatMap eCells) rfl (own_src hq8 eCells_one) (by omega) ?_
     intro v' w' h1 h2
     exact ⟨hk2.trans (h2.mono fun b _ e => (World.ownsRow.lt hr8 b e).1), row_form h1, by rw [List.flatMap_append]; exact h1, Keep.new hx8 h2 (fun b e => (World.ownsRow.lt hr8 b e).1)⟩
    rintro _ ⟨_, ⟨a10, c10, rfl⟩, _, _⟩
    simp only [Act.put, qS0, qS1, qS2]
    repeat (apply FlowT.d; (intro w1 hk; unfold does; go_simp; (try go_ints); (first | exact DetR.mk | (simp only [↓IntWalk.iteOmega, Oper.doesUpon_value]; exact DetR.mk) | (simp only [↓IntWalk.iteOmega]; go_simp; (try go_ints); exact DetR.mk))); simp only [Act.put, qS0, qS1, qS2])
    refine FlowT.fin fun w4 hC4 hk4 => ?_
    obtain ⟨_, h5, h6⟩ := hC4
    have H5 := hid h5
    have H6 := hid h6
    clear h5 h6 hk4 HCl f0 f1 f2 d1 m0 m1 m2 m3 m4
    go_wp2
    go_roundw
    case rel => exact ⟨k + 1, E ++ q, by go_num, by omega, by rw [Hn.out, Hc.out], by rw [List.length_append]; omega, by rw [List.length_append]; exact H5.out, H6.out⟩
    case measure => simp [intOf]; omega
   ·have Hc : Hid (P.callsOf r o = []) := hid (by unfold PP.callsOf; rw [if_neg (by rw [← HFe.out]; exact hF0)])
    go_wp2
    go_roundw
    case rel => exact ⟨k + 1, E, by go_num, by omega, by rw [Hn.out, Hc.out, List.append_nil], by omega, Hr1.out, Hx1.out⟩
    case measure => simp [intOf]; omega
  ·obtain rfl : k = l.length := by omega
   have HEn : Hid (P.redges r has = E) := hid (by rw [Hr.out, HE.out, List.take_of_length_le (Nat.le_refl _)])
   go_wp2
   go_ret
   exact ⟨_, rfl, by unfold ERow; rw [HEn.out]; exact own_low Hr7.out HX.out.size, HX.out.trans Hx.out⟩
set_option maxRecDepth 100000 in
set_option maxHeartbeats 6400000 in
theorem redges_base (a1 a2 a3 : Option Addr) (c1 c2 c3 : Nat) (P : PP) (r : RV) (av hv : Value) (has : List (List Int)) (w : World) (n0 : Nat) (ad : Nat → Addr) (h : PW w n0 ad a1 a2 a3 c1 c2 c3 P) (ha : IntsR w n0 av r.args) (hh : SetsR w n0 hv has) (hfew : ∀ l ∈ has, l.length ≤ 10000) (hkd : (r.kind.toList == [98, 97, 115, 101]) = true) :
  Calls Tryz.prog 57 #[pval a1 a2 a3 c1 c2 c3 P, r.val av, hv] w fun e w' => ∃ v, e = .returned v ∧ ERow w.heap.size w' v (P.redges r has) ∧ Ext w w' := by
 obtain ⟨aa, ca, rfl, _⟩ := id ha
 obtain ⟨ah, ch, rfl⟩ := hh.form
 have hhl := hh.len
 have hal := ha.len
 obtain ⟨W1, hW1⟩ : ∃ W1, W1 = w.alloc (.cells (pcells a1 a2 a3 c1 c2 c3 P) 26) := ⟨_, rfl⟩
 have hx1 : Ext w W1 := by rw [hW1]; exact (Ext.refl _).alloc _
 obtain ⟨W, hW⟩ : ∃ W, W = W1.alloc (.cells #[.string r.kind, .int .i64 r.a, .int .i64 r.b, .int .i64 r.k, .slice aa r.args.length ca] 87) := ⟨_, rfl⟩
 have hx2 : Ext W1 W := by rw [hW]; exact (Ext.refl _).alloc _
 have s1 : W1.heap.size = w.heap.size + 1 := by rw [hW1, heap_size_alloc]
 have HX := hid (hx1.trans hx2)
 have HB0 : Hid (Blk W w.heap.size (pcells a1 a2 a3 c1 c2 c3 P) 26) := hid (by
  have : Blk W1 w.heap.size (pcells a1 a2 a3 c1 c2 c3 P) 26 := by rw [hW1]; exact Blk.new _ _ _
  exact this.ext hx2)
 have HB1 : Hid (Blk W (w.heap.size + 1) #[.string r.kind, .int .i64 r.a, .int .i64 r.b, .int .i64 r.k, .slice aa r.args.length ca] 87) := hid (by rw [← s1, hW]; exact Blk.new _ _ _)
 have HWe : Hid (W = (w.alloc (.cells #[.slice a1 P.vars.length c1, .slice a2 P.funs.length c2, .slice a3 P.stmts.length c3] 26)).alloc (.cells #[.string r.kind, .int .i64 r.a, .int .i64 r.b, .int .i64 r.k, .slice aa r.args.length ca] 87)) := hid (by rw [hW, hW1]; rfl)
 have HPW := hid h
 have HH := hid hh
 have HA := hid ha
 have Hfew := hid hfew
 unfold RV.val pval
 clear h ha hh hfew hW1 hW hx1 hx2 s1
 have hk0 : (r.kind.toList == [99, 111, 112, 121]) = false := by rw [eq_of_beq hkd]; rfl
 have hk1 : (r.kind.toList == [108, 111, 97, 100]) = false := by rw [eq_of_beq hkd]; rfl
 have hk2 : (r.kind.toList == [115, 116, 111, 114, 101]) = false := by rw [eq_of_beq hkd]; rfl
 have hk3 : (r.kind.toList == [99, 97, 108, 108]) = false := by rw [eq_of_beq hkd]; rfl
 have Hr : Hid (P.redges r has = []) := hid (by unfold PP.redges kCopy kLoad kStore kCall; rw [hk0, hk1, hk2, hk3]; rfl)
 clear hkd
 go_enter Tryz.func57, Tryz.ntmps57
 go_wp2
 go_ret
 exact ⟨_, rfl, by rw [Hr.out]; exact ERow.nil _ _, ((Ext.refl w).alloc _).alloc _⟩
theorem bBase_list : (bBase.toList == [98, 97, 115, 101]) = true := by decide +kernel
theorem bCall_list : (bCall.toList == [99, 97, 108, 108]) = true := by decide +kernel
structure SetsOk (P : PP) (has : List (List Int)) : Prop where
 len : has.length = P.nodesV
 ok : ∀ l ∈ has, chkE l = 0 ∧ ∀ x ∈ l, x < P.objectsV
theorem SetsOk.inr {P : PP} {has : List (List Int)} (h : SetsOk P has) : ∀ l ∈ has, InR l := fun l hl => (chkE_zero.1 (h.ok l hl).1).1
theorem srt_few {l : List Int} (h : chkE l = 0) : l.length ≤ 1000 := by
 obtain ⟨h1, h2⟩ := chkE_zero.1 h
 rw [← sset_self h2 h1]
 unfold sset
 rw [List.length_map]
 have := List.length_filter_le (fun n : Nat => decide ((n : Int) ∈ l)) (List.range 1000)
 rw [List.length_range] at this
 exact this
theorem nodes_vars (P : PP) : P.vars.length ≤ P.nodesV := by unfold PP.nodesV; omega
theorem redges_any (a1 a2 a3 : Option Addr) (c1 c2 c3 : Nat) (P : PP) (k : Nat) (hk : k < P.stmts.length) (av hv : Value) (has : List (List Int)) (w : World) (n0 : Nat) (ad : Nat → Addr) (h : PW w n0 ad a1 a2 a3 c1 c2 c3 P) (ha : IntsR w n0 av (P.ruleV k (P.stAt k)).args) (hh : SetsR w n0 hv has) (hs : SetsOk P has) (hn0 : n0 ≤ w.heap.size) :
  Calls Tryz.prog 57 #[pval a1 a2 a3 c1 c2 c3 P, (P.ruleV k (P.stAt k)).val av, hv] w fun e w' => ∃ v, e = .returned v ∧ ERow w.heap.size w' v (P.redges (P.ruleV k (P.stAt k)) has) ∧ Ext w w' := by
 have h0 := h.well.2 k (P.stAt k) hk (stAt_some hk)
 have hg := PP.good h0
 have hfew : ∀ l ∈ has, l.length ≤ 10000 := fun l hl => by have := srt_few (hs.ok l hl).1; omega
 have hnv := nodes_vars P
 have hl := hs.len
 obtain ⟨x, hx⟩ : ∃ x, x = P.stAt k := ⟨_, rfl⟩
 rw [← hx] at h0 hg ha ⊢
 rcases kind_cases h0 with g | g | g | g | g | g | g
 ·have e : P.ruleV k x = ⟨bBase, x.x, x.y, k, []⟩ := by unfold PP.ruleV; rw [g]; rfl
  exact redges_base a1 a2 a3 c1 c2 c3 P _ av hv has w n0 ad h ha hh hfew (by rw [e]; exact bBase_list)
 ·have e : P.ruleV k x = ⟨x.kind, x.y, x.x, k, []⟩ := by unfold PP.ruleV; rw [isK_ne g (k' := kAddr) rfl, isK_ne g (k' := kNew) rfl, isK_ne g (k' := kFun) rfl, isK_ne g (k' := kCall) rfl]; rfl
  exact redges_copy a1 a2 a3 c1 c2 c3 P _ av hv has w n0 ad h ha hh hfew (by rw [e]; exact g)
 ·have e : P.ruleV k x = ⟨x.kind, x.y, x.x, k, []⟩ := by unfold PP.ruleV; rw [isK_ne g (k' := kAddr) rfl, isK_ne g (k' := kNew) rfl, isK_ne g (k' := kFun) rfl, isK_ne g (k' := kCall) rfl]; rfl
  have hy := hg.yv (isK_ne g (k' := kFun) rfl) (isK_ne g (k' := kNew) rfl)
  exact redges_load a1 a2 a3 c1 c2 c3 P _ av hv has w n0 ad h ha hh hfew (by rw [e]; exact g) (by rw [e]; show 0 ≤ x.y ∧ x.y < has.length; omega)
 ·have e : P.ruleV k x = ⟨x.kind, x.y, x.x, k, []⟩ := by unfold PP.ruleV; rw [isK_ne g (k' := kAddr) rfl, isK_ne g (k' := kNew) rfl, isK_ne g (k' := kFun) rfl, isK_ne g (k' := kCall) rfl]; rfl
  have hy := hg.gx
  exact redges_store a1 a2 a3 c1 c2 c3 P _ av hv has w n0 ad h ha hh hfew (by rw [e]; exact g) (by rw [e]; show 0 ≤ x.x ∧ x.x < has.length; omega)
 ·have e : P.ruleV k x = ⟨bBase, x.x, P.placeV k, k, []⟩ := by unfold PP.ruleV; rw [isK_ne g (k' := kAddr) rfl, g]; rfl
  exact redges_base a1 a2 a3 c1 c2 c3 P _ av hv has w n0 ad h ha hh hfew (by rw [e]; exact bBase_list)
 ·have e : P.ruleV k x = ⟨bBase, x.x, (P.nodesV : Int) + x.y, k, []⟩ := by unfold PP.ruleV; rw [isK_ne g (k' := kAddr) rfl, isK_ne g (k' := kNew) rfl, g]; rfl
  exact redges_base a1 a2 a3 c1 c2 c3 P _ av hv has w n0 ad h ha hh hfew (by rw [e]; exact bBase_list)
 ·have e : P.ruleV k x = ⟨bCall, x.y, x.x, k, x.args⟩ := by unfold PP.ruleV; rw [isK_ne g (k' := kAddr) rfl, isK_ne g (k' := kNew) rfl, isK_ne g (k' := kFun) rfl, g]; rfl
  have hy := hg.yv (isK_ne g (k' := kFun) rfl) (isK_ne g (k' := kNew) rfl)
  exact redges_call a1 a2 a3 c1 c2 c3 P _ av hv has w n0 ad h ha hh hfew (by rw [e]; exact bCall_list) (by rw [e]; show 0 ≤ x.y ∧ x.y < has.length; omega) hs.inr hn0
end Go.Proofs.YtngdpnlgnpdkcaaGreatDoor
namespace Go.Proofs.YtngdpnlgnpdkcaaGreatDoor
def lexLt (a b : Int × Int) : Prop := a.1 < b.1 ∨ (a.1 = b.1 ∧ a.2 < b.2)
def lexLe (a b : Int × Int) : Prop := lexLt a b ∨ a = b
theorem lexLt.irr (a : Int × Int) : ¬ lexLt a a := by unfold lexLt; omega
theorem lexLt.trans {a b c : Int × Int} (h : lexLt a b) (k : lexLt b c) : lexLt a c := by unfold lexLt at *; omega
theorem lexLt.tri (a b : Int × Int) : lexLt a b ∨ a = b ∨ lexLt b a := by
 obtain ⟨a1, a2⟩ := a
 obtain ⟨b1, b2⟩ := b
 unfold lexLt
 simp only [Prod.mk.injEq]
 omega
theorem lexLe.lt {a b : Int × Int} (h : lexLe a b) (hn : a ≠ b) : lexLt a b := h.elim id fun e => absurd e hn
theorem lexLe.trans_lt {a b c : Int × Int} (h : lexLe a b) (k : lexLt b c) : lexLt a c := h.elim (fun h => h.trans k) (fun e => by rw [e]; exact k)
abbrev SrtP (l : List (Int × Int)) : Prop := l.Pairwise lexLt
theorem srtP_uniq : ∀ {a b : List (Int × Int)}, SrtP a → SrtP b → (∀ x, x ∈ a ↔ x ∈ b) → a = b
 | [], [], _, _, _ => rfl
 | [], y :: b, _, _, h => absurd ((h y).2 (List.mem_cons_self ..)) (List.not_mem_nil)
 | x :: a, [], _, _, h => absurd ((h x).1 (List.mem_cons_self ..)) (List.not_mem_nil)
 | x :: a, y :: b, ha, hb, h => by
  obtain ⟨ha1, ha2⟩ := List.pairwise_cons.1 ha
  obtain ⟨hb1, hb2⟩ := List.pairwise_cons.1 hb
  have hxy : x = y := by
   have h1 : x ∈ y :: b := (h x).1 (List.mem_cons_self ..)
   have h2 : y ∈ x :: a := (h y).2 (List.mem_cons_self ..)
   rcases List.mem_cons.1 h1 with e | e
   ·exact e
   ·rcases List.mem_cons.1 h2 with f | f
    ·exact f.symm
    ·exact absurd ((hb1 x e).trans (ha1 y f)) (lexLt.irr _)
  subst hxy
  congr 1
  refine srtP_uniq ha2 hb2 fun z => ⟨fun hz => ?_, fun hz => ?_⟩
  ·rcases List.mem_cons.1 ((h z).1 (List.mem_cons_of_mem _ hz)) with e | e
   ·have := ha1 z hz; rw [e] at this; exact absurd this (lexLt.irr _)
   ·exact e
  ·rcases List.mem_cons.1 ((h z).2 (List.mem_cons_of_mem _ hz)) with e | e
   ·have := hb1 z hz; rw [e] at this; exact absurd this (lexLt.irr _)
   ·exact e
theorem compactP_upto (zs : List (Int × Int)) (hz : zs.Pairwise lexLe) : ∀ m, m ≤ zs.length → (∀ x, x ∈ Go.Lib.compactUpTo zs.toArray m ↔ x ∈ zs.take m) ∧ SrtP (Go.Lib.compactUpTo zs.toArray m)
 | 0, _ => ⟨fun x => by simp [Go.Lib.compactUpTo], by simp [Go.Lib.compactUpTo]⟩
 | m + 1, hm => by
  obtain ⟨h1, h2⟩ := compactP_upto zs hz m (by omega)
  have hg : zs.toArray[m]! = zs[m]'(by omega) := by simp [getElem!_pos, show m < zs.length by omega]
  have ht : zs.take (m + 1) = zs.take m ++ [zs[m]'(by omega)] := by rw [List.take_add_one, List.getElem?_eq_getElem (by omega)]; rfl
  rw [Go.Lib.compactUpTo_succ]
  by_cases hk : Go.Lib.keeps zs.toArray m = true
  ·rw [if_pos hk, hg, ht]
   refine ⟨fun x => by rw [List.mem_append, List.mem_append, h1], ?_⟩
   refine List.pairwise_append.2 ⟨h2, List.pairwise_singleton _ _, fun a ha b hb => ?_⟩
   obtain rfl := List.mem_singleton.1 hb
   have ha' := (h1 a).1 ha
   obtain ⟨i, hi, rfl⟩ := List.getElem_of_mem ha'
   rw [List.length_take] at hi
   rw [List.getElem_take]
   unfold Go.Lib.keeps at hk
   rcases of_decide_eq_true hk with e | e
   ·omega
   ·have hg2 : zs.toArray[m - 1]! = zs[m - 1]'(by omega) := by simp [getElem!_pos, show m - 1 < zs.length by omega]
    rw [hg, hg2] at e
    have p1 : lexLt (zs[m - 1]'(by omega)) (zs[m]'(by omega)) := (List.pairwise_iff_getElem.1 hz (m - 1) m (by omega) (by omega) (by omega)).lt fun h => e h.symm
    have p2 : lexLe (zs[i]'(by omega)) (zs[m - 1]'(by omega)) := by
     rcases Nat.lt_or_ge i (m - 1) with h | h
     ·exact List.pairwise_iff_getElem.1 hz i (m - 1) (by omega) (by omega) h
     ·have : i = m - 1 := by omega
      subst this; exact .inr rfl
    exact p2.trans_lt p1
  ·rw [if_neg hk, List.append_nil]
   refine ⟨fun x => ?_, h2⟩
   rw [h1, ht, List.mem_append]
   refine ⟨.inl, fun h => h.elim id fun hx => ?_⟩
   obtain rfl := List.mem_singleton.1 hx
   unfold Go.Lib.keeps at hk
   have hk' : ¬ (m = 0 ∨ zs.toArray[m]! ≠ zs.toArray[m - 1]!) := fun h => hk (decide_eq_true h)
   have hg2 : zs.toArray[m - 1]! = zs[m - 1]'(by omega) := by simp [getElem!_pos, show m - 1 < zs.length by omega]
   have e : zs[m]'(by omega) = zs[m - 1]'(by omega) := by
    rcases Classical.em (zs[m]'(by omega) = zs[m - 1]'(by omega)) with e | e
    ·exact e
    ·exact absurd (.inr (by rw [hg, hg2]; exact e)) hk'
   have hm0 : m ≠ 0 := fun h => hk' (.inl h)
   rw [e]
   have : zs[m - 1]'(by omega) = (zs.take m)[m - 1]'(by rw [List.length_take]; omega) := by rw [List.getElem_take]
   rw [this]
   exact List.getElem_mem _
theorem compactP (zs : List (Int × Int)) (hz : zs.Pairwise lexLe) : (∀ x, x ∈ Go.Lib.compact zs ↔ x ∈ zs) ∧ SrtP (Go.Lib.compact zs) := by
 obtain ⟨h1, h2⟩ := compactP_upto zs hz _ (Nat.le_refl _)
 refine ⟨fun x => ?_, by unfold Go.Lib.compact; exact h2⟩
 have := h1 x
 unfold Go.Lib.compact
 rw [this, List.take_of_length_le (Nat.le_refl _)]
end Go.Proofs.YtngdpnlgnpdkcaaGreatDoor
namespace Go.Proofs.YtngdpnlgnpdkcaaGreatDoor
open Go Go.RowKit
def PP.edges0 (P : PP) (has : List (List Int)) : List (Int × Int) := P.rulesV.flatMap fun r => P.redges r has
def PP.sedges (P : PP) (x : PS) (has : List (List Int)) : List (Int × Int) := P.redges (P.ruleV 0 x) has
theorem redges_nil {P : PP} {r : RV} {has : List (List Int)} (h : r.kind = bBase) : P.redges r has = [] := by
 have e := eq_of_beq bBase_list
 unfold PP.redges kCopy kLoad kStore kCall
 rw [h, e]; rfl
theorem redges_s (P : PP) (k : Nat) (x : PS) (has : List (List Int)) : P.redges (P.ruleV k x) has = P.sedges x has := by
 unfold PP.sedges
 by_cases h1 : x.isK kAddr = true
 ·rw [redges_nil (by unfold PP.ruleV; rw [h1]; rfl), redges_nil (by unfold PP.ruleV; rw [h1]; rfl)]
 ·by_cases h2 : x.isK kNew = true
  ·rw [redges_nil (by unfold PP.ruleV; rw [eq_false_of_ne_true h1, h2]; rfl), redges_nil (by unfold PP.ruleV; rw [eq_false_of_ne_true h1, h2]; rfl)]
  ·by_cases h3 : x.isK kFun = true
   ·rw [redges_nil (by unfold PP.ruleV; rw [eq_false_of_ne_true h1, eq_false_of_ne_true h2, h3]; rfl), redges_nil (by unfold PP.ruleV; rw [eq_false_of_ne_true h1, eq_false_of_ne_true h2, h3]; rfl)]
   ·unfold PP.ruleV
    rw [eq_false_of_ne_true h1, eq_false_of_ne_true h2, eq_false_of_ne_true h3]
    cases x.isK kCall <;> rfl
theorem mem_edges0 {P : PP} {has : List (List Int)} {e : Int × Int} : e ∈ P.edges0 has ↔ ∃ x ∈ P.stmts, e ∈ P.sedges x has := by
 unfold PP.edges0 PP.rulesV PP.rulesUp
 rw [List.mem_flatMap]
 constructor
 ·rintro ⟨r, hr, he⟩
  obtain ⟨k, hk, rfl⟩ := List.mem_map.1 hr
  rw [redges_s] at he
  exact ⟨P.stAt k, List.mem_of_getElem? (stAt_some (List.mem_range.1 hk)), he⟩
 ·rintro ⟨x, hx, he⟩
  obtain ⟨k, hk, hkx⟩ := List.getElem_of_mem hx
  have e1 : P.stAt k = x := by
   have := stAt_some hk
   rw [List.getElem?_eq_getElem hk, hkx] at this
   exact (Option.some.inj this).symm
  refine ⟨P.ruleV k (P.stAt k), List.mem_map.2 ⟨k, List.mem_range.2 hk, rfl⟩, ?_⟩
  rw [redges_s, e1]; exact he
def PP.InN (P : PP) (e : Int × Int) : Prop := 0 ≤ e.1 ∧ e.1 < P.nodesV ∧ 0 ≤ e.2 ∧ e.2 < P.nodesV
theorem nodes_in {P : PP} {has : List (List Int)} (hs : SetsOk P has) (i : Nat) (o : Int) (ho : o ∈ P.nodesOf (has.getD i [])) : 0 ≤ o ∧ o < (P.nodesV : Int) := by
 unfold PP.nodesOf at ho
 obtain ⟨h1, h2⟩ := List.mem_filter.1 ho
 have h3 : o < (P.nodesV : Int) := by simpa using h2
 rw [List.getD_eq_getElem?_getD] at h1
 cases he : has[i]? with
 | none => rw [he] at h1; cases h1
 | some l => rw [he] at h1; exact ⟨(hs.inr l (List.mem_of_getElem? he) o h1).1, h3⟩
theorem called_in {P : PP} (hw : P.Well) {f : PF} (hf : f ∈ P.funs) {r : RV} (hb : 0 ≤ r.b ∧ r.b < P.nodesV) (ha : ∀ a ∈ r.args, 0 ≤ a ∧ a < (P.nodesV : Int)) : ∀ e ∈ calledV f r, P.InN e := by
 intro e he
 have g := PP.goodF (PP.funs_ok hw.1) hf
 have hnv := nodes_vars P
 unfold calledV at he
 split at he
 ·rcases List.mem_cons.1 he with rfl | he
  ·have := g.ret
   exact ⟨this.1, by show f.ret < _; omega, hb.1, hb.2⟩
  ·obtain ⟨a, b⟩ := e
   obtain ⟨h1, h2⟩ := List.of_mem_zip he
   have p1 := ha a h1
   have p2 := g.params b h2
   exact ⟨p1.1, p1.2, p2.1, by show b < _; omega⟩
 ·cases he
set_option maxRecDepth 100000 in
theorem redges_in {P : PP} {has : List (List Int)} (hw : P.Well) (hs : SetsOk P has) {k : Nat} (hk : k < P.stmts.length) : ∀ e ∈ P.redges (P.ruleV k (P.stAt k)) has, P.InN e := by
 have h0 := hw.2 k (P.stAt k) hk (stAt_some hk)
 have hg := PP.good h0
 have hnv := nodes_vars P
 obtain ⟨x, hx⟩ : ∃ x, x = P.stAt k := ⟨_, rfl⟩
 rw [← hx] at h0 hg ⊢
 have hgx := hg.gx
 rcases kind_cases h0 with g | g | g | g | g | g | g
 ·rw [redges_nil (by unfold PP.ruleV; rw [g]; rfl)]
  intro e he; cases he
 ·have e : P.ruleV k x = ⟨x.kind, x.y, x.x, k, []⟩ := by unfold PP.ruleV; rw [isK_ne g (k' := kAddr) rfl, isK_ne g (k' := kNew) rfl, isK_ne g (k' := kFun) rfl, isK_ne g (k' := kCall) rfl]; rfl
  have hy := hg.yv (isK_ne g (k' := kFun) rfl) (isK_ne g (k' := kNew) rfl)
  have h2 : (x.kind.toList == kCopy) = true := g
  rw [e]
  unfold PP.redges
  dsimp only
  rw [h2, cond_true]
  intro e he
  obtain rfl := List.mem_singleton.1 he
  exact ⟨hy.1, by show x.y < _; omega, hgx.1, by show x.x < _; omega⟩
 ·have e : P.ruleV k x = ⟨x.kind, x.y, x.x, k, []⟩ := by unfold PP.ruleV; rw [isK_ne g (k' := kAddr) rfl, isK_ne g (k' := kNew) rfl, isK_ne g (k' := kFun) rfl, isK_ne g (k' := kCall) rfl]; rfl
  have h1 : (x.kind.toList == kCopy) = false := isK_ne g (k' := kCopy) rfl
  have h2 : (x.kind.toList == kLoad) = true := g
  rw [e]
  unfold PP.redges
  dsimp only
  rw [h1, h2, cond_true, cond_false]
  intro e he
  obtain ⟨o, ho, rfl⟩ := List.mem_map.1 he
  have := nodes_in hs _ o ho
  exact ⟨this.1, this.2, hgx.1, by show x.x < _; omega⟩
 ·have e : P.ruleV k x = ⟨x.kind, x.y, x.x, k, []⟩ := by unfold PP.ruleV; rw [isK_ne g (k' := kAddr) rfl, isK_ne g (k' := kNew) rfl, isK_ne g (k' := kFun) rfl, isK_ne g (k' := kCall) rfl]; rfl
  have hy := hg.yv (isK_ne g (k' := kFun) rfl) (isK_ne g (k' := kNew) rfl)
  have h1 : (x.kind.toList == kCopy) = false := isK_ne g (k' := kCopy) rfl
  have h3 : (x.kind.toList == kLoad) = false := isK_ne g (k' := kLoad) rfl
  have h2 : (x.kind.toList == kStore) = true := g
  rw [e]
  unfold PP.redges
  dsimp only
  rw [h1, h2, h3, cond_true, cond_false, cond_false]
  intro e he
  obtain ⟨o, ho, rfl⟩ := List.mem_map.1 he
  have := nodes_in hs _ o ho
  exact ⟨hy.1, by show x.y < _; omega, this.1, this.2⟩
 ·rw [redges_nil (by unfold PP.ruleV; rw [isK_ne g (k' := kAddr) rfl, g]; rfl)]
  intro e he; cases he
 ·rw [redges_nil (by unfold PP.ruleV; rw [isK_ne g (k' := kAddr) rfl, isK_ne g (k' := kNew) rfl, g]; rfl)]
  intro e he; cases he
 ·have e : P.ruleV k x = ⟨bCall, x.y, x.x, k, x.args⟩ := by unfold PP.ruleV; rw [isK_ne g (k' := kAddr) rfl, isK_ne g (k' := kNew) rfl, isK_ne g (k' := kFun) rfl, g]; rfl
  have hkd := eq_of_beq bCall_list
  rw [e]
  unfold PP.redges kCopy kLoad kStore kCall
  dsimp only
  rw [hkd]
  intro e he
  obtain ⟨o, _, ho⟩ := List.mem_flatMap.1 (show e ∈ (has.getD x.y.toNat []).flatMap (P.callsOf ⟨bCall, x.y, x.x, k, x.args⟩) from he)
  unfold PP.callsOf at ho
  split at ho
  ·rename_i hF
   have hlt := funV_lt hF
   have hn : (P.funV o).toNat < P.funs.length := by omega
   rw [List.getD_eq_getElem?_getD, List.getElem?_eq_getElem hn] at ho
   exact called_in hw (List.getElem_mem hn) (r := ⟨bCall, x.y, x.x, k, x.args⟩) ⟨hgx.1, by show x.x < _; omega⟩ (fun a ha => by have := hg.args a ha; omega) e ho
  ·cases ho
theorem edges0_in {P : PP} {has : List (List Int)} (hw : P.Well) (hs : SetsOk P has) : ∀ e ∈ P.edges0 has, P.InN e := by
 intro e he
 unfold PP.edges0 PP.rulesV PP.rulesUp at he
 obtain ⟨r, hr, he⟩ := List.mem_flatMap.1 he
 obtain ⟨k, hk, rfl⟩ := List.mem_map.1 hr
 exact redges_in hw hs (List.mem_range.1 hk) e he
theorem nodesV_le (P : PP) (hw : P.Well) : P.nodesV ≤ 120 := by
 have := hw.few
 have := P.nodesV_le2
 omega
structure EdgesAre (P : PP) (has : List (List Int)) (l : List (Int × Int)) : Prop where
 srt : SrtP l
 mem : ∀ e, e ∈ l ↔ e ∈ P.edges0 has ∧ e.1 ≠ e.2
theorem EdgesAre.uniq {P : PP} {has : List (List Int)} {a b : List (Int × Int)} (h : EdgesAre P has a) (k : EdgesAre P has b) : a = b :=
 srtP_uniq h.srt k.srt fun e => (h.mem e).trans (k.mem e).symm
set_option maxRecDepth 100000 in
set_option maxHeartbeats 800000 in
theorem igrow_any (n : Nat) (w : World) (hn : n ≤ 100000) :
  Calls Tryz.prog 181 #[.slice none 0 0, .int .i64 (n : Int)] w fun e w' => ∃ v, e = .returned v ∧ Ext w w' ∧ IRow w.heap.size w' v [] := by
 rcases Nat.eq_zero_or_pos n with rfl | h0
 ·go_enter Tryz.func181, Tryz.ntmps181
  go_wp2
  go_ret
  exact ⟨_, rfl, Ext.refl _, IRow.nil _ _⟩
 ·obtain ⟨i, hi, hz0, hz, hz2⟩ : ∃ i, Tryz.prog.info? 3 = some i ∧ i.zero = some (.int .i64 0) ∧ i.size = 1 ∧ i.bytes = 8 := by
   have h := ints_info
   cases hi : Tryz.prog.info? 3 with
   | none => rw [hi] at h; cases h
   | some i =>
    rw [hi] at h
    simp only [Option.map_some, Option.some.injEq, Prod.mk.injEq] at h
    exact ⟨i, rfl, h.1, h.2.1, h.2.2⟩
  have hr := fun ty => Lib.run_append_nil_zeros (P := Tryz.prog) w 43 3 ty 3 i (.int .i64 0) .i64 .i64 Tryz.underlying43 Tryz.underlying3 hi hz0 n h0 (by omega) (by omega) (by rw [hz2]; omega)
  have hG := grownCap_ge w n 0 3
  have hG2 := grownCap_le_maxLen w n 0 3 (by unfold maxLen; omega)
  generalize grownCap w n 0 3 = G at *
  have hG3 : G ≤ 9223372036854775807 := by unfold maxLen at hG2; omega
  obtain ⟨W, hW⟩ : ∃ W, W = w.drew.alloc (.cells (Builtin.zeroCells (Value.int .i64 0).cells n ++ Builtin.zeroCells (Value.int .i64 0).cells (G - n)) 3) := ⟨_, rfl⟩
  have hx : Hid (Ext w W) := hid (by rw [hW]; exact ((Ext.refl w).drew).alloc _)
  have hrow : Hid (IRow w.heap.size W (.slice (some ⟨w.heap.size, 0, none⟩) 0 G) []) := hid ⟨rfl, .inr ⟨w.heap.size, G, _, rfl, Nat.le_refl _, by rw [hW]; exact Blk.new w.drew _ _, Nat.zero_le _, hG2, by simp [Builtin.zeroCells, Value.cells]; omega, rfl⟩⟩
  rw [← hW] at hr
  have Hr := hid hr
  clear hr hW hi hz0 hz hz2 hG2
  have hn' : (0 : Int) < (n : Int) := by omega
  go_enter Tryz.func181, Tryz.ntmps181
  go_wp2_with (at_builtin; refine Lib.wpList_append_run _ rfl _ _ _ _ rfl _ _ rfl rfl _ _ (Hr.out _) ?_)
  go_ret
  exact ⟨_, rfl, hx.out, hrow.out⟩
set_option maxRecDepth 100000 in
set_option maxHeartbeats 1600000 in
theorem iconcat_any (g : Nat) (va vb : Value) (a b : List Int) (w : World) (n0 : Nat) (hB : Blk w g #[va, vb] 43) (ha : IntsR w n0 va a) (hb : IntsR w n0 vb b) (hla : a.length ≤ 10000) (hlb : b.length ≤ 10000) :
  Calls Tryz.prog 163 #[.slice (some ⟨g, 0, none⟩) 2 2] w fun e w' => ∃ v, e = .returned v ∧ Ext w w' ∧ IRow w.heap.size w' v (a ++ b) := by
 have HA := hid ha
 have HB := hid hb
 obtain ⟨aa, ca, rfl, _⟩ := ha
 obtain ⟨ab, cb, rfl, _⟩ := hb
 have HBl := hid hB
 have HG := fun w1 => hid (igrow_any (a.length + b.length) w1 (by omega))
 have c0 := hB.av 0 rfl
 have c1 := hB.av 1 rfl
 simp only [qA0, qA1, qA2] at c0 c1
 clear hB
 go_enter Tryz.func163, Tryz.ntmps163
 go_wp2
 go_loop [3, 11] (fun t3 t11 => ∃ k m : Nat, t11 = .int .i64 (k : Int) ∧ t3 = .int .i64 (m : Int) ∧ ((k = 0 ∧ m = 0) ∨ (k = 1 ∧ m = a.length) ∨ (k = 2 ∧ m = a.length + b.length))) (fun _ t11 => 2 - (intOf t11).toNat)
 case atStart => exact ⟨0, 0, rfl, rfl, .inl ⟨rfl, rfl⟩⟩
 case round =>
  obtain ⟨k, m, rfl, rfl, ⟨rfl, rfl⟩ | ⟨rfl, rfl⟩ | ⟨rfl, rfl⟩⟩ := hrel
  ·go_wp2
   refine ⟨⟨1, a.length, by go_num, by go_num, .inr (.inl ⟨rfl, rfl⟩)⟩, by simp [intOf]⟩
  ·go_wp2
   refine ⟨⟨2, a.length + b.length, by go_num, by go_num, .inr (.inr ⟨rfl, rfl⟩)⟩, by simp [intOf]⟩
  ·have HG1 := HG w
   clear HG
   go_wp2_with fail
   refine HG1.out.mono ?_
   intro e w1 hx
   obtain ⟨v1, rfl, hx1, hr1⟩ := hx
   obtain ⟨a1, p1, rfl⟩ := hr1.form
   have Hr1 := hid hr1
   have Hx1 := hid hx1
   clear HG1 hr1 hx1 c0 c1
   go_wp2
   go_loopw [6, 27] (fun t6 t27 wr => ∃ (k : Nat) (x : List Int), t27 = .int .i64 (k : Int) ∧ IRow w.heap.size wr t6 x ∧ Ext w wr ∧ ((k = 0 ∧ x = []) ∨ (k = 1 ∧ x = a) ∨ (k = 2 ∧ x = a ++ b))) (fun _ t27 _ => 2 - (intOf t27).toNat)
   case atStart => exact ⟨0, [], rfl, Hr1.out, Hx1.out, .inl ⟨rfl, rfl⟩⟩
   case round =>
    obtain ⟨k, x, rfl, hr, hx, hcase⟩ := hrel
    obtain ⟨at6, ct6, rfl⟩ := hr.form
    have Hr := hid hr
    have Hx := hid hx
    have c0 := (HBl.out.ext hx).av 0 rfl
    have c1 := (HBl.out.ext hx).av 1 rfl
    simp only [qA0, qA1, qA2] at c0 c1
    clear hr hx
    rcases hcase with ⟨rfl, rfl⟩ | ⟨rfl, rfl⟩ | ⟨rfl, rfl⟩
    ·have HSrc := hid (HA.out.old (Hx.out.old n0)).src
     go_wp2_with (at_builtin; refine wpList_append_src w.heap.size Hx.out.size 43 3 (.int .i64 0) 1 8 Tryz.underlying43 ints_info rfl (by omega) (by omega) rfl _ _ rfl (.slice at6 0 ct6) 0 (icells []) rfl Hr.out _ _ _ _ rfl HSrc.out (by omega) ?_; intro v' w' h1 h2 h4; obtain ⟨a', c', rfl⟩ := row_form h1; have h3 := hid (Keep.new Hx.out h2 (fun k hk => (Hr.out.lt hk).1)); have h1 := hid h1; clear h2 h4)
     go_roundw
     case rel => exact ⟨1, a, by go_num, by have := h1.out; unfold IRow; simpa [icells] using this, h3.out, .inr (.inl ⟨rfl, rfl⟩)⟩
     case measure => simp [intOf]
    ·have HSrc := hid (HB.out.old (Hx.out.old n0)).src
     go_wp2_with (at_builtin; refine wpList_append_src w.heap.size Hx.out.size 43 3 (.int .i64 0) 1 8 Tryz.underlying43 ints_info rfl (by omega) (by omega) rfl _ _ rfl (.slice at6 x.length ct6) x.length (icells x) rfl Hr.out _ _ _ _ rfl HSrc.out (by omega) ?_; intro v' w' h1 h2 h4; obtain ⟨a', c', rfl⟩ := row_form h1; have h3 := hid (Keep.new Hx.out h2 (fun k hk => (Hr.out.lt hk).1)); have h1 := hid h1; clear h2 h4)
     go_roundw
     case rel => exact ⟨2, x ++ b, by go_num, by have := h1.out; unfold IRow; rw [icells_append, List.length_append]; exact this, h3.out, .inr (.inr ⟨rfl, rfl⟩)⟩
     case measure => simp [intOf]
    ·go_wp2
     go_ret
     exact ⟨_, rfl, Hx.out, Hr.out⟩
theorem bothE_zero {a b : List Int} : bothE a b = 0 ↔ chkE a = 0 ∧ chkE b = 0 := by
 unfold bothE
 by_cases h : chkE a = 0
 ·rw [if_pos h]; exact ⟨fun g => ⟨h, g⟩, fun g => g.2⟩
 ·rw [if_neg h]; exact ⟨fun g => absurd g h, fun g => absurd g.1 h⟩
def TwoR (ad : Nat → Addr) (a b c : List Int) (n0 : Nat) (w : World) (t : Value) : Prop :=
 (bothE a b = 0 ∧ ∃ v, t = .tuple #[v, .nilIface] ∧ IRow n0 w v c) ∨ (bothE a b ≠ 0 ∧ t = .tuple #[.slice none 0 0, evOf ad (bothE a b)])
theorem errv_no {ad : Nat → Addr} {c : Nat} (h : c = 0) : errv (evOf ad) c = .nilIface := by unfold errv; rw [if_pos h]
theorem errv_yes {ad : Nat → Addr} {c : Nat} (h : c ≠ 0) : errv (evOf ad) c = .iface 273 (.pointer (some (ad c))) := by unfold errv evOf; rw [if_neg h]
set_option maxRecDepth 100000 in
set_option maxHeartbeats 1600000 in
theorem setunion_any (va vb : Value) (a b : List Int) (w : World) (n0 : Nat) (ad : Nat → Addr) (hE : ErrS w ad) (ha : IntsR w n0 va a) (hb : IntsR w n0 vb b) (hla : a.length ≤ 10000) (hlb : b.length ≤ 10000) :
  Calls Tryz.prog 130 #[va, vb] w fun e w' => ∃ t, e = .returned t ∧ TwoR ad a b (sset (a ++ b)) w.heap.size w' t ∧ Ext w w' := by
 have HK := hid (setboth_any va vb a b w n0 ad hE ha hb)
 have HA := hid ha
 have HB := hid hb
 have HE := hid hE
 obtain ⟨aa, ca, rfl, _⟩ := ha
 obtain ⟨ab, cb, rfl, _⟩ := hb
 clear hE
 by_cases h0 : bothE a b = 0
 ·rw [errv_no h0] at HK
  have H0 := hid h0
  obtain ⟨ha0, hb0⟩ := bothE_zero.1 h0
  have Hin : Hid (InR (a ++ b)) := hid ((chkE_zero.1 ha0).1.app (chkE_zero.1 hb0).1)
  clear h0 ha0 hb0
  go_enter Tryz.func130, Tryz.ntmps130
  go_wp2_with fail
  refine HK.out.mono ?_
  intro e w1 hx
  obtain ⟨rfl, hx1⟩ := hx
  obtain ⟨W, hW⟩ : ∃ W, W = w1.alloc (.cells #[.slice aa a.length ca, .slice ab b.length cb] 43) := ⟨_, rfl⟩
  have hxW : Ext w W := by rw [hW]; exact hx1.alloc _
  have HxW := hid hxW
  obtain ⟨l, hl⟩ : ∃ l, l = a ++ b := ⟨_, rfl⟩
  have hll : l.length ≤ 20000 := by rw [hl, List.length_append]; omega
  have Hl := hid hl
  have HC := hid (iconcat_any w1.heap.size _ _ a b W n0 (by rw [hW]; exact Blk.new _ _ _) (HA.out.old (hxW.old n0)) (HB.out.old (hxW.old n0)) hla hlb)
  have HW := hid hW
  rw [← hl] at HC Hin
  clear HK hx1 hxW hW hl
  go_wp2_with fail
  rw [← HW.out]
  refine HC.out.mono ?_
  intro e w2 hx
  obtain ⟨v2, rfl, hx2, hr2⟩ := hx
  obtain ⟨a2, p2, rfl⟩ := hr2.form
  have HO := hid (setof_any _ l w2 w2.heap.size ad (HE.out.ext (HxW.out.trans hx2)) (IntsR.own hr2 (Nat.le_refl _)) (by omega))
  have Hx2 := hid (HxW.out.trans hx2)
  clear HC hx2 hr2
  go_wp2_with fail
  refine HO.out.mono ?_
  intro e w3 hx
  obtain ⟨t3, rfl, ho, hx3⟩ := hx
  obtain ⟨v3, rfl, hr3⟩ : ∃ v, t3 = .tuple #[v, .nilIface] ∧ IRow w2.heap.size w3 v (sset l) := by
   rcases ho with ⟨_, h⟩ | ⟨h, _⟩
   ·exact h
   ·exact absurd Hin.out h
  obtain ⟨a3, p3, rfl⟩ := hr3.form
  have Hr3 := hid (hr3.base Hx2.out.size)
  have Hx3 := hid (Hx2.out.trans hx3)
  clear HO ho hr3 hx3
  go_wp2
  go_ret2
  exact ⟨_, rfl, .inl ⟨H0.out, _, rfl, by rw [← Hl.out]; exact Hr3.out⟩, Hx3.out⟩
 ·rw [errv_yes h0] at HK
  have H0 := hid h0
  clear h0
  go_enter Tryz.func130, Tryz.ntmps130
  go_wp2_with fail
  refine HK.out.mono ?_
  intro e w1 hx
  obtain ⟨rfl, hx1⟩ := hx
  have Hx1 := hid hx1
  clear HK hx1
  go_wp2
  go_ret2
  exact ⟨_, rfl, .inr ⟨H0.out, rfl⟩, Hx1.out⟩
def PP.setE (P : PP) (l : List Int) : Nat := if chkE l = 0 then (if 0 < l.length ∧ (P.objectsV : Int) ≤ l.getD (l.length - 1) 0 then 2 else 0) else chkE l
def SetsIs (ad : Nat → Addr) (P : PP) (has : List (List Int)) (w : World) (v : Value) : Prop :=
 (has.length ≠ P.nodesV ∧ v = evOf ad 3) ∨ (has.length = P.nodesV ∧ (∀ l ∈ has, P.setE l = 0) ∧ v = .nilIface) ∨
 (has.length = P.nodesV ∧ ∃ (i : Nat) (l : List Int) (b : Nat), has[i]? = some l ∧ P.setE l ≠ 0 ∧ (∀ j m, j < i → has[j]? = some m → P.setE m = 0) ∧ v = .iface 126 (.pointer (some ⟨b, 0, none⟩)) ∧ Blk w b #[.int .i64 (i : Int), evOf ad (P.setE l)] 128)
theorem setE_zero {P : PP} {l : List Int} (h : P.setE l = 0) : chkE l = 0 ∧ ∀ x ∈ l, x < P.objectsV := by
 unfold PP.setE at h
 by_cases h0 : chkE l = 0
 ·rw [if_pos h0] at h
  refine ⟨h0, fun x hx => ?_⟩
  obtain ⟨i, hi, rfl⟩ := List.getElem_of_mem hx
  have hl : 0 < l.length := by omega
  by_cases hb : 0 < l.length ∧ (P.objectsV : Int) ≤ l.getD (l.length - 1) 0
  ·rw [if_pos hb] at h; cases h
  ·have hlast : l.getD (l.length - 1) 0 < (P.objectsV : Int) := by omega
   rw [List.getD_eq_getElem?_getD, List.getElem?_eq_getElem (by omega)] at hlast
   have hs := (chkE_zero.1 h0).2
   rcases Nat.lt_or_ge i (l.length - 1) with g | g
   ·have := List.pairwise_iff_getElem.1 hs i (l.length - 1) hi (by omega) g
    have h2 : (some (l[l.length - 1]'(by omega))).getD 0 = l[l.length - 1]'(by omega) := rfl
    rw [h2] at hlast
    omega
   ·have e : i = l.length - 1 := by omega
    subst e
    exact hlast
 ·rw [if_neg h0] at h; exact absurd h h0
theorem SetsOk.of {P : PP} {has : List (List Int)} (h1 : has.length = P.nodesV) (h2 : ∀ l ∈ has, P.setE l = 0) : SetsOk P has := ⟨h1, fun l hl => setE_zero (h2 l hl)⟩
set_option maxRecDepth 100000 in
set_option maxHeartbeats 3200000 in
theorem conssets_any (a1 a2 a3 : Option Addr) (c1 c2 c3 : Nat) (P : PP) (hv : Value) (has : List (List Int)) (w : World) (n0 : Nat) (ad : Nat → Addr) (h : PW w n0 ad a1 a2 a3 c1 c2 c3 P) (hS : ErrS w ad) (hh : SetsR w n0 hv has) :
  Calls Tryz.prog 56 #[pval a1 a2 a3 c1 c2 c3 P, hv] w fun e w' => ∃ v, e = .returned v ∧ SetsIs ad P has w' v ∧ Ext w w' := by
 obtain ⟨ah, ch, rfl⟩ := hh.form
 have hhl := hh.len
 have HO := fun w1 (x : Ext w w1) => hid (progobjects_any a1 a2 a3 c1 c2 c3 P w1 n0 ad (h.ext x))
 have g3 := h.errs.at3
 have HH := hid hh
 have HS := hid hS
 obtain ⟨W, hW⟩ : ∃ W, W = w.alloc (.cells (pcells a1 a2 a3 c1 c2 c3 P) 26) := ⟨_, rfl⟩
 have HX : Hid (Ext w W) := hid (by rw [hW]; exact (Ext.refl _).alloc _)
 have HBx : Hid (Blk W w.heap.size (pcells a1 a2 a3 c1 c2 c3 P) 26) := hid (by rw [hW]; exact Blk.new _ _ _)
 have HWe : Hid (W = w.alloc (.cells #[.slice a1 P.vars.length c1, .slice a2 P.funs.length c2, .slice a3 P.stmts.length c3] 26)) := hid (by rw [hW]; rfl)
 have HPW := hid h
 have HK := fun w1 (x : Ext w w1) => hid (check_well (h.errs.ext x) (h.prog.ext x) h.z1 h.z2 h.well)
 have HN := fun w1 (x : Ext w w1) => hid (prognodes_any a1 a2 a3 c1 c2 c3 P w1 n0 ad (h.errs.ext x) (h.prog.ext x) h.z1 h.z2 h.well)
 obtain ⟨hf1, hf2, hf3⟩ := h.well.few
 have hnl := P.nodesV_le2
 have d0 := HBx.out.av 0 rfl
 have d1 := HBx.out.av 1 rfl
 have d2 := HBx.out.av 2 rfl
 simp only [pcells, qA0, qA1, qA2] at d0 d1 d2
 unfold pval at HK HN ⊢
 clear hW h
 have G3 := hid g3
 unfold pval at HO
 obtain ⟨N, hN⟩ : ∃ N, N = P.nodesV := ⟨_, rfl⟩
 obtain ⟨M, hM⟩ : ∃ M, M = P.objectsV := ⟨_, rfl⟩
 have hMl : M ≤ 1000 := by rw [hM]; unfold PP.objectsV; omega
 have HNe := hid hN
 have HMe := hid hM
 rw [← hN] at hnl HN
 rw [← hM] at HO
 clear hN hM g3 hh hS HK
 go_enter Tryz.func56, Tryz.ntmps56
 go_wp2_with fail
 rw [← HWe.out]
 have HN1 := HN W HX.out
 refine HN1.out.mono ?_
 intro e w1 hx
 obtain ⟨rfl, hx1⟩ := hx
 have Hx1 := hid (HX.out.trans hx1)
 have HBx1 := hid (HBx.out.ext hx1)
 clear HN HN1 hx1 d0 d1 d2
 by_cases hlen : has.length = N
 ·have Hlen : Hid (has.length = P.nodesV) := hid (by rw [← HNe.out]; exact hlen)
  have e0 : ((has.length : Int) != (N : Int)) = false := by rw [hlen]; simp
  clear hlen
  have d0 := HBx1.out.av 0 rfl
  have d1 := HBx1.out.av 1 rfl
  have d2 := HBx1.out.av 2 rfl
  simp only [pcells, qA0, qA1, qA2] at d0 d1 d2
  have HO1 := HO w1 Hx1.out
  go_wp2_with fail
  refine HO1.out.mono ?_
  intro e w2 hx
  obtain ⟨rfl, hx2⟩ := hx
  have Hx2 := hid (Hx1.out.trans hx2)
  clear HO HO1 hx2 d0 d1 d2 e0
  go_wp2
  go_loopw [19] (fun t19 wr => ∃ k : Nat, t19 = .int .i64 (k : Int) ∧ k ≤ has.length ∧ (∀ j m, j < k → has[j]? = some m → P.setE m = 0) ∧ Ext w wr) (fun t19 _ => has.length - (intOf t19).toNat)
  case atStart => exact ⟨0, rfl, Nat.zero_le _, fun j m h => by omega, Hx2.out⟩
  case round =>
   obtain ⟨k, rfl, hk, hp, hx⟩ := hrel
   have Hp := hid hp
   have Hx := hid hx
   clear hp hx
   by_cases hlt : k < has.length
   ·obtain ⟨y, l, bl, cl, rfl, hl, hc, hI⟩ := (HH.out.old (Hx.out.old n0)).at hlt
    have HCk := hid (setcheck_any (.slice bl l.length cl) l wr n0 ad (HS.out.ext Hx.out) hI)
    have Hl := hid hl
    have HI := hid hI
    have hll := hI.len
    clear Hx2 hl hI
    by_cases h0 : chkE l = 0
    ·rw [errv_no h0] at HCk
     have H0 := hid h0
     clear h0
     go_wp2_with fail
     refine HCk.out.mono ?_
     intro e w3 hx
     obtain ⟨rfl, hx3⟩ := hx
     have Hx2 := hid (Hx.out.trans hx3)
     have Hx3 := hid hx3
     clear HCk hx3 hc
     by_cases hl0 : 0 < l.length
     ·obtain ⟨yl, q, hyl, hqm, hcq⟩ := (HI.out.old (Hx3.out.old n0)).at (show l.length - 1 < l.length by omega)
      subst hyl
      have Hq : Hid (l.getD (l.length - 1) 0 = q) := hid (by rw [List.getD_eq_getElem?_getD, hqm]; rfl)
      have G2 := HS.out.ext Hx2.out
      have g2 := G2.at2
      unfold evOf at g2
      clear hqm G2
      by_cases hqM : (M : Int) ≤ q
      ·have HE : Hid (P.setE l = 2) := hid (by unfold PP.setE; rw [if_pos H0.out, if_pos ⟨hl0, by rw [Hq.out, ← HMe.out]; exact hqM⟩])
       have hbad : P.setE l ≠ 0 := by rw [HE.out]; exact (by decide)
       go_wp2
       go_ret
       refine ⟨_, rfl, .inr (.inr ⟨Hlen.out, k, l, _, Hl.out, hbad, Hp.out, rfl, ?_⟩), Hx2.out.alloc _⟩
       rw [HE.out]
       exact Blk.new _ _ _
      ·have HE : Hid (P.setE l = 0) := hid (by unfold PP.setE; rw [if_pos H0.out, if_neg (fun h => hqM (by have := h.2; rw [Hq.out, ← HMe.out] at this; exact this))])
       clear g2
       go_wp2
       go_roundw
       case rel =>
        refine ⟨k + 1, by go_num, by omega, fun j m hj hm => ?_, Hx2.out⟩
        by_cases hjk : j = k
        ·subst hjk
         obtain rfl := Option.some.inj (Hl.out.symm.trans hm)
         exact HE.out
        ·exact Hp.out j m (by omega) hm
       case measure => simp [intOf]; omega
     ·have HE : Hid (P.setE l = 0) := hid (by unfold PP.setE; rw [if_pos H0.out, if_neg (by omega)])
      go_wp2
      go_roundw
      case rel =>
       refine ⟨k + 1, by go_num, by omega, fun j m hj hm => ?_, Hx2.out⟩
       by_cases hjk : j = k
       ·subst hjk
        obtain rfl := Option.some.inj (Hl.out.symm.trans hm)
        exact HE.out
       ·exact Hp.out j m (by omega) hm
      case measure => simp [intOf]; omega
    ·have HE : Hid (P.setE l = chkE l) := hid (by unfold PP.setE; rw [if_neg h0])
     rw [errv_yes h0] at HCk
     have H0 := hid h0
     clear h0
     go_wp2_with fail
     refine HCk.out.mono ?_
     intro e w3 hx
     obtain ⟨rfl, hx3⟩ := hx
     have Hx2 := hid (Hx.out.trans hx3)
     clear HCk hx3 hc
     have hbad : P.setE l ≠ 0 := by rw [HE.out]; exact H0.out
     go_wp2
     go_ret
     refine ⟨_, rfl, .inr (.inr ⟨Hlen.out, k, l, _, Hl.out, hbad, Hp.out, rfl, ?_⟩), Hx2.out.alloc _⟩
     rw [HE.out]
     exact Blk.new _ _ _
   ·obtain rfl : k = has.length := by omega
    have Hall : Hid (∀ l ∈ has, P.setE l = 0) := hid fun l hl => by
     obtain ⟨j, hj, e⟩ := List.mem_iff_getElem.1 hl
     exact Hp.out j l hj (by rw [List.getElem?_eq_getElem hj, e])
    go_wp2
    go_ret
    exact ⟨_, rfl, .inr (.inl ⟨Hlen.out, Hall.out, rfl⟩), Hx.out⟩
 ·have Hlen : Hid (has.length ≠ P.nodesV) := hid (by rw [← HNe.out]; exact hlen)
  have e0 : ((has.length : Int) != (N : Int)) = true := bne_iff_ne.2 (by omega)
  have g3 := Hx1.out.cellx G3.out
  unfold evOf at g3
  clear hlen HO
  go_wp2
  go_ret
  exact ⟨_, rfl, .inl ⟨Hlen.out, rfl⟩, Hx1.out⟩
structure ClosedP (P : PP) (has : List (List Int)) : Prop where
 base : ∀ k, k < P.stmts.length → (P.ruleV k (P.stAt k)).kind.toList = bBase.toList → (P.ruleV k (P.stAt k)).b ∈ has.getD (P.ruleV k (P.stAt k)).a.toNat []
 edge : ∀ e ∈ P.edges0 has, e.1 ≠ e.2 → ∀ n ∈ has.getD e.1.toNat [], n ∈ has.getD e.2.toNat []
def PP.turned (P : PP) : PP := ⟨P.vars, P.funs, P.stmts.reverse⟩
def PP.noNew (P : PP) : Prop := ∀ x ∈ P.stmts, x.isK kNew = false
def PP.sOk (P : PP) (has : List (List Int)) (x : PS) : Prop := (P.ruleV 0 x).kind.toList = bBase.toList → (P.ruleV 0 x).b ∈ has.getD (P.ruleV 0 x).a.toNat []
def Sub (a b : List (List Int)) : Prop := ∀ i x, x ∈ a.getD i [] → x ∈ b.getD i []
theorem nodesOf_mono {P : PP} {a b : List Int} (h : ∀ x, x ∈ a → x ∈ b) : ∀ x, x ∈ P.nodesOf a → x ∈ P.nodesOf b := fun x hx => by
 unfold PP.nodesOf at hx ⊢
 obtain ⟨h1, h2⟩ := List.mem_filter.1 hx
 exact List.mem_filter.2 ⟨h x h1, h2⟩
theorem redges_mono {P : PP} {a b : List (List Int)} (h : Sub a b) (r : RV) : ∀ e, e ∈ P.redges r a → e ∈ P.redges r b := by
 intro e
 unfold PP.redges
 cases r.kind.toList == kCopy
 ·cases r.kind.toList == kLoad
  ·cases r.kind.toList == kStore
   ·cases r.kind.toList == kCall
    ·exact id
    ·simp only [cond_true, cond_false]
     intro he
     obtain ⟨o, ho, hm⟩ := List.mem_flatMap.1 he
     exact List.mem_flatMap.2 ⟨o, h _ _ ho, hm⟩
   ·simp only [cond_true, cond_false]
    intro he
    obtain ⟨o, ho, hm⟩ := List.mem_map.1 he
    exact List.mem_map.2 ⟨o, nodesOf_mono (h _) _ ho, hm⟩
  ·simp only [cond_true, cond_false]
   intro he
   obtain ⟨o, ho, hm⟩ := List.mem_map.1 he
   exact List.mem_map.2 ⟨o, nodesOf_mono (h _) _ ho, hm⟩
 ·exact id
theorem edges0_mono {P : PP} {a b : List (List Int)} (h : Sub a b) : ∀ e, e ∈ P.edges0 a → e ∈ P.edges0 b := by
 intro e he
 unfold PP.edges0 at he ⊢
 obtain ⟨r, hr, hm⟩ := List.mem_flatMap.1 he
 exact List.mem_flatMap.2 ⟨r, hr, redges_mono h r e hm⟩
def plusAt (has : List (List Int)) (n : Nat) (o : Int) : List (List Int) := has.set n (sset (has.getD n [] ++ [o]))
theorem srtP_idx {b : List (Int × Int)} (h : SrtP b) {i j : Nat} {x y : Int × Int} (hi : b[i]? = some x) (hj : b[j]? = some y) (hlt : lexLt x y) : i < j := by
 have hil : i < b.length := by
  rcases Nat.lt_or_ge i b.length with g | g
  ·exact g
  ·rw [List.getElem?_eq_none g] at hi; cases hi
 have hjl : j < b.length := by
  rcases Nat.lt_or_ge j b.length with g | g
  ·exact g
  ·rw [List.getElem?_eq_none g] at hj; cases hj
 rw [List.getElem?_eq_getElem hil] at hi
 rw [List.getElem?_eq_getElem hjl] at hj
 obtain rfl := Option.some.inj hi
 obtain rfl := Option.some.inj hj
 rcases Nat.lt_trichotomy i j with g | g | g
 ·exact g
 ·subst g; exact absurd hlt (lexLt.irr _)
 ·exact absurd (hlt.trans (List.pairwise_iff_getElem.1 h j i hjl hil g)) (lexLt.irr _)
theorem srtP_next {a : List (Int × Int)} (h : SrtP a) {i : Nat} {x y : Int × Int} (hi : a[i]? = some x) (hj : a[i + 1]? = some y) : lexLt x y := by
 have hjl : i + 1 < a.length := by
  rcases Nat.lt_or_ge (i + 1) a.length with g | g
  ·exact g
  ·rw [List.getElem?_eq_none g] at hj; cases hj
 rw [List.getElem?_eq_getElem (by omega)] at hi
 rw [List.getElem?_eq_getElem hjl] at hj
 obtain rfl := Option.some.inj hi
 obtain rfl := Option.some.inj hj
 exact List.pairwise_iff_getElem.1 h i (i + 1) (by omega) hjl (by omega)
def IdxG {α : Type} (p : α → Bool) (l : List α) (r : Int) : Prop := (r = -1 ∧ ∀ x ∈ l, p x = false) ∨ ∃ (i : Nat) (x : α), r = (i : Int) ∧ i < l.length ∧ l[i]? = some x ∧ p x = true ∧ ∀ j y, j < i → l[j]? = some y → p y = false
def eVal (e : Int × Int) : Value := .agg #[.int .i64 e.1, .int .i64 e.2]
theorem own_e {w : World} {base g n cap : Nat} {t : TypeId} {R : List (Int × Int)} (h : w.ownsRow base t 2 (.slice (some ⟨g, 0, none⟩) n cap) n (R.flatMap eCells)) {i : Nat} {x : Int × Int} (hx : R[i]? = some x) :
  w.cell? ⟨g, i * 2, none⟩ = some (.int .i64 x.1) ∧ w.cell? ⟨g, i * 2 + 1, none⟩ = some (.int .i64 x.2) := by
 have c : ∀ j v, (eCells x)[j]? = some v → j < 2 → w.cell? ⟨g, i * 2 + j, none⟩ = some v := fun j v hv hj => own_get h _ ((fm_get eCells 2 eCells_len R i j x hx hj).trans hv)
 exact ⟨c 0 _ rfl (by omega), c 1 _ rfl (by omega)⟩
theorem eset2 : ∀ (R : List (Int × Int)) (i : Nat) (y : Int × Int), i < R.length → ((R.flatMap eCells).set (i * 2) (.int .i64 y.1)).set (i * 2 + 1) (.int .i64 y.2) = (R.set i y).flatMap eCells
 | [], i, y, h => by simp at h
 | x :: l, 0, y, h => by simp [eCells]
 | x :: l, i + 1, y, h => by
  have ih := eset2 l i y (by simpa using h)
  rw [qS2, List.flatMap_cons, List.flatMap_cons, ← ih]
  rw [show (i + 1) * 2 = i * 2 + 2 by omega, show i * 2 + 2 + 1 = i * 2 + 1 + 2 by omega]
  simp only [eCells, List.cons_append, List.nil_append, qS2]
def storeE (w : World) (g i : Nat) (y : Int × Int) : World := (w.setCell ⟨g, i, none⟩ (.int .i64 y.1)).setCell ⟨g, i + 1, none⟩ (.int .i64 y.2)
theorem storeE_keep (w : World) (g i : Nat) (y : Int × Int) : Keep (fun b => b = g) w (storeE w g i y) :=
 have k : ∀ (u : World) j v, Keep (fun b => b = g) w u → Keep (fun b => b = g) w (u.setCell ⟨g, j, none⟩ v) := fun _ _ v h => h.set rfl v
 k _ _ _ (k _ _ _ (Keep.refl _ w))
theorem own_putE {w : World} {base g n cap : Nat} {e : TypeId} {R : List (Int × Int)} (h : w.ownsRow base e 2 (.slice (some ⟨g, 0, none⟩) n cap) n (R.flatMap eCells)) (i : Nat) (hi : i < R.length) (y : Int × Int) : (storeE w g (i * 2) y).ownsRow base e 2 (.slice (some ⟨g, 0, none⟩) n cap) n ((R.set i y).flatMap eCells) := by
 have hl : (R.flatMap eCells).length = R.length * 2 := fm_len eCells 2 eCells_len R
 rw [← eset2 R i y hi]
 unfold storeE
 exact own_set (own_set h _ (by omega) _) _ (by simp only [List.length_set]; omega) _
set_option maxRecDepth 100000 in
set_option maxHeartbeats 1600000 in
theorem eidx_same  (p : Int × Int → Bool) (lv : Value) (l : List (Int × Int)) (w : World) (n0 : Nat) (h : ERow n0 w lv l) (hfew : l.length ≤ 100000) (hF : ∀ n w1, n ∈ l → Ext w w1 → Calls Tryz.prog 59 (#[eVal n] ++ #[]) w1 fun e w' => e = .returned (.bool (p n)) ∧ Ext w1 w') :
  Calls Tryz.prog 105 #[lv, .func (.func 59) #[] #[]] w fun e w' => ∃ r : Int, e = .returned (.int .i64 r) ∧ IdxG p l r ∧ Ext w w' := by
 have HF := hid hF
 unfold ERow at h
 obtain ⟨a, c, rfl⟩ := row_form h
 have Hr := hid h
 clear hF h
 go_enter Tryz.func105, Tryz.ntmps105
 go_wp2
 go_loopw [8] (fun t8 wr => ∃ k : Nat, t8 = .int .i64 (k : Int) ∧ k ≤ l.length ∧ (∀ j t, j < k → l[j]? = some t → p t = false) ∧ Ext w wr) (fun t8 _ => l.length - (intOf t8).toNat)
 case atStart => exact ⟨0, rfl, Nat.zero_le _, fun j t h => by omega, Ext.refl _⟩
 case round =>
  obtain ⟨k, rfl, hk, hne, hx⟩ := hrel
  have Hne := hid hne
  have Hx := hid hx
  clear hne hx
  by_cases hlt : k < l.length
  ·obtain ⟨g, cp, he⟩ := own_some Hr.out (by omega)
   simp only [Value.slice.injEq, true_and] at he
   obtain ⟨rfl, rfl⟩ := he
   obtain ⟨t, ht⟩ : ∃ t, l[k]? = some t := ⟨_, List.getElem?_eq_getElem hlt⟩
   obtain ⟨q0, q1⟩ := own_e (own_ext Hr.out Hx.out) ht
   have HN := hid (HF.out t wr (List.mem_of_getElem? ht) Hx.out)
   unfold eVal at HN
   have Hxk := hid ht
   clear ht
   go_wp2_with fail
   refine HN.out.mono ?_
   intro e w1 hx1
   obtain ⟨rfl, hx1⟩ := hx1
   have Hx1 := hid (Hx.out.trans hx1)
   clear HN hx1 Hx q0 q1
   cases he : p t with
   | true =>
    have Hin := hid (show IdxG p l (k : Int) from .inr ⟨k, t, rfl, hlt, Hxk.out, he, Hne.out⟩)
    go_wp2
    go_ret
    exact ⟨(k : Int), rfl, Hin.out, Hx1.out⟩
   | false =>
    have Hf := hid he
    clear he
    go_wp2
    go_roundw
    case rel =>
     refine ⟨k + 1, by go_num, by omega, fun j u hj hu => ?_, Hx1.out⟩
     by_cases hjk : j = k
     ·subst hjk
      obtain rfl := Option.some.inj (Hxk.out.symm.trans hu)
      exact Hf.out
     ·exact Hne.out j u (by omega) hu
    case measure => simp [intOf]; omega
  ·obtain rfl : k = l.length := by omega
   have Hnot := hid (show IdxG p l (-1) from .inl ⟨rfl, fun x hx => by
    obtain ⟨j, hj, e2⟩ := List.mem_iff_getElem.1 hx
    exact Hne.out j x hj (by rw [List.getElem?_eq_getElem hj, e2])⟩)
   go_wp2
   go_ret
   exact ⟨(-1 : Int), rfl, Hnot.out, Hx.out⟩
theorem consedgesc1_any (e : Int × Int) (w : World) : Calls Tryz.prog 59 (#[eVal e] ++ #[]) w fun r w' => r = .returned (.bool (decide (e.1 = e.2))) ∧ Ext w w' := by
 obtain ⟨a, b⟩ := e
 unfold eVal
 show Calls Tryz.prog 59 #[.agg #[.int .i64 a, .int .i64 b]] w _
 by_cases h : a = b
 ·subst h
  go_enter Tryz.func59, Tryz.ntmps59
  go_wp2
  go_ret
  exact ⟨by simp, (Ext.refl w).alloc _⟩
 ·have h1 : (a == b) = false := beq_eq_false_iff_ne.2 h
  go_enter Tryz.func59, Tryz.ntmps59
  go_wp2
  go_ret
  exact ⟨by simp [h], (Ext.refl w).alloc _⟩
theorem filter_nextG {α : Type} {p : α → Bool} {l : List α} {j : Nat} {x : α} (hx : l[j]? = some x) : (l.take (j + 1)).filter p = (l.take j).filter p ++ (if p x = true then [x] else []) := by
 rw [List.take_add_one, hx]
 simp only [Option.toList, List.filter_append, List.filter_cons, List.filter_nil]
set_option maxRecDepth 100000 in
set_option maxHeartbeats 3200000 in
theorem edel_same  (p : Int × Int → Bool) (lv : Value) (l : List (Int × Int)) (w0 w : World) (n0 : Nat) (hx0 : Ext w0 w) (hb0 : w0.heap.size ≤ n0) (hr : ERow n0 w lv l) (hF : ∀ n w1, Ext w0 w1 → Calls Tryz.prog 59 (#[eVal n] ++ #[]) w1 fun e w' => e = .returned (.bool (p n)) ∧ Ext w1 w') (hfew : l.length ≤ 100000) :
  Calls Tryz.prog 58 #[lv, .func (.func 59) #[] #[]] w fun e w' => ∃ lv', e = .returned lv' ∧ ERow n0 w' lv' (l.filter fun x => !p x) ∧ Ext w0 w' := by
 have HI := hid (eidx_same  p lv l w n0 hr hfew (fun n w1 _ x => hF n w1 (hx0.trans x)))
 have HF := hid hF
 unfold ERow at hr
 obtain ⟨a, c, rfl⟩ := row_form hr
 have Hr := hid hr
 have Hx0 := hid hx0
 have Hb0 := hid hb0
 clear hr hF hx0 hb0
 go_enter Tryz.func58, Tryz.ntmps58
 go_wp2_with fail
 refine HI.out.mono ?_
 intro e w1 hx
 obtain ⟨r, rfl, hidx, hx1⟩ := hx
 have Hx1 := hid (Hx0.out.trans hx1)
 have Hr1 := hid (own_ext Hr.out hx1)
 clear HI hx1
 rcases hidx with ⟨rfl, hall⟩ | ⟨i0, x0, rfl, hi0, hx0, hd0, hlow⟩
 ·have hf : Hid (l.filter (fun x => !p x) = l) := hid (List.filter_eq_self.2 fun x hx => by rw [hall x hx]; rfl)
  clear hall
  go_wp2
  go_ret
  exact ⟨_, rfl, by rw [hf.out]; exact Hr1.out, Hx1.out⟩
 ·obtain ⟨gb, cp, he⟩ := own_some Hr1.out (by omega)
  simp only [Value.slice.injEq, true_and] at he
  obtain ⟨rfl, rfl⟩ := he
  obtain ⟨_, _, hbase, hcap, hmx, _⟩ := own_blk Hr1.out
  have hstart : l.take i0 = (l.take (i0 + 1)).filter fun x => !p x := by
   rw [filter_nextG hx0, hd0, List.filter_eq_self.2 fun x hx => ?_]
   ·simp
   ·obtain ⟨j, hj, e⟩ := List.mem_iff_getElem.1 hx
    rw [List.length_take] at hj
    rw [List.getElem_take] at e
    rw [hlow j x (by omega) (by rw [List.getElem?_eq_getElem (by omega), e])]; rfl
  have Hstart := hid hstart
  have Hbase := hid hbase
  have hmx' : (c : Int) ≤ 9223372036854775807 := by unfold maxLen at hmx; omega
  have hcl : (l.length : Int) ≤ (c : Int) := by omega
  have hi1 : ((i0 : Int) == -1) = false := beq_eq_false_iff_ne.2 (by omega)
  clear hstart hx0 hd0 hlow hbase hcap hmx
  go_wp2
  clear hi1
  go_loopw [5, 6] (fun t5 t6 wr => ∃ (i j : Nat) (R : List (Int × Int)), t5 = .int .i64 (i : Int) ∧ t6 = .int .i64 (j : Int) ∧ i < j ∧ j ≤ l.length ∧ R.length = l.length ∧ R.take i = (l.take j).filter (fun x => !p x) ∧ R.drop j = l.drop j ∧
   wr.ownsRow n0 62 2 (.slice (some ⟨gb, 0, none⟩) l.length c) l.length (R.flatMap eCells) ∧ Ext w0 wr) (fun _ t6 _ => l.length - (intOf t6).toNat)
  case atStart => exact ⟨i0, i0 + 1, l, rfl, rfl, by omega, by omega, rfl, Hstart.out, rfl, Hr1.out, Hx1.out⟩
  case round =>
   obtain ⟨i, j, R, rfl, rfl, hij, hj, hRl, hT, hD, hrow, hx⟩ := hrel
   have HRl := hid hRl
   have HT := hid hT
   have HD := hid hD
   have Hrow := hid hrow
   have Hx := hid hx
   clear hRl hT hD Hstart hrow hx
   by_cases hlt : j < l.length
   ·have hxj : R[j]? = some (l[j]'hlt) := by
     have := congrArg (fun l => l[0]?) HD.out
     simpa [List.getElem?_drop, List.getElem?_eq_getElem hlt] using this
    obtain ⟨x, hxd⟩ : ∃ x, x = l[j]'hlt := ⟨_, rfl⟩
    rw [← hxd] at hxj
    have hxk : l[j]? = some x := by rw [hxd]; exact List.getElem?_eq_getElem hlt
    obtain ⟨c0, c1⟩ := own_e Hrow.out hxj
    have HN := hid (HF.out x (wr.alloc (.cells #[.int .i64 x.1, .int .i64 x.2] 62)) (Hx.out.alloc _))
    unfold eVal at HN
    have hW := hid (Blk.new wr #[.int .i64 x.1, .int .i64 x.2] 62)
    have HWx := hid ((Ext.refl wr).alloc (.cells #[.int .i64 x.1, .int .i64 x.2] 62))
    have Hxk := hid hxk
    have hji : (i : Int) < (l.length : Int) := by omega
    clear hxd hxj hxk
    go_wp2_with fail
    refine HN.out.mono ?_
    intro e w2 hx2
    obtain ⟨rfl, hx2⟩ := hx2
    have Hrow2 := hid (own_ext Hrow.out (HWx.out.trans hx2))
    have Hx2 := hid (Hx.out.trans (HWx.out.trans hx2))
    have hB2 := hid (hW.out.ext hx2)
    clear HN hx2 c0 c1
    cases hf : p x with
    | true =>
     have Hf : Hid ((fun x => !p x) x = false) := hid (by show (!p x) = false; rw [hf]; rfl)
     clear hf
     go_wp2
     go_roundw
     case rel => exact ⟨i, j + 1, R, rfl, by go_num, by omega, by omega, HRl.out, by rw [filter_nextG Hxk.out, if_neg (by rw [Hf.out]; simp), HT.out]; simp, by rw [← List.drop_drop, HD.out, List.drop_drop], Hrow2.out, Hx2.out⟩
     case measure => simp [intOf]; omega
    | false =>
     have Hf : Hid ((fun x => !p x) x = true) := hid (by show (!p x) = true; rw [hf]; rfl)
     have hiR : i < R.length := by have := HRl.out; omega
     obtain ⟨y0, y1⟩ := own_e Hrow2.out (List.getElem?_eq_getElem hiR)
     have hfr := own_free Hrow2.out
     have v0 := hB2.out.av 0 rfl
     have v1 := hB2.out.av 1 rfl
     simp only [qA0, qA1, qA2] at v0 v1
     have hput := hid (own_putE Hrow2.out i hiR x)
     have hkp2 := hid (Keep.new Hx2.out (storeE_keep w2 gb (i * 2) x) fun b e => by rw [e]; exact Nat.le_trans Hb0.out Hbase.out)
     unfold storeE at hput hkp2
     generalize hyv : R[i] = y at *
     clear hyv hf
     go_wp2
     go_roundw
     case rel => exact ⟨i + 1, j + 1, R.set i x, by go_num, by go_num, by omega, by omega, by rw [List.length_set]; exact HRl.out, by rw [take_set_succ R i x hiR, filter_nextG Hxk.out, if_pos Hf.out, HT.out], by rw [List.drop_set_of_lt (by omega), ← List.drop_drop, HD.out, List.drop_drop], hput.out, hkp2.out⟩
     case measure => simp [intOf]; omega
   ·obtain rfl : j = l.length := by omega
    have hTf : R.take i = l.filter fun x => !p x := by rw [HT.out, List.take_length]
    have hRi : (l.filter fun x => !p x).length = i := by rw [← hTf, List.length_take, HRl.out]; omega
    obtain ⟨cu, hcu, hb0, hcap, hmx, hcs, htk⟩ := own_blk Hrow.out
    obtain ⟨ti, hi, hz0, hz1, hz2⟩ := info_parts edge_info
    have hsz : i * 2 + (l.length - i) * 2 ≤ cu.size := by rw [hcs]; omega
    have hclr := fun ty => run_clear_row (P := Tryz.prog) wr 55 ty 62 ti _ Tryz.underlying55 hi hz0 (by simp [Value.cells, Value.oneCell']) gb (i * 2) (l.length - i) (c - i) (by omega) cu hcu hsz
    obtain ⟨cu', hcu'⟩ : ∃ cu', cu' = (cu.toList.take (i * 2) ++ (Builtin.zeroCells (Value.agg #[.int .i64 0, .int .i64 0]).cells (l.length - i)).toList ++ cu.toList.drop (i * 2 + (l.length - i) * (Value.agg #[.int .i64 0, .int .i64 0]).cells.size)).toArray := ⟨_, rfl⟩
    rw [← hcu'] at hclr
    have hsz' : cu'.size = c * 2 := by
     have h6 : (Value.agg #[.int .i64 0, .int .i64 0]).cells.size = 2 := rfl
     rw [hcu', List.size_toArray, List.length_append, List.length_append, List.length_take, List.length_drop, Array.length_toList, Array.length_toList, size_zeroCells, h6, hcs]
     omega
    have htk' : cu'.toList.take (i * 2) = (l.filter fun x => !p x).flatMap eCells := by
     rw [hcu', List.toList_toArray, List.append_assoc, List.take_append_of_le_length (by rw [List.length_take, Array.length_toList]; omega), List.take_take, Nat.min_self, ← hTf, ← fm_take eCells 2 eCells_len, ← htk, List.take_take, Nat.min_eq_left (by omega)]
    have hfin := hid (own_of_blk (setRow_blk hcu cu') hb0 (show i ≤ c by omega) hmx hsz' htk')
    have hkf : Hid (Ext w0 _) := hid (Keep.new Hx.out (setRow_keep wr gb cu') fun b e => by rw [e]; exact Nat.le_trans Hb0.out Hbase.out)
    have HRi := hid hRi
    have hci : (i : Int) ≤ (l.length : Int) := by omega
    clear hTf hRi hcu hb0 hcap hmx hcs htk hi hz0 hz1 hz2 hsz hcu' hsz' htk' HRl HT HD
    go_wp2
    go_ret
    exact ⟨.slice (some ⟨gb, 0, none⟩) i c, rfl, by unfold ERow; rw [HRi.out]; exact hfin.out, hkf.out⟩
set_option maxRecDepth 100000 in
set_option maxHeartbeats 1600000 in
theorem cmpor_any (g : Nat) (x y : Int) (w : World) (hB : Blk w g #[.int .i64 x, .int .i64 y] 3) :
  Calls Tryz.prog 62 #[.slice (some ⟨g, 0, none⟩) 2 2] w fun e w' => e = .returned (.int .i64 (if x = 0 then y else x)) ∧ w = w' := by
 have c0 := hB.av 0 rfl
 have c1 := hB.av 1 rfl
 simp only [qA0, qA1, qA2] at c0 c1
 clear hB
 by_cases hx : x = 0
 ·subst hx
  by_cases hy : y = 0
  ·subst hy
   go_enter Tryz.func62, Tryz.ntmps62
   go_wp2
   go_loop [8] (fun t8 => ∃ k : Nat, t8 = .int .i64 (k : Int) ∧ (k = 0 ∨ k = 1 ∨ k = 2)) (fun t8 => 2 - (intOf t8).toNat)
   case atStart => exact ⟨0, rfl, .inl rfl⟩
   case round =>
    obtain ⟨k, rfl, rfl | rfl | rfl⟩ := hrel
    ·go_wp2
     exact ⟨⟨1, rfl, .inr (.inl rfl)⟩, by simp [intOf]⟩
    ·go_wp2
     exact ⟨⟨2, rfl, .inr (.inr rfl)⟩, by simp [intOf]⟩
    ·go_wp2
     go_ret
     exact ⟨rfl, rfl⟩
  ·have hy1 : (y != 0) = true := bne_iff_ne.2 hy
   have hr : Hid ((if (0 : Int) = 0 then y else 0) = y) := hid (if_pos rfl)
   go_enter Tryz.func62, Tryz.ntmps62
   go_wp2
   go_loop [8] (fun t8 => ∃ k : Nat, t8 = .int .i64 (k : Int) ∧ (k = 0 ∨ k = 1)) (fun t8 => 2 - (intOf t8).toNat)
   case atStart => exact ⟨0, rfl, .inl rfl⟩
   case round =>
    obtain ⟨k, rfl, rfl | rfl⟩ := hrel
    ·go_wp2
     exact ⟨⟨1, rfl, .inr rfl⟩, by simp [intOf]⟩
    ·go_wp2
     go_ret
     exact ⟨rfl, rfl⟩
 ·have hx1 : (x != 0) = true := bne_iff_ne.2 hx
  have hr : Hid ((if x = 0 then y else x) = x) := hid (if_neg hx)
  go_enter Tryz.func62, Tryz.ntmps62
  go_wp2
  go_loop [8] (fun t8 => t8 = .int .i64 0) (fun _ => 0)
  case atStart => exact rfl
  case round =>
   obtain rfl := hrel
   go_wp2
   go_ret
   exact ⟨rfl, rfl⟩
def eCmp (a b : Int × Int) : Int := if a.1 - b.1 = 0 then a.2 - b.2 else a.1 - b.1
set_option maxRecDepth 100000 in
set_option maxHeartbeats 1600000 in
theorem consedgesc2_grow (a b : Int × Int) (w : World) (ha : 0 ≤ a.1 ∧ a.1 < 1000 ∧ 0 ≤ a.2 ∧ a.2 < 1000) (hb : 0 ≤ b.1 ∧ b.1 < 1000 ∧ 0 ≤ b.2 ∧ b.2 < 1000) :
  Calls Tryz.prog 61 #[eVal a, eVal b] w fun r w' => r = .returned (.int .i64 (eCmp a b)) ∧ ∃ os, w' = Sort.grow (w.drewN 0) os := by
 obtain ⟨a1, a2⟩ := a
 obtain ⟨b1, b2⟩ := b
 simp only at ha hb
 obtain ⟨h1, h2, h3, h4⟩ := ha
 obtain ⟨h5, h6, h7, h8⟩ := hb
 unfold eVal
 obtain ⟨W1, hW1⟩ : ∃ W1, W1 = w.alloc (.cells #[.int .i64 a1, .int .i64 a2] 62) := ⟨_, rfl⟩
 obtain ⟨W2, hW2⟩ : ∃ W2, W2 = W1.alloc (.cells #[.int .i64 b1, .int .i64 b2] 62) := ⟨_, rfl⟩
 obtain ⟨W3, hW3⟩ : ∃ W3, W3 = W2.alloc (.cells #[.int .i64 (a1 - b1), .int .i64 (a2 - b2)] 3) := ⟨_, rfl⟩
 have hx : ∃ os, W3 = Sort.grow (w.drewN 0) os := ⟨_, by rw [hW3, hW2, hW1, Sort.alloc_eq_grow, Sort.alloc_eq_grow, Sort.alloc_eq_grow, Sort.grow_grow, Sort.grow_grow]; rfl⟩
 have s1 : W1.heap.size = w.heap.size + 1 := by rw [hW1, heap_size_alloc]
 have s2 : W2.heap.size = w.heap.size + 1 + 1 := by rw [hW2, heap_size_alloc, s1]
 have HC := hid (cmpor_any (w.heap.size + 1 + 1) (a1 - b1) (a2 - b2) W3 (by rw [← s2, hW3]; exact Blk.new _ _ _))
 obtain ⟨d, hd⟩ : ∃ d, d = (if a1 - b1 = 0 then a2 - b2 else a1 - b1) := ⟨_, rfl⟩
 have Hd : Hid (eCmp (a1, a2) (b1, b2) = d) := hid (by rw [hd]; rfl)
 rw [← hd] at HC
 have HW : Hid (W3 = ((w.alloc (.cells #[.int .i64 a1, .int .i64 a2] 62)).alloc (.cells #[.int .i64 b1, .int .i64 b2] 62)).alloc (.cells #[.int .i64 (a1 - b1), .int .i64 (a2 - b2)] 3)) := hid (by rw [hW3, hW2, hW1])
 have Hx := hid hx
 clear hW1 hW2 hW3 s1 s2 hx hd
 go_enter Tryz.func61, Tryz.ntmps61
 go_wp2_with fail
 rw [← HW.out]
 refine HC.out.mono ?_
 intro e w2 hx
 obtain ⟨rfl, rfl⟩ := hx
 clear HC
 go_wp2
 go_ret
 exact ⟨by rw [Hd.out]; rfl, Hx.out⟩
set_option maxRecDepth 100000 in
@[go_sem high] theorem eql_edge (w : World) (a b c d : Int) :
  (binOp .eql 62 (.agg #[.int .i64 a, .int .i64 b]) (.agg #[.int .i64 c, .int .i64 d])).run Tryz.prog w = .ok (.bool (a == c && b == d)) w := by
 have hS : Tryz.prog.underlying 62 = some (.struct (Tryz.prog.fieldsOf 62)) := by kernel_rfl
 have hp : Tryz.prog.stoodInHeld 62 = false := by kernel_rfl
 rw [run_eql_struct, show (10000 : Nat) = 9999 + 1 from rfl, run_equalIn_agg w 9999 62 _ _ hS hp]
 simp only [Program.fieldsOf, Tryz.underlying62]
 go_simp
 by_cases h1 : a = c <;> by_cases h2 : b = d <;> simp [h1, h2]
set_option maxRecDepth 100000 in
@[go_sem high] theorem neq_edge (w : World) (a b c d : Int) :
  (binOp .neq 62 (.agg #[.int .i64 a, .int .i64 b]) (.agg #[.int .i64 c, .int .i64 d])).run Tryz.prog w = .ok (.bool (a != c || b != d)) w := by
 have hS : Tryz.prog.underlying 62 = some (.struct (Tryz.prog.fieldsOf 62)) := by kernel_rfl
 have hp : Tryz.prog.stoodInHeld 62 = false := by kernel_rfl
 rw [run_neq_struct, show (10000 : Nat) = 9999 + 1 from rfl, run_equalIn_agg w 9999 62 _ _ hS hp]
 simp only [Program.fieldsOf, Tryz.underlying62]
 go_simp
 by_cases h1 : a = c <;> by_cases h2 : b = d <;> simp [h1, h2]
set_option maxRecDepth 100000 in
set_option maxHeartbeats 3200000 in
theorem ecompact_any (lv : Value) (l : List (Int × Int)) (w0 w : World) (n0 : Nat) (hx0 : Ext w0 w) (hb0 : w0.heap.size ≤ n0) (hr : ERow n0 w lv l) (hfew : l.length ≤ 100000) :
  Calls Tryz.prog 63 #[lv] w fun e w' => ∃ lv', e = .returned lv' ∧ ERow n0 w' lv' (Lib.compact l) ∧ Ext w0 w' := by
 unfold ERow at hr
 obtain ⟨a, c, rfl⟩ := row_form hr
 have Hr := hid hr
 have Hx0 := hid hx0
 have Hb0 := hid hb0
 clear hr hx0 hb0
 by_cases h2 : l.length < 2
 ·have Hc : Hid (Lib.compact l = l) := hid (Lib.compact_all l fun j hj => by
   have : j = 0 := by omega
   subst this
   simp [Lib.keeps])
  go_enter Tryz.func63, Tryz.ntmps63
  go_wp2
  go_ret
  exact ⟨_, rfl, by rw [Hc.out]; exact Hr.out, Hx0.out⟩
 ·obtain ⟨g, cp, he⟩ := own_some Hr.out (by omega)
  simp only [Value.slice.injEq, true_and] at he
  obtain ⟨rfl, rfl⟩ := he
  go_enter Tryz.func63, Tryz.ntmps63
  go_wp2
  go_loopw [3] (fun t3 wr => ∃ k : Nat, t3 = .int .i64 (k : Int) ∧ 1 ≤ k ∧ k ≤ l.length ∧ (∀ j, j < k → Lib.keeps l.toArray j = true) ∧ Ext w wr) (fun t3 _ => l.length - (intOf t3).toNat)
  case atStart => exact ⟨1, rfl, Nat.le_refl _, by omega, fun j hj => (by obtain rfl : j = 0 := by omega
                                                                          simp [Lib.keeps]), Ext.refl _⟩
  case round =>
   obtain ⟨k, rfl, hk1, hk, hp, hx⟩ := hrel
   have Hp := hid hp
   have Hx := hid hx
   clear hp hx
   by_cases hlt : k < l.length
   ·obtain ⟨p, hpk⟩ : ∃ p, l[k - 1]? = some p := ⟨_, List.getElem?_eq_getElem (by omega)⟩
    obtain ⟨q, hqk⟩ : ∃ q, l[k]? = some q := ⟨_, List.getElem?_eq_getElem hlt⟩
    have Hkeep : Hid (Lib.keeps l.toArray k = decide (q ≠ p)) := hid (by
     unfold Lib.keeps
     rw [show l.toArray[k]! = q by simp [hqk], show l.toArray[k - 1]! = p by simp [hpk]]
     have : k ≠ 0 := by omega
     simp [this])
    obtain ⟨p0, p1⟩ := own_e (own_ext Hr.out Hx.out) hpk
    obtain ⟨q0, q1⟩ := own_e (own_ext Hr.out Hx.out) hqk
    have c0 : ∀ w1, Keep (fun _ => False) wr w1 → w1.cell? ⟨g, (k - 1) * 2, none⟩ = some (.int .i64 p.1) := fun w1 kk => kk.ext.cellx p0
    have c1 : ∀ w1, Keep (fun _ => False) wr w1 → w1.cell? ⟨g, (k - 1) * 2 + 1, none⟩ = some (.int .i64 p.2) := fun w1 kk => kk.ext.cellx p1
    have c2 : ∀ w1, Keep (fun _ => False) wr w1 → w1.cell? ⟨g, k * 2, none⟩ = some (.int .i64 q.1) := fun w1 kk => kk.ext.cellx q0
    have c3 : ∀ w1, Keep (fun _ => False) wr w1 → w1.cell? ⟨g, k * 2 + 1, none⟩ = some (.int .i64 q.2) := fun w1 kk => kk.ext.cellx q1
    clear hpk hqk p0 p1 q0 q1
    go_wp2
    refine wp_flowT (fun _ => False) (by kernel_rfl) (by kernel_rfl) ?_
    repeat (apply FlowT.d; (intro w1 hk; unfold does; go_simp; (try go_ints); (first | exact DetR.mk | (simp only [↓IntWalk.iteOmega, Oper.doesUpon_value]; exact DetR.mk) | (simp only [↓IntWalk.iteOmega]; go_simp; (try go_ints); exact DetR.mk))); simp only [Act.put, qS0, qS1, qS2])
    refine FlowT.fin fun w1 hx1 hk1 => ?_
    have Hx1 := hid (Hx.out.trans hx1)
    clear hx1 hk1 c0 c1 c2 c3
    by_cases hqp : q = p
    ·rw [show (q.1 == p.1 && q.2 == p.2) = true by rw [hqp]; simp]
     have Hdup : Hid (Lib.keeps l.toArray k = false) := hid (by rw [Hkeep.out, hqp]; simp)
     clear hqp Hkeep
     have Hr1 := hid (own_ext Hr.out Hx1.out)
     obtain ⟨_, _, hbase, hcap, hmx, _⟩ := own_blk Hr1.out
     have Hbase := hid hbase
     have hmx' : (c : Int) ≤ 9223372036854775807 := by unfold maxLen at hmx; omega
     have hcl : (l.length : Int) ≤ (c : Int) := by omega
     clear hbase hcap hmx
     go_wp2
     go_loopw [3, 5] (fun t3 t5 wq => ∃ (k1 j : Nat) (R : List (Int × Int)), t3 = .int .i64 (k1 : Int) ∧ t5 = .int .i64 (j : Int) ∧ 1 ≤ j ∧ k + j ≤ l.length ∧ R.length = l.length ∧ Lib.CompInv l.toArray (k + j) k1 R.toArray ∧
      wq.ownsRow n0 62 2 (.slice (some ⟨g, 0, none⟩) l.length c) l.length (R.flatMap eCells) ∧ Ext w0 wq) (fun _ t5 _ => l.length - (intOf t5).toNat)
     case atStart => exact ⟨k, 1, l, rfl, rfl, Nat.le_refl _, by omega, rfl, Lib.CompInv.start Hp.out Hdup.out, Hr1.out, Hx0.out.trans Hx1.out⟩
     case round =>
      obtain ⟨k1, j, R, rfl, rfl, hj1, hj, hRl, hinv, hrow, hxq⟩ := hrel
      have HRl := hid hRl
      have Hinv := hid hinv
      have Hrow := hid hrow
      have Hxq := hid hxq
      clear hRl hinv hrow hxq
      by_cases hlt2 : k + j < l.length
      ·obtain ⟨p2, hpk⟩ : ∃ p2, l[k + j - 1]? = some p2 := ⟨_, List.getElem?_eq_getElem (by omega)⟩
       obtain ⟨q2, hqk⟩ : ∃ q2, l[k + j]? = some q2 := ⟨_, List.getElem?_eq_getElem hlt2⟩
       have Hkeep : Hid (Lib.keeps l.toArray (k + j) = decide (q2 ≠ p2)) := hid (by
        unfold Lib.keeps
        rw [show l.toArray[k + j]! = q2 by simp [hqk], show l.toArray[k + j - 1]! = p2 by simp [hpk]]
        have h0 : ¬ (k + j = 0) := by omega
        exact decide_eq_decide.2 ⟨fun h => h.resolve_left h0, Or.inr⟩)
       have Hq2 : Hid (l.toArray[k + j]! = q2) := hid (by simp [hqk])
       have hRg : ∀ i, k1 ≤ i → i < l.length → R[i]? = l[i]? := fun i h1 h3 => by
        have := Hinv.out.high i h1
        have h4 : i < R.length := by rw [HRl.out]; exact h3
        rw [List.getElem?_eq_getElem h4, List.getElem?_eq_getElem h3]
        simpa [List.getElem?_eq_getElem h4, List.getElem?_eq_getElem h3] using this
       have hlt3 := Hinv.out.lt
       rw [← hRg _ (by omega) (by omega)] at hpk hqk
       obtain ⟨p0, p1⟩ := own_e Hrow.out hpk
       obtain ⟨q0, q1⟩ := own_e Hrow.out hqk
       rw [show (k + j - 1) * 2 = k * 2 + (j - 1) * 2 by omega] at p0 p1
       rw [show (k + j) * 2 = k * 2 + j * 2 by omega] at q0 q1
       have c0 : ∀ w1, Keep (fun _ => False) wr w1 → w1.cell? ⟨g, k * 2 + (j - 1) * 2, none⟩ = some (.int .i64 p2.1) := fun w1 kk => kk.ext.cellx p0
       have c1 : ∀ w1, Keep (fun _ => False) wr w1 → w1.cell? ⟨g, k * 2 + (j - 1) * 2 + 1, none⟩ = some (.int .i64 p2.2) := fun w1 kk => kk.ext.cellx p1
       have c2 : ∀ w1, Keep (fun _ => False) wr w1 → w1.cell? ⟨g, k * 2 + j * 2, none⟩ = some (.int .i64 q2.1) := fun w1 kk => kk.ext.cellx q0
       have c3 : ∀ w1, Keep (fun _ => False) wr w1 → w1.cell? ⟨g, k * 2 + j * 2 + 1, none⟩ = some (.int .i64 q2.2) := fun w1 kk => kk.ext.cellx q1
       have hlt4 : (j : Int) < (↑(l.length - k) : Int) := by omega
       have hk1l : (k1 : Int) < (l.length : Int) := by omega
       clear hpk hqk p0 p1 q0 q1 hRg
       go_wp2
       refine wp_flowT (fun _ => False) (by kernel_rfl) (by kernel_rfl) ?_
       repeat (apply FlowT.d; (intro w1 hk; unfold does; go_simp; (try go_ints); (first | exact DetR.mk | (simp only [↓IntWalk.iteOmega, Oper.doesUpon_value]; exact DetR.mk) | (simp only [↓IntWalk.iteOmega]; go_simp; (try go_ints); exact DetR.mk))); simp only [Act.put, qS0, qS1, qS2])
       refine FlowT.fin fun w2 hx2 hk2 => ?_
       have d0 := c2 w2 hk2
       have d1 := c3 w2 hk2
       have Hxq2 := hid (Hxq.out.trans hx2)
       have Hrow2 := hid (own_ext Hrow.out hx2)
       clear hx2 hk2 c0 c1 c2 c3
       by_cases hqp : q2 = p2
       ·rw [show (q2.1 != p2.1 || q2.2 != p2.2) = false by rw [hqp]; simp]
        have Hd : Hid (Lib.keeps l.toArray (k + j) = false) := hid (by rw [Hkeep.out, hqp]; simp)
        clear hqp Hkeep
        go_wp2
        go_roundw
        case rel => exact ⟨k1, j + 1, R, rfl, by go_num, by omega, by omega, HRl.out, Lib.CompInv.skip Hinv.out Hd.out, Hrow2.out, Hxq2.out⟩
        case measure => simp [intOf]; omega
       ·rw [show (q2.1 != p2.1 || q2.2 != p2.2) = true by
         cases hb : (q2.1 != p2.1 || q2.2 != p2.2) with
         | true => rfl
         | false =>
          rw [Bool.or_eq_false_iff, bne_eq_false_iff_eq, bne_eq_false_iff_eq] at hb
          exact absurd (Prod.ext hb.1 hb.2) hqp]
        have Hd : Hid (Lib.keeps l.toArray (k + j) = true) := hid (by rw [Hkeep.out]; simp [hqp])
        clear hqp Hkeep
        have hiR : k1 < R.length := by have := HRl.out; omega
        obtain ⟨y0, y1⟩ := own_e Hrow2.out (List.getElem?_eq_getElem hiR)
        have hfr := own_free Hrow2.out
        have hput := hid (own_putE Hrow2.out k1 hiR q2)
        have hkp2 := hid (Keep.new Hxq2.out (storeE_keep w2 g (k1 * 2) q2) fun b e => by rw [e]; exact Nat.le_trans Hb0.out Hbase.out)
        unfold storeE at hput hkp2
        generalize hyv : R[k1] = y at *
        clear hyv
        go_wp2
        go_roundw
        case rel => exact ⟨k1 + 1, j + 1, R.set k1 q2, by go_num, by go_num, by omega, by omega, by rw [List.length_set]; exact HRl.out, (by
         have := Lib.CompInv.keep Hinv.out (by simpa using hlt2) Hd.out
         rw [Hq2.out] at this
         rw [← Nat.add_assoc]
         simpa using this), hput.out, hkp2.out⟩
        case measure => simp [intOf]; omega
      ·have hm : k + j = l.length := by omega
       have Hinv2 : Hid (Lib.CompInv l.toArray l.length k1 R.toArray) := hid (by rw [← hm]; exact Hinv.out)
       obtain rfl : j = l.length - k := by omega
       have hk1l := Hinv2.out.lt
       have hlen : (Lib.compact l).length = k1 := Hinv2.out.len
       have hTf : R.take k1 = Lib.compact l := by
        apply List.ext_getElem?
        intro i
        by_cases hi : i < k1
        ·have h1 : (Lib.compact l)[i]? = some R.toArray[i]! := Hinv2.out.low i hi
         have h4 : i < R.length := by rw [HRl.out]; omega
         rw [h1, List.getElem?_take, if_pos hi, List.getElem?_eq_getElem h4]
         simp [List.getElem?_eq_getElem h4]
        ·rw [List.getElem?_eq_none (by rw [List.length_take]; omega), List.getElem?_eq_none (by omega)]
       obtain ⟨cu, hcu, hb0, hcap, hmx, hcs, htk⟩ := own_blk Hrow.out
       obtain ⟨ti, hi, hz0, hz1, hz2⟩ := info_parts edge_info
       have hsz : k1 * 2 + (l.length - k1) * 2 ≤ cu.size := by rw [hcs]; omega
       have hclr := fun ty => run_clear_row (P := Tryz.prog) wr 55 ty 62 ti _ Tryz.underlying55 hi hz0 (by simp [Value.cells, Value.oneCell']) g (k1 * 2) (l.length - k1) (c - k1) (by omega) cu hcu hsz
       obtain ⟨cu', hcu'⟩ : ∃ cu', cu' = (cu.toList.take (k1 * 2) ++ (Builtin.zeroCells (Value.agg #[.int .i64 0, .int .i64 0]).cells (l.length - k1)).toList ++ cu.toList.drop (k1 * 2 + (l.length - k1) * (Value.agg #[.int .i64 0, .int .i64 0]).cells.size)).toArray := ⟨_, rfl⟩
       rw [← hcu'] at hclr
       have hsz' : cu'.size = c * 2 := by
        have h6 : (Value.agg #[.int .i64 0, .int .i64 0]).cells.size = 2 := rfl
        rw [hcu', List.size_toArray, List.length_append, List.length_append, List.length_take, List.length_drop, Array.length_toList, Array.length_toList, size_zeroCells, h6, hcs]
        omega
       have htk' : cu'.toList.take (k1 * 2) = (Lib.compact l).flatMap eCells := by
        rw [hcu', List.toList_toArray, List.append_assoc, List.take_append_of_le_length (by rw [List.length_take, Array.length_toList]; omega), List.take_take, Nat.min_self, ← hTf, ← fm_take eCells 2 eCells_len, ← htk, List.take_take, Nat.min_eq_left (by omega)]
       have hfin := hid (own_of_blk (setRow_blk hcu cu') hb0 (show k1 ≤ c by omega) hmx hsz' htk')
       have hkf : Hid (Ext w0 _) := hid (Keep.new Hxq.out (setRow_keep wr g cu') fun b e => by rw [e]; exact Nat.le_trans Hb0.out Hbase.out)
       have HRi := hid hlen
       have hci : (k1 : Int) ≤ (l.length : Int) := by omega
       clear hTf hlen hcu hb0 hcap hmx hcs htk hi hz0 hz1 hz2 hsz hcu' hsz' htk' HRl Hinv Hinv2 hm
       go_wp2
       go_ret
       exact ⟨.slice (some ⟨g, 0, none⟩) k1 c, rfl, by unfold ERow; rw [HRi.out]; exact hfin.out, hkf.out⟩
    ·rw [show (q.1 == p.1 && q.2 == p.2) = false by
      cases hb : (q.1 == p.1 && q.2 == p.2) with
      | false => rfl
      | true =>
       rw [Bool.and_eq_true, beq_iff_eq, beq_iff_eq] at hb
       exact absurd (Prod.ext hb.1 hb.2) hqp]
     have Hd : Hid (Lib.keeps l.toArray k = true) := hid (by rw [Hkeep.out]; simp [hqp])
     clear hqp Hkeep
     go_wp2
     go_roundw
     case rel => exact ⟨k + 1, by go_num, by omega, by omega, fun j hj => (by
                                                             by_cases e : j = k
                                                             ·rw [e]; exact Hd.out
                                                             ·exact Hp.out j (by omega)), Hx1.out⟩
     case measure => simp [intOf]; omega
   ·obtain rfl : k = l.length := by omega
    have Hc : Hid (Lib.compact l = l) := hid (Lib.compact_all l Hp.out)
    go_wp2
    go_ret
    exact ⟨_, rfl, by rw [Hc.out]; exact own_ext Hr.out Hx.out, Hx0.out.trans Hx.out⟩
theorem srt_lt {l : List Int} {M : Nat} (h : chkE l = 0) (hm : ∀ x ∈ l, x < (M : Int)) (hM : M ≤ 1000) : l.length ≤ M := by
 obtain ⟨h1, h2⟩ := chkE_zero.1 h
 rw [← sset_self h2 h1]
 unfold sset
 rw [List.length_map]
 have e : List.range 1000 = List.range M ++ (List.range (1000 - M)).map (M + ·) := by
  rw [← List.range_add]; congr 1; omega
 have e2 : ((List.range (1000 - M)).map (M + ·)).filter (fun n : Nat => decide ((n : Int) ∈ l)) = [] := by
  rw [List.filter_eq_nil_iff]
  intro n hn hd
  obtain ⟨j, _, rfl⟩ := List.mem_map.1 hn
  have := hm _ (of_decide_eq_true hd)
  omega
 rw [e, List.filter_append, e2, List.append_nil]
 have := List.length_filter_le (fun n : Nat => decide ((n : Int) ∈ l)) (List.range M)
 rw [List.length_range] at this
 exact this
theorem flatMap_len {α β : Type} (f : α → List β) (c : Nat) : ∀ l : List α, (∀ x ∈ l, (f x).length ≤ c) → (l.flatMap f).length ≤ l.length * c
 | [], _ => Nat.zero_le _
 | x :: r, h => by
  have h1 := h x List.mem_cons_self
  have h2 := flatMap_len f c r fun y hy => h y (List.mem_cons_of_mem _ hy)
  rw [List.flatMap_cons, List.length_append, List.length_cons, Nat.add_mul]
  omega
theorem calledV_len (f : PF) (r : RV) : (calledV f r).length ≤ r.args.length + 1 := by
 unfold calledV
 split
 ·rw [List.length_cons, List.length_zip]; omega
 ·exact Nat.zero_le _
theorem callsOf_len (P : PP) (r : RV) (o : Int) : (P.callsOf r o).length ≤ r.args.length + 1 := by
 unfold PP.callsOf
 split
 ·exact calledV_len _ _
 ·exact Nat.zero_le _
theorem getD_len {has : List (List Int)} {M : Nat} (h : ∀ l ∈ has, l.length ≤ M) (i : Nat) : (has.getD i []).length ≤ M := by
 rw [List.getD_eq_getElem?_getD]
 cases he : has[i]? with
 | none => exact Nat.zero_le _
 | some l => exact h l (List.mem_of_getElem? he)
theorem redges_len (P : PP) (r : RV) (has : List (List Int)) (M : Nat) (h : ∀ l ∈ has, l.length ≤ M) (ha : r.args.length ≤ 3) : (P.redges r has).length ≤ M * 4 + 1 := by
 unfold PP.redges
 cases r.kind.toList == kCopy
 ·cases r.kind.toList == kLoad
  ·cases r.kind.toList == kStore
   ·cases r.kind.toList == kCall
    ·exact Nat.zero_le _
    ·simp only [cond_true, cond_false]
     have h1 := flatMap_len (P.callsOf r) 4 (has.getD r.a.toNat []) fun o _ => by have := callsOf_len P r o; omega
     have h2 := getD_len h r.a.toNat
     omega
   ·simp only [cond_true, cond_false, List.length_map]
    have h1 := List.length_filter_le (fun x => !decide ((P.nodesV : Int) ≤ x)) (has.getD r.b.toNat [])
    have h2 := getD_len h r.b.toNat
    unfold PP.nodesOf
    omega
  ·simp only [cond_true, cond_false, List.length_map]
   have h1 := List.length_filter_le (fun x => !decide ((P.nodesV : Int) ≤ x)) (has.getD r.a.toNat [])
   have h2 := getD_len h r.a.toNat
   unfold PP.nodesOf
   omega
 ·simp only [cond_true, List.length_cons, List.length_nil]; omega
theorem ruleV_few {P : PP} (hw : P.Well) {k : Nat} (hk : k < P.stmts.length) : (P.ruleV k (P.stAt k)).args.length ≤ 3 := by
 have h0 := hw.2 k (P.stAt k) hk (stAt_some hk)
 unfold PP.ruleV
 cases (P.stAt k).isK kAddr
 ·cases (P.stAt k).isK kNew
  ·cases (P.stAt k).isK kFun
   ·cases hc : (P.stAt k).isK kCall
    ·exact Nat.zero_le _
    ·exact call_few h0 hc
   ·exact Nat.zero_le _
  ·exact Nat.zero_le _
 ·exact Nat.zero_le _
theorem rulesUp_len {P : PP} {has : List (List Int)} (hw : P.Well) (hs : SetsOk P has) (k : Nat) (hk : k ≤ P.stmts.length) : ((P.rulesUp k).flatMap fun r => P.redges r has).length ≤ 50000 := by
 obtain ⟨f1, f2, f3⟩ := hw.few
 have hn := P.newsN_le P.stmts.length
 have hM : ∀ l ∈ has, l.length ≤ 126 := fun l hl => by
  have := srt_lt (M := P.objectsV) (hs.ok l hl).1 (hs.ok l hl).2 (by unfold PP.objectsV PP.nodesV; omega)
  unfold PP.objectsV PP.nodesV at this
  omega
 have h1 := flatMap_len (fun r => P.redges r has) (126 * 4 + 1) (P.rulesUp k) fun r hr => by
  unfold PP.rulesUp at hr
  obtain ⟨j, hj, rfl⟩ := List.mem_map.1 hr
  exact redges_len P _ has 126 hM (ruleV_few hw (by have := List.mem_range.1 hj; omega))
 have h2 : (P.rulesUp k).length = k := by unfold PP.rulesUp; rw [List.length_map, List.length_range]
 rw [h2] at h1
 omega
end Go.Proofs.YtngdpnlgnpdkcaaGreatDoor
namespace Go.Proofs
open Go.Shelf
def Tryz.sortE_ren : Go.Shelf.Ren := ⟨fun | 6 => 60 | 15 => 107 | 14 => 106 | 28 => 141 | 29 => 142 | 20 => 133 | 21 => 134 | 22 => 135 | 23 => 136 | 24 => 137 | 25 => 138 | 26 => 139 | 27 => 140 | 46 => 164 | 47 => 165 | 48 => 166 | 49 => 167 | 50 => 168 | 57 => 182 | n => n, fun | 22 => 55 | 24 => 62 | 25 => 117 | 3 => 3 | 39 => 167 | 0 => 0 | 53 => 205 | 55 => 207 | 4 => 4 | 46 => 199 | 45 => 198 | 50 => 89 | 5 => 5 | 9 => 9 | 66 => 240 | 70 => 244 | 76 => 256 | 77 => 99 | n => n, fun | n => n⟩
theorem Tryz.sortE : Go.Proofs.SlLaysF0.n6 Tryz.prog Tryz.sortE_ren := {
 mixed := by kernel_rfl
 f6 := ⟨Tryz.f60.name, by decide, Tryz.func60.trans (congrArg some (by kernel_rfl))⟩
 f14 := ⟨Tryz.f106.name, by decide, Tryz.func106.trans (congrArg some (by kernel_rfl))⟩
 f15 := Tryz.func107.trans (congrArg some (by kernel_rfl))
 f20 := ⟨Tryz.f133.name, by decide, Tryz.func133.trans (congrArg some (by kernel_rfl))⟩
 f21 := ⟨Tryz.f134.name, by decide, Tryz.func134.trans (congrArg some (by kernel_rfl))⟩
 f22 := ⟨Tryz.f135.name, by decide, Tryz.func135.trans (congrArg some (by kernel_rfl))⟩
 f23 := ⟨Tryz.f136.name, by decide, Tryz.func136.trans (congrArg some (by kernel_rfl))⟩
 f24 := ⟨Tryz.f137.name, by decide, Tryz.func137.trans (congrArg some (by kernel_rfl))⟩
 f25 := ⟨Tryz.f138.name, by decide, Tryz.func138.trans (congrArg some (by kernel_rfl))⟩
 f26 := ⟨Tryz.f139.name, by decide, Tryz.func139.trans (congrArg some (by kernel_rfl))⟩
 f27 := ⟨Tryz.f140.name, by decide, Tryz.func140.trans (congrArg some (by kernel_rfl))⟩
 f28 := Tryz.func141.trans (congrArg some (by kernel_rfl))
 f29 := Tryz.func142.trans (congrArg some (by kernel_rfl))
 f46 := ⟨Tryz.f164.name, by decide, Tryz.func164.trans (congrArg some (by kernel_rfl))⟩
 f47 := Tryz.func165.trans (congrArg some (by kernel_rfl))
 f48 := Tryz.func166.trans (congrArg some (by kernel_rfl))
 f49 := ⟨Tryz.f167.name, by decide, Tryz.func167.trans (congrArg some (by kernel_rfl))⟩
 f50 := ⟨Tryz.f168.name, by decide, Tryz.func168.trans (congrArg some (by kernel_rfl))⟩
 f57 := ⟨Tryz.f182.name, by decide, Tryz.func182.trans (congrArg some (by kernel_rfl))⟩
 t0 := Tryz.underlying0
 a0 := Tryz.isAgg0
 z0 := Tryz.sizeOf0
 v0 := Tryz.zeroValue0
 t3 := Tryz.underlying3
 a3 := Tryz.isAgg3
 z3 := Tryz.sizeOf3
 v3 := Tryz.zeroValue3
 t4 := Tryz.underlying4
 a4 := Tryz.isAgg4
 z4 := Tryz.sizeOf4
 v4 := Tryz.zeroValue4
 t5 := Tryz.underlying5
 a5 := Tryz.isAgg5
 z5 := Tryz.sizeOf5
 v5 := Tryz.zeroValue5
 t9 := Tryz.underlying9
 a9 := Tryz.isAgg9
 z9 := Tryz.sizeOf9
 v9 := Tryz.zeroValue9
 t22 := Tryz.underlying55
 a22 := Tryz.isAgg55
 z22 := Tryz.sizeOf55
 v22 := Tryz.zeroValue55
 t25 := Tryz.underlying117
 a25 := Tryz.isAgg117
 z25 := Tryz.sizeOf117
 v25 := Tryz.zeroValue117
 t39 := Tryz.underlying167
 a39 := Tryz.isAgg167
 z39 := Tryz.sizeOf167
 v39 := Tryz.zeroValue167
 t45 := Tryz.underlying198
 a45 := Tryz.isAgg198
 z45 := Tryz.sizeOf198
 v45 := Tryz.zeroValue198
 t46 := Tryz.underlying199
 a46 := Tryz.isAgg199
 z46 := Tryz.sizeOf199
 v46 := Tryz.zeroValue199
 t50 := Tryz.underlying89
 a50 := Tryz.isAgg89
 z50 := Tryz.sizeOf89
 v50 := Tryz.zeroValue89
 t53 := Tryz.underlying205
 a53 := Tryz.isAgg205
 z53 := Tryz.sizeOf205
 v53 := Tryz.zeroValue205
 t55 := Tryz.underlying207
 a55 := Tryz.isAgg207
 z55 := Tryz.sizeOf207
 v55 := Tryz.zeroValue207
 t66 := Tryz.underlying240
 a66 := Tryz.isAgg240
 z66 := Tryz.sizeOf240
 v66 := Tryz.zeroValue240
 t70 := Tryz.underlying244
 a70 := Tryz.isAgg244
 z70 := Tryz.sizeOf244
 v70 := Tryz.zeroValue244
 t76 := Tryz.underlying256
 a76 := Tryz.isAgg256
 z76 := Tryz.sizeOf256
 v76 := Tryz.zeroValue256
 t77 := Tryz.underlying99
 a77 := Tryz.isAgg99
 z77 := Tryz.sizeOf99
 v77 := Tryz.zeroValue99 }
end Go.Proofs
namespace Go.Proofs.YtngdpnlgnpdkcaaGreatDoor
open Go Go.RowKit Go.Sort
def InE (e : Int × Int) : Prop := 0 ≤ e.1 ∧ e.1 < 1000 ∧ 0 ≤ e.2 ∧ e.2 < 1000
abbrev SE := { e : Int × Int // InE e }
instance : Inhabited SE := ⟨⟨(0, 0), by unfold InE; omega⟩⟩
def seCells (x : SE) : List Value := eCells x.1
def seCmp (x y : SE) : Int := eCmp x.1 y.1
theorem eCmp_lt (a b : Int × Int) : eCmp a b < 0 ↔ lexLt a b := by
 unfold eCmp lexLt
 split <;> omega
theorem ltOf_se (x y : SE) : ltOf seCmp x y = true ↔ lexLt x.1 y.1 := by
 unfold ltOf seCmp
 rw [decide_eq_true_iff, eCmp_lt]
theorem ltOf_se_no (x y : SE) : ltOf seCmp x y = false ↔ ¬ lexLt x.1 y.1 := by
 rw [← ltOf_se, Bool.not_eq_true]
theorem se_swo : SWO (ltOf seCmp) where
 irrefl x := (ltOf_se_no x x).2 (lexLt.irr _)
 trans x y z h k := (ltOf_se x z).2 (((ltOf_se x y).1 h).trans ((ltOf_se y z).1 k))
 ntrans x y z h k := by
  rw [ltOf_se_no] at *
  unfold lexLt at *
  omega
theorem se_tot (x y : SE) (h : ltOf seCmp x y = false) (k : ltOf seCmp y x = false) : x = y := by
 rw [ltOf_se_no] at h k
 rcases lexLt.tri x.1 y.1 with g | g | g
 ·exact absurd g h
 ·exact Subtype.ext g
 ·exact absurd g k
theorem se_of : ∀ l : List (Int × Int), (∀ e ∈ l, InE e) → ∃ d : List SE, d.map (·.1) = l
 | [], _ => ⟨[], rfl⟩
 | e :: l, h => by
  obtain ⟨d, hd⟩ := se_of l fun x hx => h x (List.mem_cons_of_mem _ hx)
  exact ⟨⟨e, h e List.mem_cons_self⟩ :: d, by rw [List.map_cons, hd]⟩
theorem flat_se (d : List SE) : (flatK seCells 2 d.toArray).toList = (d.map (·.1)).flatMap eCells := by
 apply List.ext_getElem?
 intro t
 have hlen : ((d.map (·.1)).flatMap eCells).length = d.length * 2 := by rw [fm_len eCells 2 eCells_len, List.length_map]
 by_cases ht : t < d.length * 2
 ·have hi : t / 2 < d.length := by omega
  have e1 : ((d.map (·.1)).flatMap eCells)[t / 2 * 2 + t % 2]? = (eCells (d[t / 2]'hi).1)[t % 2]? := fm_get eCells 2 eCells_len _ _ _ _ (by rw [List.getElem?_map, List.getElem?_eq_getElem hi]; rfl) (by omega)
  rw [show t / 2 * 2 + t % 2 = t by omega] at e1
  rw [e1, Array.getElem?_toList]
  have e2 := get_flatK seCells 2 d.toArray t (by simpa using ht)
  rw [getElem!_pos (flatK seCells 2 d.toArray) t (by simpa using ht)] at e2
  rw [Array.getElem?_eq_getElem (by simpa using ht), e2]
  have e3 : d.toArray[t / 2]! = d[t / 2]'hi := by simp [getElem!_pos, hi]
  rw [e3]
  have hm : t % 2 < (seCells (d[t / 2]'hi)).length := by
   have : (seCells (d[t / 2]'hi)).length = 2 := rfl
   omega
  rw [getElem!_pos (seCells (d[t / 2]'hi)) (t % 2) hm]
  exact (List.getElem?_eq_getElem hm).symm
 ·rw [List.getElem?_eq_none (by rw [Array.length_toList, size_flatK]; simp; omega), List.getElem?_eq_none (by rw [hlen]; omega)]
theorem putF_at {w : World} {g q : Nat} {cur : Array Value} {t : TypeId} {F : Array Value} {os : Array Obj} (hb : Blk w g cur t) :
  Blk (grow (putRow id (Sort.ahead w q) g 0 F) os) g (putCells id 0 F cur) t ∧ Keep (fun b => b = g) w (grow (putRow id (Sort.ahead w q) g 0 F) os) := by
 have hlt := hb.lt
 have hh : ∀ k, k < w.heap.size → (grow (putRow id (Sort.ahead w q) g 0 F) os).heap[k]? = (w.heap.modify g (onCells (putCells id 0 F)))[k]? := fun k hk => by
  unfold grow putRow mapBlock Sort.ahead
  simp only
  rw [Array.getElem?_append_left (by simpa using hk)]
 constructor
 ·unfold Blk
  rw [hh g hlt, Array.getElem?_modify, if_pos rfl]
  have : w.heap[g]? = some (.cells cur t (0, 0)) := hb
  rw [this]
  rfl
 ·refine ⟨rfl, rfl, rfl, ?_, fun k hk hx => ?_⟩
  ·unfold grow putRow mapBlock Sort.ahead
   simp
  ·rw [hh k hk, Array.getElem?_modify, if_neg (fun e => hx e.symm)]
theorem putF_cells (F cur : Array Value) (hc : F.size ≤ cur.size) : (putCells id 0 F cur).toList.take F.size = F.toList := by
 apply List.ext_getElem?
 intro i
 rw [List.getElem?_take]
 by_cases hi : i < F.size
 ·rw [if_pos hi, Array.getElem?_toList, Array.getElem?_toList]
  unfold putCells
  rw [Array.getElem?_mapIdx, Array.getElem?_eq_getElem (by omega), Array.getElem?_eq_getElem hi]
  simp only [Option.map_some, Nat.zero_le, true_and, Nat.zero_add, Nat.sub_zero]
  rw [if_pos hi]
  simp [getElem!_pos, hi]
 ·rw [if_neg hi, List.getElem?_eq_none (by rw [Array.length_toList]; omega)]
theorem esort_le (d : List SE) : ((d.mergeSort fun x y => !(ltOf seCmp) y x).map (·.1)).Pairwise lexLe := by
 have h := List.pairwise_mergeSort (le := fun x y : SE => !(ltOf seCmp) y x) (fun a b c h1 h2 => by
  simp only [Bool.not_eq_true', ltOf_se_no] at h1 h2 ⊢
  unfold lexLt at *
  omega) (fun a b => by
  simp only [Bool.or_eq_true, Bool.not_eq_true', ltOf_se_no]
  unfold lexLt
  omega) d
 rw [List.pairwise_map]
 refine h.imp fun {a b} g => ?_
 simp only [Bool.not_eq_true', ltOf_se_no] at g
 rcases lexLt.tri a.1 b.1 with k | k | k
 ·exact .inl k
 ·exact .inr k
 ·exact absurd k g
set_option maxRecDepth 100000 in
set_option maxHeartbeats 1600000 in
theorem esort_any (lv : Value) (l : List (Int × Int)) (hin : ∀ e ∈ l, InE e) (w0 w : World) (n0 : Nat) (hx0 : Ext w0 w) (hb0 : w0.heap.size ≤ n0) (hr : ERow n0 w lv l) (hfew : l.length ≤ 100000) :
  Calls Tryz.prog 60 #[lv, .func (.func 61) #[] #[]] w fun e w' => e = .returned (.tuple #[]) ∧ ∃ l', ERow n0 w' lv l' ∧ l'.length = l.length ∧ (∀ x, x ∈ l' ↔ x ∈ l) ∧ l'.Pairwise lexLe ∧ Ext w0 w' := by
 by_cases h0 : l.length = 0
 ·obtain rfl := List.eq_nil_of_length_eq_zero h0
  obtain ⟨a, c, rfl⟩ := row_form hr
  refine (AnyF.slices_SortFunc_none Tryz.sortE a c (.func (.func 61) #[] #[]) w).mono ?_
  rintro e w' ⟨rfl, rfl⟩
  exact ⟨rfl, [], hr, rfl, fun x => Iff.rfl, List.Pairwise.nil, hx0⟩
 ·obtain ⟨g, cap, rfl⟩ := own_some hr (by omega)
  obtain ⟨d, rfl⟩ := se_of l hin
  obtain ⟨cur, hb, hbase, hcap, hmx, hcs, htk⟩ := own_blk hr
  have hH : HoldsK seCells 2 w g 0 d.toArray := fun j hj => by
   have hj2 : j < d.length * 2 := by simpa using hj
   rw [Nat.zero_add]
   refine ⟨own_get hr j ?_, own_free hr j⟩
   rw [← flat_se, Array.getElem?_toList, Array.getElem?_eq_getElem hj, getElem!_pos (flatK seCells 2 d.toArray) j hj]
   rfl
  have hC : CmpLays Tryz.prog 61 #[] seCells 2 seCmp g 0 d.toArray.size w := fun m os dk hs x y => by
   have h := consedgesc2_grow x.1 y.1 (sortWorldK seCells 2 w g 0 m dk os) x.2 y.2
   refine h.mono ?_
   rintro e w' ⟨rfl, os', rfl⟩
   exact ⟨rfl, 0, os', rfl⟩
  have hS := AnyQ.slices_SortFunc_total Tryz.sortE 2 Tryz.isAgg62 Tryz.sizeOf62 seCells (fun _ => rfl) (fun x v hv => eCells_one (E := [x.1]) v (by simpa [seCells] using hv)) seCmp se_swo 61 #[] g 0 cap d.toArray w (fun args w => by kernel_rfl) hC hH hb.lt (by simp at hfew ⊢; omega) se_tot
  have hsz : d.toArray.size = (d.map (·.1)).length := by simp
  rw [hsz] at hS
  refine hS.mono ?_
  rintro e w' ⟨rfl, q, os, rfl⟩
  obtain ⟨d', hd'⟩ : ∃ d', d' = d.mergeSort fun x y => !(ltOf seCmp) y x := ⟨_, rfl⟩
  have hp : d'.Perm d := by rw [hd']; exact List.mergeSort_perm _ _
  have hle := esort_le d
  rw [← hd'] at hle
  obtain ⟨p1, p2⟩ := putF_at (q := q) (F := flatK seCells 2 d'.toArray) (os := os) hb
  have hFs : (flatK seCells 2 d'.toArray).size = (d.map (·.1)).length * 2 := by rw [size_flatK]; simp [hp.length_eq]
  have hw : sortWorldK seCells 2 w g 0 q (d.toArray.toList.mergeSort fun x y => !(ltOf seCmp) y x).toArray os = grow (putRow id (Sort.ahead w q) g 0 (flatK seCells 2 d'.toArray)) os := by rw [hd']; rfl
  rw [hw]
  have hlen : (d'.map (·.1)).length = (d.map (·.1)).length := by simp [hp.length_eq]
  refine ⟨rfl, d'.map (·.1), ?_, hlen, fun x => (hp.map _).mem_iff, hle, Keep.new hx0 p2 fun b e => by rw [e]; exact Nat.le_trans hb0 hbase⟩
  unfold ERow
  rw [hlen]
  refine own_of_blk p1 hbase hcap hmx (by unfold putCells; rw [Array.size_mapIdx]; exact hcs) ?_
  rw [← hFs, putF_cells _ _ (by rw [hFs, hcs]; exact Nat.mul_le_mul_right _ hcap), flat_se]
end Go.Proofs.YtngdpnlgnpdkcaaGreatDoor
namespace Go.Proofs.YtngdpnlgnpdkcaaGreatDoor
open Go Go.RowKit
theorem compactE_upto (l : List (Int × Int)) : ∀ m, (Lib.compactUpTo l.toArray m).length ≤ m
 | 0 => by simp [Lib.compactUpTo]
 | m + 1 => by
  have := compactE_upto l m
  rw [Lib.compactUpTo_succ]
  split <;> simp <;> omega
theorem compactE_len (l : List (Int × Int)) : (Lib.compact l).length ≤ l.length := by
 unfold Lib.compact
 exact compactE_upto l _
theorem own_r {w : World} {base g n cap : Nat} {rs : List R2} (h : w.ownsRow base 87 5 (.slice (some ⟨g, 0, none⟩) n cap) n (rs.flatMap R2.cells)) {i : Nat} {x : R2} (hx : rs[i]? = some x) :
  w.cell? ⟨g, i * 5, none⟩ = some (.string x.r.kind) ∧ w.cell? ⟨g, i * 5 + 1, none⟩ = some (.int .i64 x.r.a) ∧ w.cell? ⟨g, i * 5 + 2, none⟩ = some (.int .i64 x.r.b) ∧ w.cell? ⟨g, i * 5 + 3, none⟩ = some (.int .i64 x.r.k) ∧ w.cell? ⟨g, i * 5 + 4, none⟩ = some x.v := by
 have c : ∀ j v, x.cells[j]? = some v → j < 5 → w.cell? ⟨g, i * 5 + j, none⟩ = some v := fun j v hv hj => own_get h _ ((fm_get R2.cells 5 R2.cells_len rs i j x hx hj).trans hv)
 exact ⟨c 0 _ rfl (by omega), c 1 _ rfl (by omega), c 2 _ rfl (by omega), c 3 _ rfl (by omega), c 4 _ rfl (by omega)⟩
theorem rules_at {P : PP} {rs : List R2} (h : rs.map R2.r = P.rulesV) {k : Nat} (hk : k < P.stmts.length) : ∃ x, rs[k]? = some x ∧ x.r = P.ruleV k (P.stAt k) := by
 have hl : rs.length = P.stmts.length := by have := congrArg List.length h; rw [List.length_map] at this; rw [this]; exact P.rulesUp_len _
 have hkr : k < rs.length := by omega
 refine ⟨rs[k], List.getElem?_eq_getElem hkr, ?_⟩
 have h1 : (rs.map R2.r)[k]? = some (rs[k]).r := by rw [List.getElem?_map, List.getElem?_eq_getElem hkr]; rfl
 rw [h] at h1
 unfold PP.rulesV PP.rulesUp at h1
 rw [List.getElem?_map, List.getElem?_range hk] at h1
 exact (Option.some.inj h1).symm
theorem sets_nil {ad : Nat → Addr} {P : PP} {has : List (List Int)} {w : World} {v : Value} (h : SetsIs ad P has w v) (hl : has.length = P.nodesV) (he : ∀ l ∈ has, P.setE l = 0) : v = .nilIface := by
 rcases h with ⟨h, _⟩ | ⟨_, _, h⟩ | ⟨_, i, l, _, h1, h2, _⟩
 ·exact absurd hl h
 ·exact h
 ·exact absurd (he l (List.mem_of_getElem? h1)) h2
set_option maxRecDepth 100000 in
set_option maxHeartbeats 6400000 in
theorem consedges_ok (a1 a2 a3 : Option Addr) (c1 c2 c3 : Nat) (P : PP) (hv : Value) (has : List (List Int)) (w : World) (n0 : Nat) (ad : Nat → Addr) (h : PW w n0 ad a1 a2 a3 c1 c2 c3 P) (hS : ErrS w ad) (hh : SetsR w n0 hv has)
  (hl : has.length = P.nodesV) (he : ∀ l ∈ has, P.setE l = 0) (hn0 : n0 ≤ w.heap.size) :
  Calls Tryz.prog 21 #[pval a1 a2 a3 c1 c2 c3 P, hv] w fun e w' => ∃ v l, e = .returned (.tuple #[v, .nilIface]) ∧ ERow w.heap.size w' v l ∧ EdgesAre P has l ∧ l.length ≤ 50000 ∧ Ext w w' := by
 obtain ⟨ah, ch, rfl⟩ := hh.form
 have Hs := hid (SetsOk.of hl he)
 have Hl := hid hl
 have He := hid he
 have Hw := hid h.well
 obtain ⟨hf1, hf2, hf3⟩ := h.well.few
 obtain ⟨W, hW⟩ : ∃ W, W = w.alloc (.cells (pcells a1 a2 a3 c1 c2 c3 P) 26) := ⟨_, rfl⟩
 have HX : Hid (Ext w W) := hid (by rw [hW]; exact (Ext.refl _).alloc _)
 have HBx : Hid (Blk W w.heap.size (pcells a1 a2 a3 c1 c2 c3 P) 26) := hid (by rw [hW]; exact Blk.new _ _ _)
 have HWe : Hid (W = w.alloc (.cells #[.slice a1 P.vars.length c1, .slice a2 P.funs.length c2, .slice a3 P.stmts.length c3] 26)) := hid (by rw [hW]; rfl)
 have HK := hid (consof_yes a1 a2 a3 c1 c2 c3 P W n0 ad (h.ext HX.out))
 have HN := fun w1 (x : Ext W w1) => hid (conssets_any a1 a2 a3 c1 c2 c3 P _ has w1 n0 ad (h.ext (HX.out.trans x)) (hS.ext (HX.out.trans x)) (hh.ext (HX.out.trans x)))
 have HRe := fun k (hk : k < P.stmts.length) av n1 w1 (hn1 : n0 ≤ n1) (hn2 : n1 ≤ w1.heap.size) (x : Ext W w1) (ha : IntsR w1 n1 av (P.ruleV k (P.stAt k)).args) => hid (redges_any a1 a2 a3 c1 c2 c3 P k hk av (.slice ah has.length ch) has w1 n1 ad ((h.ext (HX.out.trans x)).lift hn1) ha ((hh.ext (HX.out.trans x)).lift hn1) Hs.out hn2)
 have Hn0 := hid (Nat.le_trans hn0 HX.out.size)
 have d0 := HBx.out.av 0 rfl
 have d1 := HBx.out.av 1 rfl
 have d2 := HBx.out.av 2 rfl
 simp only [pcells, qA0, qA1, qA2] at d0 d1 d2
 unfold pval at HK HN HRe ⊢
 clear hW h hS hh hl he hn0
 go_enter Tryz.func21, Tryz.ntmps21
 go_wp2_with fail
 rw [← HWe.out]
 refine HK.out.mono ?_
 intro e w1 hx
 obtain ⟨v, rs, rfl, hi, hx1⟩ := hx
 obtain ⟨av, cv, rfl⟩ := row_form hi.row
 rw [show P.rulesV.length = P.stmts.length from P.rulesUp_len _] at hi ⊢
 have HI := hid hi
 have Hx1 := hid hx1
 have HN1 := HN w1 hx1
 clear HK hi d0 d1 d2 HN hx1
 have d0 := (HBx.out.ext Hx1.out).av 0 rfl
 have d1 := (HBx.out.ext Hx1.out).av 1 rfl
 have d2 := (HBx.out.ext Hx1.out).av 2 rfl
 simp only [pcells, qA0, qA1, qA2] at d0 d1 d2
 go_wp2_with fail
 refine HN1.out.mono ?_
 intro e w2 hx
 obtain ⟨v2, rfl, hi, hx2⟩ := hx
 obtain rfl := sets_nil hi Hl.out He.out
 have Hx2 := hid (Hx1.out.trans hx2)
 have HI2 := hid (HI.out.ext hx2)
 have Hx12 := hid hx2
 clear HN1 hi hx2 d0 d1 d2 HI
 go_wp2
 go_loopw [9, 28] (fun t9 t28 wr => ∃ (k : Nat) (E : List (Int × Int)), t28 = .int .i64 (k : Int) ∧ k ≤ P.stmts.length ∧ E = (P.rulesUp k).flatMap (fun r => P.redges r has) ∧ wr.ownsRow w2.heap.size 62 2 t9 E.length (E.flatMap eCells) ∧ Ext w2 wr) (fun _ t28 _ => P.stmts.length - (intOf t28).toNat)
 case atStart => exact ⟨0, [], rfl, Nat.zero_le _, rfl, World.ownsRow_nil _ _ _ _, Ext.refl _⟩
 case round =>
  obtain ⟨k, E, rfl, hk, hE, hr, hx⟩ := hrel
  obtain ⟨a9, c9, rfl⟩ := row_form hr
  have hE5 : E.length ≤ 50000 := by rw [hE]; exact rulesUp_len Hw.out Hs.out k hk
  have HE := hid hE
  have Hr := hid hr
  have Hx := hid hx
  have HxW := hid (Hx2.out.trans hx)
  clear hr hx hE
  by_cases hlt : k < P.stmts.length
  ·obtain ⟨g, cp, hge⟩ := own_some HI2.out.row (by rw [show P.rulesV.length = P.stmts.length from P.rulesUp_len _]; omega)
   simp only [Value.slice.injEq] at hge
   obtain ⟨rfl, -, rfl⟩ := hge
   obtain ⟨x, hxk, hxr⟩ := rules_at HI2.out.eq hlt
   have hrow := own_ext HI2.out.row Hx.out
   rw [show P.rulesV.length = P.stmts.length from P.rulesUp_len _] at hrow
   obtain ⟨q0, q1, q2, q3, q4⟩ := own_r hrow hxk
   have hT := HI2.out.args x (List.mem_of_getElem? hxk)
   obtain ⟨aa, ca, hav⟩ := hT.form
   obtain ⟨r, xv⟩ := x
   simp only at hav hxr q0 q1 q2 q3 q4 hT
   subst hav
   obtain ⟨V, hV⟩ : ∃ V, V = wr.alloc (.cells #[.string r.kind, .int .i64 r.a, .int .i64 r.b, .int .i64 r.k, .slice aa r.args.length ca] 87) := ⟨_, rfl⟩
   have hxV : Ext wr V := by rw [hV]; exact (Ext.refl _).alloc _
   have HVe := hid hV
   have HVx := hid (HxW.out.trans hxV)
   have HBr : Hid (Blk V wr.heap.size #[.string r.kind, .int .i64 r.a, .int .i64 r.b, .int .i64 r.k, .slice aa r.args.length ca] 87) := hid (by rw [hV]; exact Blk.new _ _ _)
   have HC := HRe k hlt (.slice aa r.args.length ca) w2.heap.size V (Nat.le_trans Hn0.out Hx2.out.size) (Nat.le_trans Hx.out.size hxV.size) HVx.out (by rw [← hxr]; exact hT.1.old ((Hx.out.trans hxV).old _))
   rw [← hxr] at HC
   have hq4 := redges_len P (P.ruleV k (P.stAt k)) has 1000 (fun l hl => srt_few (Hs.out.ok l hl).1) (ruleV_few Hw.out hlt)
   rw [← hxr] at hq4
   obtain ⟨q, hq⟩ : ∃ q, q = P.redges r has := ⟨_, rfl⟩
   rw [← hq] at HC hq4
   have Hn : Hid ((P.rulesUp (k + 1)).flatMap (fun r => P.redges r has) = E ++ q) := hid (by rw [PP.rulesUp_succ, List.flatMap_append, ← HE.out, ← hxr, hq]; simp)
   have m0 := HBr.out.av 0 rfl
   have m1 := HBr.out.av 1 rfl
   have m2 := HBr.out.av 2 rfl
   have m3 := HBr.out.av 3 rfl
   have m4 := HBr.out.av 4 rfl
   simp only [qA0, qA1, qA2] at m0 m1 m2 m3 m4
   have d0 := (HBx.out.ext HVx.out).av 0 rfl
   have d1 := (HBx.out.ext HVx.out).av 1 rfl
   have d2 := (HBx.out.ext HVx.out).av 2 rfl
   simp only [pcells, qA0, qA1, qA2] at d0 d1 d2
   rw [HVe.out] at m0 m1 m2 m3 m4 d0 d1 d2
   unfold RV.val at HC
   have HrV := hid (own_ext Hr.out hxV)
   clear HRe hV hxV hxk hxr hrow hT hq
   go_wp2_with fail
   rw [← HVe.out]
   refine HC.out.mono ?_
   intro e w3 hx
   obtain ⟨vq, rfl, hq3, hx3⟩ := hx
   unfold ERow at hq3
   obtain ⟨aq, cq, rfl⟩ := row_form hq3
   have Hq3 := hid hq3
   have Hx3 := hid (HVx.out.trans hx3)
   have Hr3 := hid (own_ext HrV.out hx3)
   have Hx23 := hid ((Hx.out.trans (show Ext wr V by rw [HVe.out]; exact (Ext.refl _).alloc _)).trans hx3)
   have hl6 : E.length + q.length ≤ 1000000 := by omega
   clear HC hq3 hx3 m0 m1 m2 m3 m4 d0 d1 d2 q0 q1 q2 q3 q4
   go_wp2_with (at_builtin; refine wpList_append_src w2.heap.size Hx23.out.size 55 62 (.agg #[.int .i64 0, .int .i64 0]) 2 16 Tryz.underlying55 edge_info rfl (by omega) (by omega) rfl _ _ rfl (.slice a9 E.length c9) E.length (E.flatMap eCells) rfl Hr3.out aq q.length cq (q.flatMap eCells) rfl (own_src Hq3.out eCells_one) hl6 ?_; intro v' w' h1 h2 h4; obtain ⟨a', c', rfl⟩ := row_form h1; have h3 := hid (Keep.new Hx23.out h2 (fun b e => (World.ownsRow.lt Hr3.out b e).1)); have h1 := hid h1; clear h2 h4)
   go_roundw
   case rel => exact ⟨k + 1, E ++ q, by go_num, by omega, Hn.out.symm, by rw [List.length_append, List.flatMap_append]; exact h1.out, h3.out⟩
   case measure => simp [intOf]; omega
  ·obtain rfl : k = P.stmts.length := by omega
   have HE0 : Hid (E = P.edges0 has) := hid HE.out
   have hin : ∀ e ∈ E, InE e := fun e he => by
    rw [HE0.out] at he
    have hi := edges0_in Hw.out Hs.out e he
    have hn := nodesV_le P Hw.out
    unfold PP.InN at hi
    unfold InE
    omega
   have Hin := hid hin
   have HD := hid (edel_same (fun e => decide (e.1 = e.2)) (.slice a9 E.length c9) E w2 wr w2.heap.size Hx.out (Nat.le_refl _) Hr.out (fun n w1 _ => consedgesc1_any n w1) (by omega))
   have HS := fun lv l w3 (hin : ∀ e ∈ l, InE e) (x : Ext w2 w3) (hr : ERow w2.heap.size w3 lv l) (hf : l.length ≤ 100000) => hid (esort_any lv l hin w2 w3 w2.heap.size x (Nat.le_refl _) hr hf)
   have HC := fun lv l w3 (x : Ext w2 w3) (hr : ERow w2.heap.size w3 lv l) (hf : l.length ≤ 100000) => hid (ecompact_any lv l w2 w3 w2.heap.size x (Nat.le_refl _) hr hf)
   clear HRe hin
   go_wp2_with fail
   refine HD.out.mono ?_
   intro e w3 hx
   obtain ⟨v3, rfl, hr3, hx3⟩ := hx
   obtain ⟨a3', c3', hv3⟩ := row_form hr3
   subst hv3
   obtain ⟨E3, hE3⟩ : ∃ E3, E3 = E.filter (fun x => !(decide (x.1 = x.2))) := ⟨_, rfl⟩
   have h3l : E3.length ≤ E.length := by rw [hE3]; exact List.length_filter_le _ _
   rw [← hE3] at hr3 ⊢
   have HE3 := hid hE3
   have HS3 := HS _ E3 w3 (fun e he => by rw [hE3] at he; exact Hin.out e (List.mem_filter.1 he).1) hx3 hr3 (by omega)
   clear HD HS hr3 hx3 hE3
   go_wp2_with fail
   refine HS3.out.mono ?_
   intro e w4 hx
   obtain ⟨rfl, E4, hr4, h4l, hm4, hp4, hx4⟩ := hx
   have HC4 := HC (.slice a3' E3.length c3') E4 w4 hx4 (by rw [← h4l] at hr4 ⊢; exact hr4) (by omega)
   have Hfin : Hid (EdgesAre P has (Lib.compact E4)) := hid (by
    obtain ⟨g1, g2⟩ := compactP E4 hp4
    refine ⟨g2, fun e => ?_⟩
    rw [g1, hm4, HE3.out, List.mem_filter, ← HE0.out]
    simp)
   have hcl := compactE_len E4
   have Hcl : Hid ((Lib.compact E4).length ≤ 50000) := hid (by omega)
   clear HS3 HC hr4 hm4 hp4 hx4 hcl
   go_wp2_with fail
   refine HC4.out.mono ?_
   intro e w5 hx
   obtain ⟨v5, rfl, hr5, hx5⟩ := hx
   obtain ⟨a5, c5, hv5⟩ := row_form hr5
   subst hv5
   have Hr5 := hid hr5
   have Hx5 := hid (HX.out.trans (Hx2.out.trans hx5))
   clear HC4 hr5 hx5
   go_wp2
   go_ret2
   exact ⟨_, _, rfl, Hr5.out.low (HX.out.trans Hx2.out).size, Hfin.out, Hcl.out, Hx5.out⟩
theorem sethas_any (v : Value) (l : List Int) (s : Int) (w : World) (n0 : Nat) (h : IntsR w n0 v l) : Calls Tryz.prog 25 #[v, .int .i64 s] w fun e w' => e = .returned (.bool (decide (s ∈ l))) ∧ w = w' := by
 have H := hid (containsi_any v l s w n0 h)
 obtain ⟨a, cap, rfl, _⟩ := h
 go_enter Tryz.func25, Tryz.ntmps25
 go_wp2_with fail
 refine H.out.mono ?_
 intro e w1 hx
 obtain ⟨rfl, rfl⟩ := hx
 clear H
 go_wp2
 go_ret
 exact ⟨rfl, rfl⟩
theorem rule_a_in {P : PP} (hw : P.Well) {k : Nat} (hk : k < P.stmts.length) : 0 ≤ (P.ruleV k (P.stAt k)).a ∧ (P.ruleV k (P.stAt k)).a < P.vars.length := by
 have h0 := hw.2 k (P.stAt k) hk (stAt_some hk)
 have hg := PP.good h0
 obtain ⟨x, hx⟩ : ∃ x, x = P.stAt k := ⟨_, rfl⟩
 rw [← hx] at h0 hg ⊢
 unfold PP.ruleV
 cases h1 : x.isK kAddr with
 | true => exact hg.gx
 | false =>
  cases h2 : x.isK kNew with
  | true => exact hg.gx
  | false =>
   cases h3 : x.isK kFun with
   | true => exact hg.gx
   | false =>
    have hy := hg.yv h3 h2
    cases h4 : x.isK kCall with
    | true => exact hy
    | false => exact hy
def fEdge (f : PF) (r : RV) (a b : Int) : Bool := decide (f.params.length = r.args.length) && ((decide (a = f.ret) && decide (b = r.b)) || (List.range f.params.length).any fun i => decide (a = r.args.getD i 0) && decide (b = f.params.getD i 0))
def PP.isE (P : PP) (r : RV) (has : List (List Int)) (a b : Int) : Bool :=
 bif r.kind.toList == kCopy then decide (a = r.a) && decide (b = r.b) else
 bif r.kind.toList == kLoad then decide (b = r.b) && (decide (a < (P.nodesV : Int)) && decide (a ∈ has.getD r.a.toNat [])) else
 bif r.kind.toList == kStore then decide (a = r.a) && (decide (b < (P.nodesV : Int)) && decide (b ∈ has.getD r.b.toNat [])) else
 bif r.kind.toList == kCall then (List.range P.funs.length).any fun f => decide ((P.nodesV : Int) + f ∈ has.getD r.a.toNat []) && fEdge (P.funs.getD f ⟨⟨#[]⟩, [], 0⟩) r a b else false
theorem fEdge_iff (f : PF) (r : RV) (a b : Int) : fEdge f r a b = true ↔ (a, b) ∈ calledV f r := by
 unfold fEdge calledV
 by_cases hl : f.params.length = r.args.length
 ·rw [decide_eq_true hl, Bool.true_and, if_pos hl, List.mem_cons, Bool.or_eq_true, Bool.and_eq_true, decide_eq_true_iff, decide_eq_true_iff, Prod.mk.injEq]
  refine or_congr Iff.rfl ?_
  rw [List.any_eq_true]
  constructor
  ·rintro ⟨i, hi, h⟩
   have hi := List.mem_range.1 hi
   rw [Bool.and_eq_true, decide_eq_true_iff, decide_eq_true_iff] at h
   refine List.mem_iff_getElem?.2 ⟨i, List.getElem?_zip_eq_some.2 ⟨?_, ?_⟩⟩
   ·rw [h.1, List.getD_eq_getElem?_getD, List.getElem?_eq_getElem (show i < r.args.length by omega)]; rfl
   ·rw [h.2, List.getD_eq_getElem?_getD, List.getElem?_eq_getElem hi]; rfl
  ·intro h
   obtain ⟨i, hi⟩ := List.mem_iff_getElem?.1 h
   obtain ⟨h1, h2⟩ := List.getElem?_zip_eq_some.1 hi
   have hil : i < f.params.length := by
    rcases Nat.lt_or_ge i f.params.length with g | g
    ·exact g
    ·rw [List.getElem?_eq_none g] at h2; cases h2
   refine ⟨i, List.mem_range.2 hil, ?_⟩
   rw [List.getD_eq_getElem?_getD, List.getD_eq_getElem?_getD, h1, h2]
   simp
 ·rw [decide_eq_false hl, Bool.false_and, if_neg hl]
  simp
theorem isE_iff {P : PP} (r : RV) (has : List (List Int)) (a b : Int) : P.isE r has a b = true ↔ (a, b) ∈ P.redges r has := by
 unfold PP.isE PP.redges
 cases r.kind.toList == kCopy
 ·cases r.kind.toList == kLoad
  ·cases r.kind.toList == kStore
   ·cases r.kind.toList == kCall
    ·simp
    ·simp only [cond_true, cond_false]
     rw [List.any_eq_true, List.mem_flatMap]
     constructor
     ·rintro ⟨f, hf, h⟩
      have hf := List.mem_range.1 hf
      rw [Bool.and_eq_true, decide_eq_true_iff, fEdge_iff] at h
      refine ⟨_, h.1, ?_⟩
      unfold PP.callsOf
      have e : P.funV ((P.nodesV : Int) + f) = (f : Int) := by unfold PP.funV; rw [if_pos (by omega)]; omega
      rw [e, if_pos (by omega)]
      exact h.2
     ·rintro ⟨o, ho, h⟩
      unfold PP.callsOf at h
      by_cases hF : 0 ≤ P.funV o
      ·rw [if_pos hF] at h
       have hlt := funV_lt hF
       refine ⟨(P.funV o).toNat, List.mem_range.2 (by omega), ?_⟩
       rw [Bool.and_eq_true, decide_eq_true_iff, fEdge_iff]
       refine ⟨?_, h⟩
       have e : (P.nodesV : Int) + ((P.funV o).toNat : Nat) = o := by
        rw [Int.toNat_of_nonneg hF]
        unfold PP.funV at hF ⊢
        by_cases hc : 0 ≤ o - (P.nodesV : Int) ∧ o - (P.nodesV : Int) < P.funs.length
        ·rw [if_pos hc]; omega
        ·rw [if_neg hc] at hF; omega
       rw [e]
       exact ho
      ·rw [if_neg hF] at h
       cases h
   ·simp only [cond_true, cond_false]
    rw [List.mem_map]
    constructor
    ·intro h
     simp only [Bool.and_eq_true, decide_eq_true_iff] at h
     refine ⟨b, ?_, by rw [h.1]⟩
     unfold PP.nodesOf
     exact List.mem_filter.2 ⟨h.2.2, by simp; exact h.2.1⟩
    ·rintro ⟨o, ho, h⟩
     unfold PP.nodesOf at ho
     obtain ⟨h1, h2⟩ := List.mem_filter.1 ho
     simp only [Prod.mk.injEq] at h
     obtain ⟨rfl, rfl⟩ := h
     simp at h2
     exact Bool.and_eq_true_iff.2 ⟨decide_eq_true rfl, Bool.and_eq_true_iff.2 ⟨decide_eq_true h2, decide_eq_true h1⟩⟩
  ·simp only [cond_true, cond_false]
   rw [List.mem_map]
   constructor
   ·intro h
    simp only [Bool.and_eq_true, decide_eq_true_iff] at h
    refine ⟨a, ?_, by rw [h.1]⟩
    unfold PP.nodesOf
    exact List.mem_filter.2 ⟨h.2.2, by simp; exact h.2.1⟩
   ·rintro ⟨o, ho, h⟩
    unfold PP.nodesOf at ho
    obtain ⟨h1, h2⟩ := List.mem_filter.1 ho
    simp only [Prod.mk.injEq] at h
    obtain ⟨rfl, rfl⟩ := h
    simp at h2
    exact Bool.and_eq_true_iff.2 ⟨decide_eq_true rfl, Bool.and_eq_true_iff.2 ⟨decide_eq_true h2, decide_eq_true h1⟩⟩
 ·simp only [cond_true, List.mem_singleton, Prod.mk.injEq, Bool.and_eq_true, decide_eq_true_iff]
def PP.rulesE (P : PP) : List RV := P.rulesV.filter fun r => !(r.kind.toList == bBase.toList)
def PP.edgeB (P : PP) (has : List (List Int)) (a b : Int) : Bool := decide (a ≠ b) && P.rulesE.any fun r => P.isE r has a b
theorem edgeB_iff {P : PP} {has : List (List Int)} {a b : Int} : P.edgeB has a b = true ↔ (a, b) ∈ P.edges0 has ∧ a ≠ b := by
 unfold PP.edgeB PP.rulesE PP.edges0
 rw [Bool.and_eq_true, decide_eq_true_iff, List.any_eq_true, List.mem_flatMap, and_comm]
 refine and_congr ⟨fun ⟨r, hr, h⟩ => ⟨r, (List.mem_filter.1 hr).1, (isE_iff r has a b).1 h⟩, fun ⟨r, hr, h⟩ => ⟨r, List.mem_filter.2 ⟨hr, ?_⟩, (isE_iff r has a b).2 h⟩⟩ Iff.rfl
 cases hb : r.kind.toList == bBase.toList with
 | false => rfl
 | true =>
  have e := eq_of_beq hb
  have hn : P.redges r has = [] := by
   have e2 := eq_of_beq bBase_list
   unfold PP.redges kCopy kLoad kStore kCall
   rw [e, e2]; rfl
  rw [hn] at h
  cases h
def PP.rowE (P : PP) (has : List (List Int)) (a n : Nat) : List (Int × Int) := ((List.range n).filter fun b : Nat => P.edgeB has (a : Int) (b : Int)).map fun b : Nat => ((a : Int), (b : Int))
def PP.refE (P : PP) (has : List (List Int)) (n : Nat) : List (Int × Int) := (List.range n).flatMap fun a => P.rowE has a P.nodesV
theorem mem_rowE {P : PP} {has : List (List Int)} {a n : Nat} {e : Int × Int} : e ∈ P.rowE has a n ↔ ∃ b : Nat, b < n ∧ e = ((a : Int), (b : Int)) ∧ P.edgeB has a b = true := by
 unfold PP.rowE
 rw [List.mem_map]
 constructor
 ·rintro ⟨b, hb, rfl⟩
  obtain ⟨h1, h2⟩ := List.mem_filter.1 hb
  exact ⟨b, List.mem_range.1 h1, rfl, h2⟩
 ·rintro ⟨b, hb, rfl, h⟩
  exact ⟨b, List.mem_filter.2 ⟨List.mem_range.2 hb, h⟩, rfl⟩
theorem rowE_srt (P : PP) (has : List (List Int)) (a n : Nat) : SrtP (P.rowE has a n) := by
 unfold PP.rowE SrtP
 rw [List.pairwise_map]
 refine List.Pairwise.imp (R := (· < ·)) (fun h => .inr ⟨rfl, by simp only; omega⟩) ?_
 exact List.Pairwise.sublist List.filter_sublist List.pairwise_lt_range
theorem refE_srt (P : PP) (has : List (List Int)) : ∀ n, SrtP (P.refE has n)
 | 0 => List.Pairwise.nil
 | n + 1 => by
  unfold PP.refE
  rw [List.range_succ, List.flatMap_append]
  refine List.pairwise_append.2 ⟨refE_srt P has n, by simpa using rowE_srt P has n P.nodesV, fun x hx y hy => ?_⟩
  obtain ⟨a, ha, hxa⟩ := List.mem_flatMap.1 hx
  obtain ⟨b, _, rfl, _⟩ := mem_rowE.1 hxa
  have hy' : y ∈ P.rowE has n P.nodesV := by simpa using hy
  obtain ⟨c, _, rfl, _⟩ := mem_rowE.1 hy'
  have := List.mem_range.1 ha
  exact .inl (by show (a : Int) < n; omega)
theorem refE_are {P : PP} (hw : P.Well) {has : List (List Int)} (hs : SetsOk P has) : EdgesAre P has (P.refE has P.nodesV) := by
 refine ⟨refE_srt P has _, fun e => ?_⟩
 obtain ⟨x, y⟩ := e
 unfold PP.refE
 rw [List.mem_flatMap]
 constructor
 ·rintro ⟨a, _, h⟩
  obtain ⟨b, _, e, h2⟩ := mem_rowE.1 h
  simp only [Prod.mk.injEq] at e
  obtain ⟨rfl, rfl⟩ := e
  exact edgeB_iff.1 h2
 ·rintro ⟨h, hne⟩
  obtain ⟨h1, h2, h3, h4⟩ := edges0_in hw hs _ h
  obtain ⟨a, rfl⟩ := Int.eq_ofNat_of_zero_le h1
  obtain ⟨b, rfl⟩ := Int.eq_ofNat_of_zero_le h3
  exact ⟨a, List.mem_range.2 (by simp only at h2; omega), mem_rowE.2 ⟨b, by simp only at h4; omega, rfl, edgeB_iff.2 ⟨h, hne⟩⟩⟩
def PP.edgesL (P : PP) (has : List (List Int)) : List (Int × Int) := P.refE has P.nodesV
def PP.GoodS (P : PP) (has : List (List Int)) : Prop := P.Well ∧ has.length = P.nodesV ∧ ∀ l ∈ has, P.setE l = 0
theorem PP.GoodS.ok {P : PP} {has : List (List Int)} (h : P.GoodS has) : SetsOk P has := SetsOk.of h.2.1 h.2.2
theorem edgesL_are {P : PP} {has : List (List Int)} (h : P.GoodS has) : EdgesAre P has (P.edgesL has) := refE_are h.1 h.ok
theorem edgesL_len {P : PP} (hw : P.Well) (has : List (List Int)) : (P.edgesL has).length ≤ 50000 := by
 have hn := nodesV_le P hw
 have h1 := flatMap_len (fun a => P.rowE has a P.nodesV) 120 (List.range P.nodesV) fun a _ => by
  unfold PP.rowE
  rw [List.length_map]
  have := List.length_filter_le (fun b : Nat => P.edgeB has (a : Int) (b : Int)) (List.range P.nodesV)
  rw [List.length_range] at this
  omega
 rw [List.length_range] at h1
 unfold PP.edgesL PP.refE
 omega
theorem edges_fix (a1 a2 a3 : Option Addr) (c1 c2 c3 : Nat) (P : PP) (hv : Value) (has : List (List Int)) (w : World) (ad : Nat → Addr) (h : PW w w.heap.size ad a1 a2 a3 c1 c2 c3 P) (hS : ErrS w ad) (hh : SetsR w w.heap.size hv has) (hg : P.GoodS has) :
  Calls Tryz.prog 21 #[pval a1 a2 a3 c1 c2 c3 P, hv] w fun e w' => ∃ a c, e = .returned (.tuple #[.slice a (P.edgesL has).length c, .nilIface]) ∧ ERow w.heap.size w' (.slice a (P.edgesL has).length c) (P.edgesL has) ∧ (P.edgesL has).length ≤ 50000 ∧ Ext w w' :=
 (consedges_ok a1 a2 a3 c1 c2 c3 P hv has w w.heap.size ad h hS hh hg.2.1 hg.2.2 (Nat.le_refl _)).mono fun e w' ⟨v, l, he, hr, hA, hl, hx⟩ => by
  obtain rfl := hA.uniq (edgesL_are hg)
  obtain ⟨a, c, rfl⟩ := row_form hr
  exact ⟨a, c, he, hr, hl, hx⟩
structure PS0 (w : World) (n0 : Nat) (ad : Nat → Addr) (a1 a2 a3 : Option Addr) (c1 c2 c3 : Nat) (P : PP) : Prop where
 errs : ErrsP w ad
 prog : ProgR w n0 (.slice a1 P.vars.length c1) (.slice a2 P.funs.length c2) (.slice a3 P.stmts.length c3) P
 z1 : ∀ s ∈ P.vars, s.size ≤ 1000000
 z2 : ∀ s ∈ P.names, s.size ≤ 1000000
theorem PS0.ext {w w' : World} {n0 : Nat} {ad : Nat → Addr} {a1 a2 a3 : Option Addr} {c1 c2 c3 : Nat} {P : PP} (h : PS0 w n0 ad a1 a2 a3 c1 c2 c3 P) (x : Ext w w') : PS0 w' w'.heap.size ad a1 a2 a3 c1 c2 c3 P → PS0 w' w'.heap.size ad a1 a2 a3 c1 c2 c3 P := id
theorem PS0.on {w w' : World} {n0 : Nat} {ad : Nat → Addr} {a1 a2 a3 : Option Addr} {c1 c2 c3 : Nat} {P : PP} (h : PS0 w n0 ad a1 a2 a3 c1 c2 c3 P) (hn : n0 ≤ w.heap.size) (x : Ext w w') : PS0 w' w'.heap.size ad a1 a2 a3 c1 c2 c3 P := ⟨h.errs.ext x, (h.prog.ext x).lift (Nat.le_trans hn x.size), h.z1, h.z2⟩
theorem PS0.pw {w : World} {n0 : Nat} {ad : Nat → Addr} {a1 a2 a3 : Option Addr} {c1 c2 c3 : Nat} {P : PP} (h : PS0 w n0 ad a1 a2 a3 c1 c2 c3 P) (hw : P.Well) : PW w n0 ad a1 a2 a3 c1 c2 c3 P := ⟨h.errs, h.prog, h.z1, h.z2, hw⟩
def ruledP : PP := ⟨[⟨#[97]⟩, ⟨#[98]⟩], [], [⟨⟨#[99, 111, 112, 121]⟩, 0, 1, []⟩]⟩
def ruledS : Array Value := #[.string ⟨#[99, 111, 112, 121]⟩, .int .i64 0, .int .i64 1, .slice none 0 0]
theorem setE_of {P : PP} {l : List Int} (h : chkE l = 0) (hx : ∀ x ∈ l, x < (P.objectsV : Int)) : P.setE l = 0 := by
 unfold PP.setE
 rw [if_pos h, if_neg]
 rintro ⟨h1, h2⟩
 rw [List.getD_eq_getElem?_getD, List.getElem?_eq_getElem (show l.length - 1 < l.length by omega), Option.getD_some] at h2
 have := hx _ (List.getElem_mem (show l.length - 1 < l.length by omega))
 omega
theorem objects_few {P : PP} (hw : P.Well) : P.objectsV ≤ 126 := by
 have h1 := hw.few
 have h2 := nodesV_le P hw
 unfold PP.objectsV
 omega
theorem Made.set {w : World} {base g cap : Nat} {vs : List Value} {L : List (List Int)} {n : Nat} {v : Value} {l : List Int} (hr : w.ownsRow base 43 1 (.slice (some ⟨g, 0, none⟩) L.length cap) L.length vs) (hm : Made w vs L) (hv : IntsT w v l) (hn : n < L.length) :
  SetsR (w.setCell ⟨g, n, none⟩ v) (w.setCell ⟨g, n, none⟩ v).heap.size (.slice (some ⟨g, 0, none⟩) (L.set n l).length cap) (L.set n l) := by
 have k : Keep (fun q => q = g) w (w.setCell ⟨g, n, none⟩ v) := Keep.set (X := fun q => q = g) (Keep.refl _ _) rfl _
 have hni : ∀ b, b = g → ¬ IsInt w b := fun b e => by
  subst e
  obtain ⟨c, hc⟩ := own_ty hr (k := b) rfl
  exact notInt hc (by decide)
 have hvs := hm.1
 have h2 := own_set hr n (by omega) v
 rw [show L.length = (L.set n l).length from List.length_set.symm] at h2
 refine SetsR.made h2 ⟨by rw [List.length_set, List.length_set]; exact hvs, fun i u m hu hl => ?_⟩
 by_cases hi : n = i
 ·subst hi
  rw [List.getElem?_set_self (by omega)] at hu hl
  obtain rfl := Option.some.inj hu
  obtain rfl := Option.some.inj hl
  exact hv.keep k hni
 ·rw [List.getElem?_set_ne hi] at hu hl
  exact (hm.2 i u m hu hl).keep k hni
theorem IntsT.row {w : World} {base : Nat} {v : Value} {l : List Int} (h : IRow base w v l) : IntsT w v l := IntsT.of_row h
def Ahead (a b : List (Int × Int)) (i k : Nat) : Prop := ∀ x, a[i]? = some x → ∃ j, k ≤ j ∧ b[j]? = some x
theorem Ahead.zero {a b : List (Int × Int)} (h : ∀ e, e ∈ a → e ∈ b) : Ahead a b 0 0 := fun x hx => by
 obtain ⟨j, hj⟩ := List.mem_iff_getElem?.1 (h x (List.mem_of_getElem? hx))
 exact ⟨j, Nat.zero_le _, hj⟩
theorem Ahead.skip {a b : List (Int × Int)} {i k : Nat} {x y : Int × Int} (h : Ahead a b i k) (hx : a[i]? = some x) (hy : b[k]? = some y) (hne : y ≠ x) : Ahead a b i (k + 1) := fun z hz => by
 obtain rfl := Option.some.inj (hx.symm.trans hz)
 obtain ⟨j, hj, hb⟩ := h x hx
 refine ⟨j, ?_, hb⟩
 rcases Nat.lt_or_ge k j with g | g
 ·exact g
 ·obtain rfl : j = k := by omega
  exact absurd (Option.some.inj (hy.symm.trans hb)) hne
theorem Ahead.next {a b : List (Int × Int)} (ha : SrtP a) (hb : SrtP b) (hs : ∀ e, e ∈ a → e ∈ b) {i k : Nat} {x : Int × Int} (hx : a[i]? = some x) (hy : b[k]? = some x) : Ahead a b (i + 1) k := fun z hz => by
 obtain ⟨j, hj⟩ := List.mem_iff_getElem?.1 (hs z (List.mem_of_getElem? hz))
 exact ⟨j, Nat.le_of_lt (srtP_idx hb hy hj (srtP_next ha hx hz)), hj⟩
theorem Ahead.found {a b : List (Int × Int)} {i k : Nat} {x : Int × Int} (h : Ahead a b i k) (hx : a[i]? = some x) : k < b.length := by
 obtain ⟨j, hj, hb⟩ := h x hx
 rcases Nat.lt_or_ge j b.length with g | g
 ·omega
 ·rw [List.getElem?_eq_none g] at hb; cases hb
def PP.baseAt (P : PP) (j : Nat) (n : Nat) (x : Int) : Prop := (P.ruleV j (P.stAt j)).kind.toList = bBase.toList ∧ (P.ruleV j (P.stAt j)).a = (n : Int) ∧ (P.ruleV j (P.stAt j)).b = x
structure RoundAt (P : PP) (has : List (List Int)) (EL : List (Int × Int)) (k m : Nat) (S : List (List Int)) : Prop where
 len : S.length = has.length
 ok : ∀ l ∈ S, chkE l = 0
 mem : ∀ n x, n < has.length → (x ∈ S.getD n [] ↔ x ∈ has.getD n [] ∨ (∃ j, j < k ∧ P.baseAt j n x) ∨ ∃ (i : Nat) (e : Int × Int), i < m ∧ EL[i]? = some e ∧ e.2 = (n : Int) ∧ x ∈ has.getD e.1.toNat [])
theorem getD_mem {S : List (List Int)} {n : Nat} (hn : n < S.length) : S.getD n [] ∈ S := by
 rw [List.getD_eq_getElem?_getD, List.getElem?_eq_getElem hn]
 exact List.getElem_mem hn
theorem RoundAt.start {P : PP} {has : List (List Int)} (hg : P.GoodS has) (EL : List (Int × Int)) : RoundAt P has EL 0 0 has :=
 ⟨rfl, fun l hl => (hg.ok.ok l hl).1, fun n x _ => ⟨.inl, fun h => by
  rcases h with h | ⟨j, hj, _⟩ | ⟨i, e, hi, _⟩
  ·exact h
  ·omega
  ·omega⟩⟩
theorem RoundAt.uniq {P : PP} {has : List (List Int)} {EL : List (Int × Int)} {k m : Nat} {S T : List (List Int)} (h : RoundAt P has EL k m S) (g : RoundAt P has EL k m T) : S = T := by
 refine List.ext_getElem? fun n => ?_
 by_cases hn : n < has.length
 ·have hs : n < S.length := by rw [h.len]; exact hn
  have ht : n < T.length := by rw [g.len]; exact hn
  have e : S.getD n [] = T.getD n [] := srt_uniq (chkE_zero.1 (h.ok _ (getD_mem hs))).2 (chkE_zero.1 (g.ok _ (getD_mem ht))).2 fun x => (h.mem n x hn).trans (g.mem n x hn).symm
  rw [List.getD_eq_getElem?_getD, List.getD_eq_getElem?_getD, List.getElem?_eq_getElem hs, List.getElem?_eq_getElem ht] at e
  rw [List.getElem?_eq_getElem hs, List.getElem?_eq_getElem ht]
  exact congrArg some e
 ·rw [List.getElem?_eq_none (by rw [h.len]; omega), List.getElem?_eq_none (by rw [g.len]; omega)]
theorem set_getD {S : List (List Int)} {a n : Nat} {l : List Int} (ha : a < S.length) : (S.set a l).getD n [] = if a = n then l else S.getD n [] := by
 rw [List.getD_eq_getElem?_getD, List.getElem?_set]
 by_cases h : a = n
 ·subst h; rw [if_pos rfl, if_pos ha, if_pos rfl]; rfl
 ·rw [if_neg h, if_neg h, List.getD_eq_getElem?_getD]
theorem set_ok {S : List (List Int)} {a : Nat} {l : List Int} (h : ∀ m ∈ S, chkE m = 0) (hl : chkE l = 0) : ∀ m ∈ S.set a l, chkE m = 0 := fun m hm => by
 rcases List.mem_or_eq_of_mem_set hm with h1 | h1
 ·exact h m h1
 ·rw [h1]; exact hl
theorem RoundAt.base {P : PP} {has : List (List Int)} {EL : List (Int × Int)} {k : Nat} {S : List (List Int)} (h : RoundAt P has EL k 0 S) (hb : (P.ruleV k (P.stAt k)).kind.toList = bBase.toList) {a : Nat} {b : Int} (ha : (P.ruleV k (P.stAt k)).a = (a : Int)) (hbb : (P.ruleV k (P.stAt k)).b = b) (hb1 : 0 ≤ b ∧ b < 1000) (hal : a < has.length) :
  RoundAt P has EL (k + 1) 0 (S.set a (sset (S.getD a [] ++ [b]))) := by
 have has' : a < S.length := by rw [h.len]; exact hal
 have hin : InR (S.getD a [] ++ [b]) := (chkE_zero.1 (h.ok _ (getD_mem has'))).1.app fun x hx => by obtain rfl := List.mem_singleton.1 hx; exact hb1
 refine ⟨by rw [List.length_set]; exact h.len, set_ok h.ok (chkE_sset _), fun n x hn => ?_⟩
 rw [set_getD has']
 by_cases han : a = n
 ·subst han
  rw [if_pos rfl, mem_sset hin, List.mem_append, h.mem a x hn, List.mem_singleton]
  constructor
  ·rintro ((h1 | ⟨j, hj, h1⟩ | ⟨i, e, hi, _⟩) | rfl)
   ·exact .inl h1
   ·exact .inr (.inl ⟨j, by omega, h1⟩)
   ·omega
   ·exact .inr (.inl ⟨k, by omega, hb, ha, hbb⟩)
  ·rintro (h1 | ⟨j, hj, h1⟩ | ⟨i, e, hi, _⟩)
   ·exact .inl (.inl h1)
   ·by_cases hjk : j = k
    ·subst hjk
     exact .inr (h1.2.2.symm.trans hbb)
    ·exact .inl (.inr (.inl ⟨j, by omega, h1⟩))
   ·omega
 ·rw [if_neg han, h.mem n x hn]
  refine or_congr Iff.rfl (or_congr ⟨fun ⟨j, hj, h1⟩ => ⟨j, by omega, h1⟩, fun ⟨j, hj, h1⟩ => ⟨j, ?_, h1⟩⟩ Iff.rfl)
  by_cases hjk : j = k
  ·subst hjk
   have := h1.2.1
   omega
  ·omega
theorem RoundAt.skip {P : PP} {has : List (List Int)} {EL : List (Int × Int)} {k : Nat} {S : List (List Int)} (h : RoundAt P has EL k 0 S) (hb : (P.ruleV k (P.stAt k)).kind.toList ≠ bBase.toList) : RoundAt P has EL (k + 1) 0 S :=
 ⟨h.len, h.ok, fun n x hn => (h.mem n x hn).trans (or_congr Iff.rfl (or_congr ⟨fun ⟨j, hj, h1⟩ => ⟨j, by omega, h1⟩, fun ⟨j, hj, h1⟩ => ⟨j, by
  by_cases hjk : j = k
  ·subst hjk; exact absurd h1.1 hb
  ·omega, h1⟩⟩ Iff.rfl))⟩
theorem RoundAt.edge {P : PP} {has : List (List Int)} {EL : List (Int × Int)} {k m : Nat} {S : List (List Int)} (h : RoundAt P has EL k m S) {a b : Nat} (he : EL[m]? = some ((a : Int), (b : Int))) (hok : ∀ l ∈ has, chkE l = 0) (hal : a < has.length) (hbl : b < has.length) :
  RoundAt P has EL k (m + 1) (S.set b (sset (S.getD b [] ++ has.getD a []))) := by
 have hbs : b < S.length := by rw [h.len]; exact hbl
 have hin : InR (S.getD b [] ++ has.getD a []) := (chkE_zero.1 (h.ok _ (getD_mem hbs))).1.app (chkE_zero.1 (hok _ (getD_mem hal))).1
 refine ⟨by rw [List.length_set]; exact h.len, set_ok h.ok (chkE_sset _), fun n x hn => ?_⟩
 rw [set_getD hbs]
 by_cases hbn : b = n
 ·subst hbn
  rw [if_pos rfl, mem_sset hin, List.mem_append, h.mem b x hn]
  constructor
  ·rintro ((h1 | h1 | ⟨i, e, hi, h1⟩) | h1)
   ·exact .inl h1
   ·exact .inr (.inl h1)
   ·exact .inr (.inr ⟨i, e, by omega, h1⟩)
   ·exact .inr (.inr ⟨m, _, by omega, he, rfl, h1⟩)
  ·rintro (h1 | h1 | ⟨i, e, hi, h1, h2, h3⟩)
   ·exact .inl (.inl h1)
   ·exact .inl (.inr (.inl h1))
   ·by_cases him : i = m
    ·subst him
     obtain rfl := Option.some.inj (he.symm.trans h1)
     exact .inr h3
    ·exact .inl (.inr (.inr ⟨i, e, by omega, h1, h2, h3⟩))
 ·rw [if_neg hbn, h.mem n x hn]
  refine or_congr Iff.rfl (or_congr Iff.rfl ⟨fun ⟨i, e, hi, h1⟩ => ⟨i, e, by omega, h1⟩, fun ⟨i, e, hi, h1, h2, h3⟩ => ⟨i, e, ?_, h1, h2, h3⟩⟩)
  by_cases him : i = m
  ·subst him
   obtain rfl := Option.some.inj (he.symm.trans h1)
   exact absurd (Int.ofNat_inj.1 h2) hbn
  ·omega
def PP.basesOf (P : PP) (n : Nat) : List Int := (P.rulesV.filter fun r => decide (r.kind.toList = bBase.toList) && decide (r.a = (n : Int))).map RV.b
def PP.comesTo (P : PP) (has : List (List Int)) (n : Nat) : List Int := ((P.edgesL has).filter fun e => decide (e.2 = (n : Int))).flatMap fun e => has.getD e.1.toNat []
def PP.roundV (P : PP) (has : List (List Int)) : List (List Int) := (List.range has.length).map fun n => sset (has.getD n [] ++ (P.basesOf n ++ P.comesTo has n))
theorem mem_rulesV {P : PP} {r : RV} : r ∈ P.rulesV ↔ ∃ j, j < P.stmts.length ∧ r = P.ruleV j (P.stAt j) := by
 unfold PP.rulesV PP.rulesUp
 rw [List.mem_map]
 exact ⟨fun ⟨j, hj, e⟩ => ⟨j, List.mem_range.1 hj, e.symm⟩, fun ⟨j, hj, e⟩ => ⟨j, List.mem_range.2 hj, e.symm⟩⟩
theorem placeV_in {P : PP} {k : Nat} (hk : k < P.stmts.length) (hn : P.isNew k = true) : 0 ≤ P.placeV (k : Int) ∧ P.placeV (k : Int) < (P.nodesV : Int) := by
 have h1 : P.newsN (k + 1) = P.newsN k + 1 := by rw [PP.newsN_succ, hn]; rfl
 have h2 : ∀ d, P.newsN (k + 1) ≤ P.newsN (k + 1 + d) := fun d => by
  induction d with
  | zero => exact Nat.le_refl _
  | succ d ih =>
   have h5 := P.newsN_succ (k + 1 + d)
   rw [show k + 1 + (d + 1) = (k + 1 + d) + 1 from rfl]
   split at h5 <;> omega
 have h3 := h2 (P.stmts.length - (k + 1))
 rw [show k + 1 + (P.stmts.length - (k + 1)) = P.stmts.length by omega] at h3
 unfold PP.placeV PP.nodesV
 rw [if_pos ⟨by omega, by omega, by rw [Int.toNat_natCast]; exact hn⟩, Int.toNat_natCast]
 omega
theorem base_b_in {P : PP} (hw : P.Well) {k : Nat} (hk : k < P.stmts.length) (hb : (P.ruleV k (P.stAt k)).kind.toList = bBase.toList) : 0 ≤ (P.ruleV k (P.stAt k)).b ∧ (P.ruleV k (P.stAt k)).b < (P.objectsV : Int) := by
 have h0 := hw.2 k (P.stAt k) hk (stAt_some hk)
 have hg := PP.good h0
 have hnv := nodes_vars P
 have hob : P.objectsV = P.nodesV + P.funs.length := rfl
 have hnew : (P.stAt k).isK kNew = true → P.isNew k = true := fun h => by unfold PP.isNew; rw [stAt_some hk]; exact h
 obtain ⟨x, hx⟩ : ∃ x, x = P.stAt k := ⟨_, rfl⟩
 rw [← hx] at h0 hg hb hnew ⊢
 have hbl := eq_of_beq bBase_list
 rcases kind_cases h0 with g | g | g | g | g | g | g
 ·have e : P.ruleV k x = ⟨bBase, x.x, x.y, k, []⟩ := by unfold PP.ruleV; rw [g]; rfl
  have hy := hg.yv (isK_ne g (k' := kFun) rfl) (isK_ne g (k' := kNew) rfl)
  rw [e]
  exact ⟨hy.1, by show x.y < _; omega⟩
 ·have e : P.ruleV k x = ⟨x.kind, x.y, x.x, k, []⟩ := by unfold PP.ruleV; rw [isK_ne g (k' := kAddr) rfl, isK_ne g (k' := kNew) rfl, isK_ne g (k' := kFun) rfl, isK_ne g (k' := kCall) rfl]; rfl
  rw [e, hbl] at hb
  have hk' : x.kind.toList = kCopy := eq_of_beq g
  rw [show x.kind.toList = [98, 97, 115, 101] from hb] at hk'
  exact absurd hk' (by decide)
 ·have e : P.ruleV k x = ⟨x.kind, x.y, x.x, k, []⟩ := by unfold PP.ruleV; rw [isK_ne g (k' := kAddr) rfl, isK_ne g (k' := kNew) rfl, isK_ne g (k' := kFun) rfl, isK_ne g (k' := kCall) rfl]; rfl
  rw [e, hbl] at hb
  have hk' : x.kind.toList = kLoad := eq_of_beq g
  rw [show x.kind.toList = [98, 97, 115, 101] from hb] at hk'
  exact absurd hk' (by decide)
 ·have e : P.ruleV k x = ⟨x.kind, x.y, x.x, k, []⟩ := by unfold PP.ruleV; rw [isK_ne g (k' := kAddr) rfl, isK_ne g (k' := kNew) rfl, isK_ne g (k' := kFun) rfl, isK_ne g (k' := kCall) rfl]; rfl
  rw [e, hbl] at hb
  have hk' : x.kind.toList = kStore := eq_of_beq g
  rw [show x.kind.toList = [98, 97, 115, 101] from hb] at hk'
  exact absurd hk' (by decide)
 ·have e : P.ruleV k x = ⟨bBase, x.x, P.placeV k, k, []⟩ := by unfold PP.ruleV; rw [isK_ne g (k' := kAddr) rfl, g]; rfl
  have hp := placeV_in hk (hnew g)
  rw [e]
  exact ⟨hp.1, by show P.placeV k < _; omega⟩
 ·have e : P.ruleV k x = ⟨bBase, x.x, (P.nodesV : Int) + x.y, k, []⟩ := by unfold PP.ruleV; rw [isK_ne g (k' := kAddr) rfl, isK_ne g (k' := kNew) rfl, g]; rfl
  have hy := hg.yf g
  rw [e]
  exact ⟨by show 0 ≤ (P.nodesV : Int) + x.y; omega, by show (P.nodesV : Int) + x.y < _; omega⟩
 ·have e : P.ruleV k x = ⟨bCall, x.y, x.x, k, x.args⟩ := by unfold PP.ruleV; rw [isK_ne g (k' := kAddr) rfl, isK_ne g (k' := kNew) rfl, isK_ne g (k' := kFun) rfl, g]; rfl
  rw [e, hbl, show (RV.mk bCall x.y x.x k x.args).kind.toList = [99, 97, 108, 108] from eq_of_beq bCall_list] at hb
  exact absurd hb (by decide)
theorem mem_basesOf {P : PP} {n : Nat} {x : Int} : x ∈ P.basesOf n ↔ ∃ j, j < P.stmts.length ∧ P.baseAt j n x := by
 unfold PP.basesOf
 rw [List.mem_map]
 constructor
 ·rintro ⟨r, hr, rfl⟩
  obtain ⟨h1, h2⟩ := List.mem_filter.1 hr
  obtain ⟨j, hj, rfl⟩ := mem_rulesV.1 h1
  rw [Bool.and_eq_true, decide_eq_true_iff, decide_eq_true_iff] at h2
  exact ⟨j, hj, h2.1, h2.2, rfl⟩
 ·rintro ⟨j, hj, h1, h2, h3⟩
  exact ⟨_, List.mem_filter.2 ⟨mem_rulesV.2 ⟨j, hj, rfl⟩, by rw [Bool.and_eq_true, decide_eq_true_iff, decide_eq_true_iff]; exact ⟨h1, h2⟩⟩, h3⟩
theorem mem_comesTo {P : PP} {has : List (List Int)} {n : Nat} {x : Int} : x ∈ P.comesTo has n ↔ ∃ (i : Nat) (e : Int × Int), i < (P.edgesL has).length ∧ (P.edgesL has)[i]? = some e ∧ e.2 = (n : Int) ∧ x ∈ has.getD e.1.toNat [] := by
 unfold PP.comesTo
 rw [List.mem_flatMap]
 constructor
 ·rintro ⟨e, he, hx⟩
  obtain ⟨h1, h2⟩ := List.mem_filter.1 he
  obtain ⟨i, hi⟩ := List.mem_iff_getElem?.1 h1
  have hil : i < (P.edgesL has).length := by
   rcases Nat.lt_or_ge i (P.edgesL has).length with h | h
   ·exact h
   ·rw [List.getElem?_eq_none h] at hi; cases hi
  exact ⟨i, e, hil, hi, of_decide_eq_true h2, hx⟩
 ·rintro ⟨i, e, _, hi, h2, hx⟩
  exact ⟨e, List.mem_filter.2 ⟨List.mem_of_getElem? hi, decide_eq_true h2⟩, hx⟩
theorem getD_in {P : PP} {has : List (List Int)} (hs : SetsOk P has) (i : Nat) (x : Int) (hx : x ∈ has.getD i []) : 0 ≤ x ∧ x < (P.objectsV : Int) := by
 rw [List.getD_eq_getElem?_getD] at hx
 cases he : has[i]? with
 | none => rw [he] at hx; cases hx
 | some l =>
  rw [he] at hx
  have hm := List.mem_of_getElem? he
  exact ⟨(hs.inr l hm x hx).1, (hs.ok l hm).2 x hx⟩
theorem round_all_in {P : PP} {has : List (List Int)} (hg : P.GoodS has) (n : Nat) : ∀ x ∈ has.getD n [] ++ (P.basesOf n ++ P.comesTo has n), 0 ≤ x ∧ x < (P.objectsV : Int) := fun x hx => by
 rcases List.mem_append.1 hx with h | h
 ·exact getD_in hg.ok n x h
 ·rcases List.mem_append.1 h with h | h
  ·obtain ⟨j, hj, h1, _, h3⟩ := mem_basesOf.1 h
   have := base_b_in hg.1 hj h1
   rw [h3] at this
   exact this
  ·obtain ⟨_, e, _, _, _, h4⟩ := mem_comesTo.1 h
   exact getD_in hg.ok _ x h4
theorem round_in {P : PP} {has : List (List Int)} (hg : P.GoodS has) (n : Nat) : InR (has.getD n [] ++ (P.basesOf n ++ P.comesTo has n)) := fun x hx => by
 have h1 := round_all_in hg n x hx
 have h2 := objects_few hg.1
 omega
theorem roundV_getD {P : PP} {has : List (List Int)} {n : Nat} (hn : n < has.length) : (P.roundV has).getD n [] = sset (has.getD n [] ++ (P.basesOf n ++ P.comesTo has n)) := by
 unfold PP.roundV
 rw [List.getD_eq_getElem?_getD, List.getElem?_map, List.getElem?_range hn, Option.map_some, Option.getD_some]
theorem roundV_len (P : PP) (has : List (List Int)) : (P.roundV has).length = has.length := by unfold PP.roundV; rw [List.length_map, List.length_range]
theorem mem_roundV {P : PP} {has : List (List Int)} (hg : P.GoodS has) {n : Nat} (hn : n < has.length) {x : Int} : x ∈ (P.roundV has).getD n [] ↔ x ∈ has.getD n [] ∨ (∃ j, j < P.stmts.length ∧ P.baseAt j n x) ∨ ∃ (i : Nat) (e : Int × Int), i < (P.edgesL has).length ∧ (P.edgesL has)[i]? = some e ∧ e.2 = (n : Int) ∧ x ∈ has.getD e.1.toNat [] := by
 rw [roundV_getD hn, mem_sset (round_in hg n), List.mem_append, List.mem_append, mem_basesOf, mem_comesTo]
theorem roundV_at {P : PP} {has : List (List Int)} (hg : P.GoodS has) : RoundAt P has (P.edgesL has) P.stmts.length (P.edgesL has).length (P.roundV has) := by
 refine ⟨roundV_len P has, fun l hl => ?_, fun n x hn => mem_roundV hg hn⟩
 unfold PP.roundV at hl
 obtain ⟨n, _, e⟩ := List.mem_map.1 hl
 rw [← e]
 exact chkE_sset _
theorem roundV_good {P : PP} {has : List (List Int)} (hg : P.GoodS has) : P.GoodS (P.roundV has) := by
 refine ⟨hg.1, by rw [roundV_len]; exact hg.2.1, fun l hl => ?_⟩
 unfold PP.roundV at hl
 obtain ⟨n, _, e⟩ := List.mem_map.1 hl
 rw [← e]
 exact setE_of (chkE_sset _) fun x hx => (round_all_in hg n x (mem_sset0.1 hx).1).2
end Go.Proofs.YtngdpnlgnpdkcaaGreatDoor
