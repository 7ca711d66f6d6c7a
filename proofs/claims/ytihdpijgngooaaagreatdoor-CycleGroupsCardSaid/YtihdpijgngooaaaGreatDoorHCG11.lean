/- Texts of one proof, put together: Y6 Y7 Y8 Y9 YA YP YQ. -/
import Derived.Test.YtihdpijgngooaaaGreatDoorHCG04
import Derived.Test.YtihdpijgngooaaaGreatDoorHCG10
import Derived.Lib.SlicesCompact
import Derived.Test.YtihdpijgngooaaaGreatDoorHCG01
set_option linter.unusedSimpArgs false
set_option linter.unusedVariables false
namespace Go.Proofs.YtihdpijgngooaaaGreatDoor
open Go Go.RowKit
theorem icells_set (R : List Int) (i : Nat) (y : Int) : (icells R).set i (.int .i64 y) = icells (R.set i y) := by
  unfold icells; rw [List.map_set]
theorem own_putI {w : World} {base g n cap : Nat} {e : TypeId} {R : List Int} (h : w.ownsRow base e 1 (.slice (some ⟨g, 0, none⟩) n cap) n (icells R)) (i : Nat) (hi : i < R.length) (y : Int) : (w.setCell ⟨g, i, none⟩ (.int .i64 y)).ownsRow base e 1 (.slice (some ⟨g, 0, none⟩) n cap) n (icells (R.set i y)) := by
  rw [← icells_set]
  exact own_set h i (by simpa [icells] using hi) _
theorem own_i {w : World} {base g n cap : Nat} {e : TypeId} {R : List Int} (h : w.ownsRow base e 1 (.slice (some ⟨g, 0, none⟩) n cap) n (icells R)) {i : Nat} {x : Int} (hx : R[i]? = some x) : w.cell? ⟨g, i, none⟩ = some (.int .i64 x) :=
  own_get h i (by unfold icells; rw [List.getElem?_map, hx]; rfl)
theorem filter_next {p : Int → Bool} {l : List Int} {j : Nat} {x : Int} (hx : l[j]? = some x) : (l.take (j + 1)).filter p = (l.take j).filter p ++ (if p x = true then [x] else []) := by
  rw [List.take_add_one, hx]
  simp only [Option.toList, List.filter_append, List.filter_cons, List.filter_nil]
set_option maxRecDepth 100000 in
set_option maxHeartbeats 800000 in
theorem indexfi_nodesc (b : Value) (p : Int → Bool) (v : Value) (l : List Int) (w : World) (n0 : Nat) (h : IntsR w n0 v l) (hF : ∀ n w1, Ext w w1 → Calls Tryz.prog 150 #[.int .i64 n, b] w1 fun e w' => e = .returned (.bool (p n)) ∧ Ext w1 w') :
    Calls Tryz.prog 65 #[v, .func (.func 150) #[] #[b]] w fun e w' => ∃ r : Int, e = .returned (.int .i64 r) ∧ IdxF p l r ∧ Ext w w' := by
  have HS := hid h
  have HF := hid hF
  obtain ⟨a, cap, rfl, h2, h3, h4, _⟩ := h
  have H4 := hid h4
  have hml : (l.length : Int) ≤ 9223372036854775807 := by omega
  clear h2 h3 h4 hF
  go_enter Tryz.func65, Tryz.ntmps65
  go_wp2
  go_loopw [8] (fun t8 wr => ∃ k : Nat, t8 = .int .i64 (k : Int) ∧ k ≤ l.length ∧ (∀ j t, j < k → l[j]? = some t → p t = false) ∧ Ext w wr) (fun t8 _ => l.length - (intOf t8).toNat)
  case atStart => exact ⟨0, rfl, Nat.zero_le _, fun j t h => by omega, Ext.refl _⟩
  case round =>
    obtain ⟨k, rfl, hk, hne, hx⟩ := hrel
    have Hne := hid hne
    clear hne
    by_cases hlt : k < l.length
    · obtain ⟨y, rfl⟩ := H4.out (by omega)
      have hxk : l[k]? = some (l[k]'hlt) := List.getElem?_eq_getElem hlt
      obtain ⟨t, ht⟩ : ∃ t, t = l[k]'hlt := ⟨_, rfl⟩
      rw [← ht] at hxk
      obtain ⟨a', cap', h1, _, _, _, h5⟩ := HS.out.old (hx.old n0)
      obtain ⟨rfl, rfl⟩ : some y = a' ∧ cap = cap' := by simpa using h1
      have hc := (h5 y rfl (by omega)).2 k hlt t hxk
      have HN := hid (HF.out t wr hx)
      have Hxk := hid hxk
      have Hx := hid hx
      clear hxk ht h1 h5 hx
      go_wp2_with fail
      refine HN.out.mono ?_
      intro e w1 hx1
      obtain ⟨rfl, hx1⟩ := hx1
      have Hx1 := hid (Hx.out.trans hx1)
      clear HN hx1 Hx hc
      cases he : p t with
      | true =>
        have Hin := hid (show IdxF p l (k : Int) from .inr ⟨k, t, rfl, hlt, Hxk.out, he, Hne.out⟩)
        go_wp2
        go_ret
        exact ⟨(k : Int), rfl, Hin.out, Hx1.out⟩
      | false =>
        have Hf := hid he
        clear he
        go_wp2
        go_roundw
        case rel =>
          refine ⟨k + 1, by go_num, by omega, fun j u hj hu => ?_, Hx1.out⟩
          by_cases hjk : j = k
          · subst hjk
            obtain rfl := Option.some.inj (Hxk.out.symm.trans hu)
            exact Hf.out
          · exact Hne.out j u (by omega) hu
        case measure => simp [intOf]; omega
    · obtain rfl : k = l.length := by omega
      have Hx := hid hx
      clear hx
      have Hnot := hid (show IdxF p l (-1) from .inl ⟨rfl, fun x hx => by
        obtain ⟨j, hj, e2⟩ := List.mem_iff_getElem.1 hx
        exact Hne.out j x hj (by rw [List.getElem?_eq_getElem hj, e2])⟩)
      go_wp2
      go_ret
      exact ⟨(-1 : Int), rfl, Hnot.out, Hx.out⟩
set_option maxRecDepth 100000 in
set_option maxHeartbeats 3200000 in
theorem idel_nodesc (b : Value) (p : Int → Bool) (lv : Value) (l : List Int) (w0 w : World) (n0 : Nat) (hx0 : Ext w0 w) (hb0 : w0.heap.size ≤ n0) (hr : IRow n0 w lv l) (hF : ∀ n w1, Ext w0 w1 → Calls Tryz.prog 150 #[.int .i64 n, b] w1 fun e w' => e = .returned (.bool (p n)) ∧ Ext w1 w') (hfew : l.length ≤ 100000) :
    Calls Tryz.prog 149 #[lv, .func (.func 150) #[] #[b]] w fun e w' => ∃ lv', e = .returned lv' ∧ IRow n0 w' lv' (l.filter fun x => !p x) ∧ Ext w0 w' := by
  have HI := hid (indexfi_nodesc b p lv l w w.heap.size (IntsR.own hr (Nat.le_refl _)) (fun n w1 x => hF n w1 (hx0.trans x)))
  have HF := hid hF
  obtain ⟨a, c, rfl⟩ := hr.form
  have Hr := hid hr
  have Hx0 := hid hx0
  have Hb0 := hid hb0
  clear hr hF hx0 hb0
  go_enter Tryz.func149, Tryz.ntmps149
  go_wp2_with fail
  refine HI.out.mono ?_
  intro e w1 hx
  obtain ⟨r, rfl, hidx, hx1⟩ := hx
  have Hx1 := hid (Hx0.out.trans hx1)
  have Hr1 := hid (Hr.out.ext hx1)
  clear HI hx1
  rcases hidx with ⟨rfl, hall⟩ | ⟨i0, x0, rfl, hi0, hx0, hd0, hlow⟩
  · have hf : Hid (l.filter (fun x => !p x) = l) := hid (List.filter_eq_self.2 fun x hx => by rw [hall x hx]; rfl)
    clear hall
    go_wp2
    go_ret
    exact ⟨_, rfl, by rw [hf.out]; exact Hr1.out, Hx1.out⟩
  · obtain ⟨gb, cp, he⟩ : ∃ g cap, Value.slice a l.length c = .slice (some ⟨g, 0, none⟩) l.length cap := by
      rcases Hr1.out.case with ⟨_, h⟩ | h
      · rw [h] at hi0; simp at hi0
      · exact h
    simp only [Value.slice.injEq, true_and] at he
    obtain ⟨rfl, rfl⟩ := he
    obtain ⟨_, hbase, hcap, hmx, _⟩ := Hr1.out.cur
    have hstart : l.take i0 = (l.take (i0 + 1)).filter fun x => !p x := by
      rw [filter_next hx0, hd0, List.filter_eq_self.2 fun x hx => ?_]
      · simp
      · obtain ⟨j, hj, e⟩ := List.mem_iff_getElem.1 hx
        rw [List.length_take] at hj
        rw [List.getElem_take] at e
        rw [hlow j x (by omega) (by rw [List.getElem?_eq_getElem (by omega), e])]; rfl
    have Hstart := hid hstart
    have Hbase := hid hbase
    have hmx' : (c : Int) ≤ 9223372036854775807 := by unfold maxLen at hmx; omega
    have hcl : (l.length : Int) ≤ (c : Int) := by omega
    have hi1 : ((i0 : Int) == -1) = false := beq_eq_false_iff_ne.2 (by omega)
    clear hstart hx0 hd0 hlow hbase hcap hmx
    go_wp2
    clear hi1
    go_loopw [5, 6] (fun t5 t6 wr => ∃ (i j : Nat) (R : List Int), t5 = .int .i64 (i : Int) ∧ t6 = .int .i64 (j : Int) ∧ i < j ∧ j ≤ l.length ∧ R.length = l.length ∧ R.take i = (l.take j).filter (fun x => !p x) ∧ R.drop j = l.drop j ∧
      wr.ownsRow n0 3 1 (.slice (some ⟨gb, 0, none⟩) l.length c) l.length (icells R) ∧ Ext w0 wr) (fun _ t6 _ => l.length - (intOf t6).toNat)
    case atStart => exact ⟨i0, i0 + 1, l, rfl, rfl, by omega, by omega, rfl, Hstart.out, rfl, Hr1.out, Hx1.out⟩
    case round =>
      obtain ⟨i, j, R, rfl, rfl, hij, hj, hRl, hT, hD, hrow, hx⟩ := hrel
      have HRl := hid hRl
      have HT := hid hT
      have HD := hid hD
      have Hrow := hid hrow
      have Hx := hid hx
      clear hRl hT hD Hstart hrow hx
      by_cases hlt : j < l.length
      · have hxj : R[j]? = some (l[j]'hlt) := by
          have := congrArg (fun l => l[0]?) HD.out
          simpa [List.getElem?_drop, List.getElem?_eq_getElem hlt] using this
        obtain ⟨x, hxd⟩ : ∃ x, x = l[j]'hlt := ⟨_, rfl⟩
        rw [← hxd] at hxj
        have hxk : l[j]? = some x := by rw [hxd]; exact List.getElem?_eq_getElem hlt
        have c0 := own_i Hrow.out hxj
        have HN := hid (HF.out x wr Hx.out)
        have Hxk := hid hxk
        have hji : (i : Int) < (l.length : Int) := by omega
        clear hxd hxj hxk
        go_wp2_with fail
        refine HN.out.mono ?_
        intro e w2 hx2
        obtain ⟨rfl, hx2⟩ := hx2
        have Hrow2 := hid (own_ext Hrow.out hx2)
        have Hx2 := hid (Hx.out.trans hx2)
        clear HN hx2 c0
        cases hf : p x with
        | true =>
          have Hf : Hid ((fun x => !p x) x = false) := hid (by show (!p x) = false; rw [hf]; rfl)
          clear hf
          go_wp2
          go_roundw
          case rel => exact ⟨i, j + 1, R, rfl, by go_num, by omega, by omega, HRl.out, by rw [filter_next Hxk.out, if_neg (by rw [Hf.out]; simp), HT.out]; simp, by rw [← List.drop_drop, HD.out, List.drop_drop], Hrow2.out, Hx2.out⟩
          case measure => simp [intOf]; omega
        | false =>
          have Hf : Hid ((fun x => !p x) x = true) := hid (by show (!p x) = true; rw [hf]; rfl)
          have hiR : i < R.length := by have := HRl.out; omega
          have y0 := own_i Hrow2.out (List.getElem?_eq_getElem hiR)
          have hfr := own_free Hrow2.out
          have hput := hid (own_putI Hrow2.out i hiR x)
          have hkp2 : Hid (Ext w0 (w2.setCell ⟨gb, i, none⟩ (.int .i64 x))) := hid (Keep.new Hx2.out (Keep.set (X := fun b => b = gb) (Keep.refl _ w2) rfl (.int .i64 x) : Keep (fun b => b = gb) w2 (w2.setCell ⟨gb, i, none⟩ (.int .i64 x))) fun b e => by rw [e]; exact Nat.le_trans Hb0.out Hbase.out)
          generalize hyv : R[i] = y at *
          clear hyv hf
          go_wp2
          go_roundw
          case rel => exact ⟨i + 1, j + 1, R.set i x, by go_num, by go_num, by omega, by omega, by rw [List.length_set]; exact HRl.out, by rw [take_set_succ R i x hiR, filter_next Hxk.out, if_pos Hf.out, HT.out], by rw [List.drop_set_of_lt (by omega), ← List.drop_drop, HD.out, List.drop_drop], hput.out, hkp2.out⟩
          case measure => simp [intOf]; omega
      · obtain rfl : j = l.length := by omega
        have hTf : R.take i = l.filter fun x => !p x := by rw [HT.out, List.take_length]
        have hRi : (l.filter fun x => !p x).length = i := by rw [← hTf, List.length_take, HRl.out]; omega
        obtain ⟨cu, hcu, hb0, hcap, hmx, hcs, htk⟩ := own_blk Hrow.out
        obtain ⟨ti, hi, hz0, hz1, hz2⟩ := info_parts ints_info
        have hsz : i + (l.length - i) * 1 ≤ cu.size := by rw [hcs]; omega
        have hclr := fun ty => run_clear_row (P := Tryz.prog) wr 43 ty 3 ti _ Tryz.underlying43 hi hz0 (by simp [Value.cells, Value.oneCell']) gb i (l.length - i) (c - i) (by omega) cu hcu hsz
        obtain ⟨cu', hcu'⟩ : ∃ cu', cu' = (cu.toList.take i ++ (Builtin.zeroCells (Value.int .i64 0).cells (l.length - i)).toList ++ cu.toList.drop (i + (l.length - i) * (Value.int .i64 0).cells.size)).toArray := ⟨_, rfl⟩
        rw [← hcu'] at hclr
        have hsz' : cu'.size = c * 1 := by
          have h6 : (Value.int .i64 0).cells.size = 1 := rfl
          rw [hcu', List.size_toArray, List.length_append, List.length_append, List.length_take, List.length_drop, Array.length_toList, Array.length_toList, size_zeroCells, h6, hcs]
          omega
        have htk' : cu'.toList.take (i * 1) = icells (l.filter fun x => !p x) := by
          rw [hcu', List.toList_toArray, List.append_assoc, Nat.mul_one, List.take_append_of_le_length (by rw [List.length_take, Array.length_toList]; omega), List.take_take, Nat.min_self, ← hTf]
          have h7 : cu.toList.take l.length = icells R := by simpa using htk
          have h8 := congrArg (fun l => l.take i) h7
          simp only [List.take_take, Nat.min_eq_left (show i ≤ l.length by omega)] at h8
          rw [h8]; unfold icells; rw [List.map_take]
        have hfin := hid (own_of_blk (setRow_blk hcu cu') hb0 (show i ≤ c by omega) hmx hsz' htk')
        have hkf : Hid (Ext w0 _) := hid (Keep.new Hx.out (setRow_keep wr gb cu') fun b e => by rw [e]; exact Nat.le_trans Hb0.out Hbase.out)
        have HRi := hid hRi
        have hci : (i : Int) ≤ (l.length : Int) := by omega
        clear hTf hRi hcu hb0 hcap hmx hcs htk hi hz0 hz1 hz2 hsz hcu' hsz' htk' HRl HT HD
        go_wp2
        go_ret
        exact ⟨.slice (some ⟨gb, 0, none⟩) i c, rfl, by unfold IRow; rw [HRi.out]; exact hfin.out, hkf.out⟩
def PP.nodesOf (P : PP) (l : List Int) : List Int := l.filter fun x => !decide ((P.nodesV : Int) ≤ x)
theorem consnodesc_any (g : Nat) (a1 a2 a3 : Option Addr) (c1 c2 c3 : Nat) (P : PP) (n : Int) (w : World) (n0 : Nat) (ad : Nat → Addr) (hB : Blk w g (pcells a1 a2 a3 c1 c2 c3 P) 26) (h : PW w n0 ad a1 a2 a3 c1 c2 c3 P) :
    Calls Tryz.prog 150 #[.int .i64 n, .pointer (some ⟨g, 0, none⟩)] w fun e w' => e = .returned (.bool (decide ((P.nodesV : Int) ≤ n))) ∧ Ext w w' := by
  have HN := hid (prognodes_any a1 a2 a3 c1 c2 c3 P w n0 ad h.errs h.prog h.z1 h.z2 h.well)
  have d0 := hB.av 0 rfl
  have d1 := hB.av 1 rfl
  have d2 := hB.av 2 rfl
  simp only [pcells, qA0, qA1, qA2] at d0 d1 d2
  unfold pval at HN
  clear hB h
  generalize P.nodesV = N at *
  go_enter Tryz.func150, Tryz.ntmps150
  go_wp2_with fail
  refine HN.out.mono ?_
  intro e w1 hx
  obtain ⟨rfl, hx1⟩ := hx
  have Hx1 := hid hx1
  clear HN hx1 d0 d1 d2
  by_cases hn : (N : Int) ≤ n
  · go_wp2
    go_ret
    exact ⟨by simp [hn], Hx1.out⟩
  · go_wp2
    go_ret
    exact ⟨by simp [hn], Hx1.out⟩
set_option maxRecDepth 100000 in
set_option maxHeartbeats 1600000 in
theorem consnodes_any (a1 a2 a3 : Option Addr) (c1 c2 c3 : Nat) (P : PP) (v : Value) (l : List Int) (w : World) (n0 : Nat) (ad : Nat → Addr) (h : PW w n0 ad a1 a2 a3 c1 c2 c3 P) (hl : IntsR w n0 v l) (hfew : l.length ≤ 100000) :
    Calls Tryz.prog 123 #[pval a1 a2 a3 c1 c2 c3 P, v] w fun e w' => ∃ v', e = .returned v' ∧ IRow w.heap.size w' v' (P.nodesOf l) ∧ Ext w w' := by
  obtain ⟨W, hW⟩ : ∃ W, W = w.alloc (.cells (pcells a1 a2 a3 c1 c2 c3 P) 26) := ⟨_, rfl⟩
  have HX : Hid (Ext w W) := hid (by rw [hW]; exact (Ext.refl _).alloc _)
  have HBx : Hid (Blk W w.heap.size (pcells a1 a2 a3 c1 c2 c3 P) 26) := hid (by rw [hW]; exact Blk.new _ _ _)
  have HWe : Hid (W = w.alloc (.cells #[.slice a1 P.vars.length c1, .slice a2 P.funs.length c2, .slice a3 P.stmts.length c3] 26)) := hid (by rw [hW]; rfl)
  have HPW := hid h
  have HC := hid (clone_big v l W n0 (hl.old (HX.out.old n0)) hfew)
  obtain ⟨av, cv, rfl, _⟩ := hl
  unfold pval
  clear hW h
  go_enter Tryz.func123, Tryz.ntmps123
  go_wp2_with fail
  rw [← HWe.out]
  refine HC.out.mono ?_
  intro e w1 hx
  obtain ⟨v1, rfl, hx1, hr1⟩ := hx
  have HD := hid (idel_nodesc (.pointer (some ⟨w.heap.size, 0, none⟩)) (fun o => decide ((P.nodesV : Int) ≤ o)) v1 l W w1 W.heap.size hx1 (Nat.le_refl _) hr1 (fun n w2 x => consnodesc_any w.heap.size a1 a2 a3 c1 c2 c3 P n w2 n0 ad (HBx.out.ext x) (HPW.out.ext (HX.out.trans x))) hfew)
  obtain ⟨a1', p1', rfl⟩ := hr1.form
  clear HC hx1 hr1
  go_wp2_with fail
  refine HD.out.mono ?_
  intro e w2 hx
  obtain ⟨v2, rfl, hr2, hx2⟩ := hx
  have Hr2 := hid (hr2.base HX.out.size)
  have Hx2 := hid (HX.out.trans hx2)
  clear HD hr2 hx2
  obtain ⟨a2', p2', rfl⟩ := Hr2.out.form
  go_wp2
  go_ret
  exact ⟨_, rfl, Hr2.out, Hx2.out⟩
def PP.callsOf (P : PP) (r : RV) (o : Int) : List (Int × Int) := if 0 ≤ P.funV o then calledV (P.funs.getD (P.funV o).toNat ⟨⟨#[]⟩, [], 0⟩) r else []
def PP.redges (P : PP) (r : RV) (has : List (List Int)) : List (Int × Int) :=
  bif r.kind.toList == kCopy then [(r.a, r.b)] else
  bif r.kind.toList == kLoad then (P.nodesOf (has.getD r.a.toNat [])).map fun o => (o, r.b) else
  bif r.kind.toList == kStore then (P.nodesOf (has.getD r.b.toNat [])).map fun o => (r.a, o) else
  bif r.kind.toList == kCall then (has.getD r.a.toNat []).flatMap (P.callsOf r) else []
set_option maxRecDepth 100000 in
set_option maxHeartbeats 6400000 in
theorem redges_copy (a1 a2 a3 : Option Addr) (c1 c2 c3 : Nat) (P : PP) (r : RV) (av hv : Value) (has : List (List Int)) (w : World) (n0 : Nat) (ad : Nat → Addr) (h : PW w n0 ad a1 a2 a3 c1 c2 c3 P) (ha : IntsR w n0 av r.args) (hh : SetsR w n0 hv has) (hfew : ∀ l ∈ has, l.length ≤ 10000) (hkd : (r.kind.toList == [99, 111, 112, 121]) = true) :
    Calls Tryz.prog 94 #[pval a1 a2 a3 c1 c2 c3 P, r.val av, hv] w fun e w' => ∃ v, e = .returned v ∧ ERow w.heap.size w' v (P.redges r has) ∧ Ext w w' := by
  obtain ⟨aa, ca, rfl, _⟩ := id ha
  obtain ⟨ah, ch, rfl⟩ := hh.form
  have hhl := hh.len
  have hal := ha.len
  obtain ⟨W1, hW1⟩ : ∃ W1, W1 = w.alloc (.cells (pcells a1 a2 a3 c1 c2 c3 P) 26) := ⟨_, rfl⟩
  have hx1 : Ext w W1 := by rw [hW1]; exact (Ext.refl _).alloc _
  obtain ⟨W, hW⟩ : ∃ W, W = W1.alloc (.cells #[.string r.kind, .int .i64 r.a, .int .i64 r.b, .int .i64 r.k, .slice aa r.args.length ca] 90) := ⟨_, rfl⟩
  have hx2 : Ext W1 W := by rw [hW]; exact (Ext.refl _).alloc _
  have s1 : W1.heap.size = w.heap.size + 1 := by rw [hW1, heap_size_alloc]
  have HX := hid (hx1.trans hx2)
  have HB0 : Hid (Blk W w.heap.size (pcells a1 a2 a3 c1 c2 c3 P) 26) := hid (by
    have : Blk W1 w.heap.size (pcells a1 a2 a3 c1 c2 c3 P) 26 := by rw [hW1]; exact Blk.new _ _ _
    exact this.ext hx2)
  have HB1 : Hid (Blk W (w.heap.size + 1) #[.string r.kind, .int .i64 r.a, .int .i64 r.b, .int .i64 r.k, .slice aa r.args.length ca] 90) := hid (by rw [← s1, hW]; exact Blk.new _ _ _)
  have HWe : Hid (W = (w.alloc (.cells #[.slice a1 P.vars.length c1, .slice a2 P.funs.length c2, .slice a3 P.stmts.length c3] 26)).alloc (.cells #[.string r.kind, .int .i64 r.a, .int .i64 r.b, .int .i64 r.k, .slice aa r.args.length ca] 90)) := hid (by rw [hW, hW1]; rfl)
  have HPW := hid h
  have HH := hid hh
  have HA := hid ha
  have Hfew := hid hfew
  unfold RV.val pval
  clear h ha hh hfew hW1 hW hx1 hx2 s1
  have Hr : Hid (P.redges r has = [(r.a, r.b)]) := hid (by unfold PP.redges kCopy; rw [hkd]; rfl)
  go_enter Tryz.func94, Tryz.ntmps94
  go_wp2
  go_ret
  refine ⟨_, rfl, ?_, ?_⟩
  · rw [Hr.out]
    refine ⟨rfl, .inr ⟨w.heap.size + 1 + 1, 1, #[.int .i64 r.a, .int .i64 r.b], rfl, by omega, ?_, Nat.le_refl _, by unfold maxLen; omega, rfl, rfl⟩⟩
    have := Blk.new W #[.int .i64 r.a, .int .i64 r.b] 95
    rw [HWe.out] at this
    simp only [heap_size_alloc] at this
    exact this
  · exact (((Ext.refl w).alloc _).alloc _).alloc _
set_option maxRecDepth 100000 in
set_option maxHeartbeats 6400000 in
theorem redges_load (a1 a2 a3 : Option Addr) (c1 c2 c3 : Nat) (P : PP) (r : RV) (av hv : Value) (has : List (List Int)) (w : World) (n0 : Nat) (ad : Nat → Addr) (h : PW w n0 ad a1 a2 a3 c1 c2 c3 P) (ha : IntsR w n0 av r.args) (hh : SetsR w n0 hv has) (hfew : ∀ l ∈ has, l.length ≤ 10000) (hkd : (r.kind.toList == [108, 111, 97, 100]) = true) (hidx : 0 ≤ r.a ∧ r.a < has.length) :
    Calls Tryz.prog 94 #[pval a1 a2 a3 c1 c2 c3 P, r.val av, hv] w fun e w' => ∃ v, e = .returned v ∧ ERow w.heap.size w' v (P.redges r has) ∧ Ext w w' := by
  obtain ⟨aa, ca, rfl, _⟩ := id ha
  obtain ⟨ah, ch, rfl⟩ := hh.form
  have hhl := hh.len
  have hal := ha.len
  obtain ⟨W1, hW1⟩ : ∃ W1, W1 = w.alloc (.cells (pcells a1 a2 a3 c1 c2 c3 P) 26) := ⟨_, rfl⟩
  have hx1 : Ext w W1 := by rw [hW1]; exact (Ext.refl _).alloc _
  obtain ⟨W, hW⟩ : ∃ W, W = W1.alloc (.cells #[.string r.kind, .int .i64 r.a, .int .i64 r.b, .int .i64 r.k, .slice aa r.args.length ca] 90) := ⟨_, rfl⟩
  have hx2 : Ext W1 W := by rw [hW]; exact (Ext.refl _).alloc _
  have s1 : W1.heap.size = w.heap.size + 1 := by rw [hW1, heap_size_alloc]
  have HX := hid (hx1.trans hx2)
  have HB0 : Hid (Blk W w.heap.size (pcells a1 a2 a3 c1 c2 c3 P) 26) := hid (by
    have : Blk W1 w.heap.size (pcells a1 a2 a3 c1 c2 c3 P) 26 := by rw [hW1]; exact Blk.new _ _ _
    exact this.ext hx2)
  have HB1 : Hid (Blk W (w.heap.size + 1) #[.string r.kind, .int .i64 r.a, .int .i64 r.b, .int .i64 r.k, .slice aa r.args.length ca] 90) := hid (by rw [← s1, hW]; exact Blk.new _ _ _)
  have HWe : Hid (W = (w.alloc (.cells #[.slice a1 P.vars.length c1, .slice a2 P.funs.length c2, .slice a3 P.stmts.length c3] 26)).alloc (.cells #[.string r.kind, .int .i64 r.a, .int .i64 r.b, .int .i64 r.k, .slice aa r.args.length ca] 90)) := hid (by rw [hW, hW1]; rfl)
  have HPW := hid h
  have HH := hid hh
  have HA := hid ha
  have Hfew := hid hfew
  unfold RV.val pval
  clear h ha hh hfew hW1 hW hx1 hx2 s1
  have hk0 : (r.kind.toList == [99, 111, 112, 121]) = false := by rw [eq_of_beq hkd]; rfl
  obtain ⟨K, hK⟩ := Int.eq_ofNat_of_zero_le hidx.1
  have hKl : K < has.length := by omega
  obtain ⟨y, l, bl, cl, hya, hl, hc, hI⟩ := (HH.out.old (HX.out.old n0)).at hKl
  subst hya
  have Hl : Hid (has.getD (r.a).toNat [] = l) := hid (by rw [hK, List.getD_eq_getElem?_getD]; show (has[K]?).getD [] = l; rw [hl]; rfl)
  have hll : l.length ≤ 10000 := Hfew.out l (List.mem_of_getElem? hl)
  have HI := hid hI
  have c0 : ∀ w1, Keep (fun _ => False) W w1 → w1.cell? (y.add K) = some (.slice bl l.length cl) := fun w1 k => k.ext.cellx hc
  obtain ⟨m, hm⟩ : ∃ m, m = P.nodesOf l := ⟨_, rfl⟩
  have hml : m.length ≤ 10000 := by rw [hm]; exact Nat.le_trans (List.length_filter_le _ _) hll
  have Hr : Hid (P.redges r has = m.map fun o => (o, r.b)) := hid (by unfold PP.redges kCopy kLoad; rw [hk0, hkd, Hl.out, hm]; rfl)
  have HN := fun w1 (x : Ext W w1) => hid (consnodes_any a1 a2 a3 c1 c2 c3 P (.slice bl l.length cl) l w1 n0 ad (HPW.out.ext (HX.out.trans x)) (HI.out.old (x.old n0)) (by omega))
  unfold pval at HN
  rw [← hm] at HN
  rw [hK] at HB1 HWe
  have x0 := Ext.refl W
  have d0 := (HB0.out.ext x0).kc (X := fun _ => False) (fun e => e) 0 rfl
  have d1 := (HB0.out.ext x0).kc (X := fun _ => False) (fun e => e) 1 rfl
  have d2 := (HB0.out.ext x0).kc (X := fun _ => False) (fun e => e) 2 rfl
  have m0 := (HB1.out.ext x0).kc (X := fun _ => False) (fun e => e) 0 rfl
  have m1 := (HB1.out.ext x0).kc (X := fun _ => False) (fun e => e) 1 rfl
  have m2 := (HB1.out.ext x0).kc (X := fun _ => False) (fun e => e) 2 rfl
  have m3 := (HB1.out.ext x0).kc (X := fun _ => False) (fun e => e) 3 rfl
  have m4 := (HB1.out.ext x0).kc (X := fun _ => False) (fun e => e) 4 rfl
  simp only [pcells, qA0, qA1, qA2] at d0 d1 d2 m0 m1 m2 m3 m4
  clear x0 hl hc hI hidx hm
  go_enter Tryz.func94, Tryz.ntmps94
  rw [hK]
  clear hK
  go_wp2
  rw [← HWe.out]
  refine wp_flow (fun _ => False) (by kernel_rfl) (by kernel_rfl) ?_
  apply Flow.d 0 _ rfl (by simp) (by kernel_rfl)
  · intro w1 hk; unfold does; go_simp; (try go_ints); exact DetR.mk
  simp only [qA0, qA1, qA2, Act.put, qS0, qS1, qS2]
  apply Flow.d 1 _ rfl (by simp) (by kernel_rfl)
  · intro w1 hk; unfold does; go_simp; (try go_ints); exact DetR.mk
  simp only [qA0, qA1, qA2, Act.put, qS0, qS1, qS2]
  apply Flow.d 2 _ rfl (by simp) (by kernel_rfl)
  · intro w1 hk; unfold does; go_simp; (try go_ints); exact DetR.mk
  simp only [qA0, qA1, qA2, Act.put, qS0, qS1, qS2]
  apply Flow.d 3 _ rfl (by simp) (by kernel_rfl)
  · intro w1 hk; unfold does; go_simp; (try go_ints); exact DetR.mk
  simp only [qA0, qA1, qA2, Act.put, qS0, qS1, qS2]
  apply Flow.d 4 _ rfl (by simp) (by kernel_rfl)
  · intro w1 hk; unfold does; go_simp; (try go_ints); exact DetR.mk
  simp only [qA0, qA1, qA2, Act.put, qS0, qS1, qS2]
  apply Flow.d 5 _ rfl (by simp) (by kernel_rfl)
  · intro w1 hk; unfold does; go_simp; (try go_ints); exact DetR.mk
  simp only [qA0, qA1, qA2, Act.put, qS0, qS1, qS2]
  apply Flow.d 8 _ rfl (by simp) (by kernel_rfl)
  · intro w1 hk; unfold does; go_simp; (try go_ints); exact DetR.mk
  simp only [qA0, qA1, qA2, Act.put, qS0, qS1, qS2]
  refine Flow.one 6 _ rfl (by kernel_rfl) (fun v w' => (∃ a c, v = .slice a m.length c) ∧ IRow W.heap.size w' v m ∧ Ext W w') (fun _ _ _ ⟨h1, h2, h3⟩ y => ⟨h1, h2.ext y, h3.trans y⟩) (fun w1 hC hk => ?_) ?_
  · unfold does
    go_simp
    refine CallR.act ((HN w1 hC).out.mono ?_)
    rintro e w2 ⟨v, rfl, hr, hx⟩
    exact ⟨v, rfl, (hC.trans hx).keep _, hr.form, hr.base hC.size, hC.trans hx⟩
  rintro _ ⟨_, ⟨a9, c9, rfl⟩, _, _⟩
  simp only [qA0, qA1, qA2, Act.put, qS0, qS1, qS2]
  apply Flow.d 7 _ rfl (by simp) (by kernel_rfl)
  · intro w1 hk; unfold does; go_simp; (try go_ints); exact DetR.mk
  simp only [qA0, qA1, qA2, Act.put, qS0, qS1, qS2]
  refine Flow.fin (by kernel_rfl) fun w3 hC hk3 => ?_
  obtain ⟨_, hrm, hx3⟩ := hC
  have Hrm := hid hrm
  have Hx3 := hid hx3
  clear hrm hx3 hk3 HN c0 d0 d1 d2 m0 m1 m2 m3 m4
  go_wp2
  go_loopw [7, 35] (fun t7 ti wr => ∃ (k : Nat) (E : List (Int × Int)), ti = .int .i64 (k : Int) ∧ k ≤ m.length ∧ E = ((m.take k).map fun o => (o, r.b)) ∧ wr.ownsRow w3.heap.size 95 2 t7 k (E.flatMap eCells) ∧ Ext w3 wr) (fun _ ti _ => m.length - (intOf ti).toNat)
  case atStart => exact ⟨0, [], rfl, Nat.zero_le _, rfl, World.ownsRow_nil _ _ _ _, Ext.refl _⟩
  case round =>
    obtain ⟨k, E, rfl, hk, hE, hr, hx⟩ := hrel
    obtain ⟨a7, c7, rfl⟩ := row_form hr
    have Hr7 := hid hr
    have Hx := hid hx
    have HE := hid hE
    have HrmX := hid (Hrm.out.ext hx)
    clear hr hx hE
    by_cases hlt : k < m.length
    · obtain ⟨g9, cp9, he9⟩ : ∃ g cap, Value.slice a9 m.length c9 = .slice (some ⟨g, 0, none⟩) m.length cap := by
        rcases HrmX.out.case with ⟨_, h⟩ | h
        · rw [h] at hlt; simp at hlt
        · exact h
      simp only [Value.slice.injEq, true_and] at he9
      obtain ⟨rfl, rfl⟩ := he9
      obtain ⟨o, ho⟩ : ∃ o, m[k]? = some o := ⟨_, List.getElem?_eq_getElem hlt⟩
      have hco := own_i HrmX.out ho
      have Hn : Hid (((m.take (k + 1)).map fun o => (o, r.b)) = E ++ [((fun o => (o, r.b)) o)]) := hid (by rw [List.take_add_one, ho, HE.out, List.map_append]; rfl)
      have q2 := (HB1.out.ext (Hx3.out.trans Hx.out)).av 2 rfl
      simp only [qA0, qA1, qA2] at q2
      have hxa : Hid (Ext w3 (wr.alloc (.cells #[.int .i64 o, .int .i64 r.b] 95))) := hid (Hx.out.alloc _)
      have Hra := hid (own_ext Hr7.out ((Ext.refl wr).alloc (.cells #[.int .i64 o, .int .i64 r.b] 95)))
      clear ho
      go_wp2_with (at_builtin; refine wpList_append_el w3.heap.size hxa.out.size 64 95 (.agg #[.int .i64 0, .int .i64 0]) 2 16 Tryz.underlying64 edge_info rfl (by omega) (by omega) rfl _ _ rfl (.slice a7 k c7) k (E.flatMap eCells) rfl Hra.out wr.heap.size [.int .i64 o, .int .i64 r.b] rfl (by simp [Value.oneCell']) rfl (Blk.new _ _ _) (by omega) ?_; intro v' w' h1 h2 h4; obtain ⟨a', c', rfl⟩ := row_form h1; have h3 := hid (Keep.new hxa.out h2 (fun k hk => (World.ownsRow.lt Hra.out k hk).1)); have h1 := hid h1; clear h2 h4)
      go_roundw
      case rel =>
        refine ⟨k + 1, _, by go_num, by omega, Hn.out.symm, ?_, h3.out⟩
        rw [List.flatMap_append]
        simpa [eCells] using h1.out
      case measure => simp [intOf]; omega
    · obtain rfl : k = m.length := by omega
      have HEn : Hid (P.redges r has = E) := hid (by rw [Hr.out, HE.out, List.take_of_length_le (Nat.le_refl _)])
      have hEl : Hid (E.length = m.length) := hid (by rw [HE.out, List.length_map, List.length_take, Nat.min_self])
      go_wp2
      go_ret
      exact ⟨_, rfl, by unfold ERow; rw [HEn.out, hEl.out]; exact own_low Hr7.out (HX.out.trans Hx3.out).size, HX.out.trans (Hx3.out.trans Hx.out)⟩
set_option maxRecDepth 100000 in
set_option maxHeartbeats 6400000 in
theorem redges_store (a1 a2 a3 : Option Addr) (c1 c2 c3 : Nat) (P : PP) (r : RV) (av hv : Value) (has : List (List Int)) (w : World) (n0 : Nat) (ad : Nat → Addr) (h : PW w n0 ad a1 a2 a3 c1 c2 c3 P) (ha : IntsR w n0 av r.args) (hh : SetsR w n0 hv has) (hfew : ∀ l ∈ has, l.length ≤ 10000) (hkd : (r.kind.toList == [115, 116, 111, 114, 101]) = true) (hidx : 0 ≤ r.b ∧ r.b < has.length) :
    Calls Tryz.prog 94 #[pval a1 a2 a3 c1 c2 c3 P, r.val av, hv] w fun e w' => ∃ v, e = .returned v ∧ ERow w.heap.size w' v (P.redges r has) ∧ Ext w w' := by
  obtain ⟨aa, ca, rfl, _⟩ := id ha
  obtain ⟨ah, ch, rfl⟩ := hh.form
  have hhl := hh.len
  have hal := ha.len
  obtain ⟨W1, hW1⟩ : ∃ W1, W1 = w.alloc (.cells (pcells a1 a2 a3 c1 c2 c3 P) 26) := ⟨_, rfl⟩
  have hx1 : Ext w W1 := by rw [hW1]; exact (Ext.refl _).alloc _
  obtain ⟨W, hW⟩ : ∃ W, W = W1.alloc (.cells #[.string r.kind, .int .i64 r.a, .int .i64 r.b, .int .i64 r.k, .slice aa r.args.length ca] 90) := ⟨_, rfl⟩
  have hx2 : Ext W1 W := by rw [hW]; exact (Ext.refl _).alloc _
  have s1 : W1.heap.size = w.heap.size + 1 := by rw [hW1, heap_size_alloc]
  have HX := hid (hx1.trans hx2)
  have HB0 : Hid (Blk W w.heap.size (pcells a1 a2 a3 c1 c2 c3 P) 26) := hid (by
    have : Blk W1 w.heap.size (pcells a1 a2 a3 c1 c2 c3 P) 26 := by rw [hW1]; exact Blk.new _ _ _
    exact this.ext hx2)
  have HB1 : Hid (Blk W (w.heap.size + 1) #[.string r.kind, .int .i64 r.a, .int .i64 r.b, .int .i64 r.k, .slice aa r.args.length ca] 90) := hid (by rw [← s1, hW]; exact Blk.new _ _ _)
  have HWe : Hid (W = (w.alloc (.cells #[.slice a1 P.vars.length c1, .slice a2 P.funs.length c2, .slice a3 P.stmts.length c3] 26)).alloc (.cells #[.string r.kind, .int .i64 r.a, .int .i64 r.b, .int .i64 r.k, .slice aa r.args.length ca] 90)) := hid (by rw [hW, hW1]; rfl)
  have HPW := hid h
  have HH := hid hh
  have HA := hid ha
  have Hfew := hid hfew
  unfold RV.val pval
  clear h ha hh hfew hW1 hW hx1 hx2 s1
  have hk0 : (r.kind.toList == [99, 111, 112, 121]) = false := by rw [eq_of_beq hkd]; rfl
  have hk1 : (r.kind.toList == [108, 111, 97, 100]) = false := by rw [eq_of_beq hkd]; rfl
  obtain ⟨K, hK⟩ := Int.eq_ofNat_of_zero_le hidx.1
  have hKl : K < has.length := by omega
  obtain ⟨y, l, bl, cl, hya, hl, hc, hI⟩ := (HH.out.old (HX.out.old n0)).at hKl
  subst hya
  have Hl : Hid (has.getD (r.b).toNat [] = l) := hid (by rw [hK, List.getD_eq_getElem?_getD]; show (has[K]?).getD [] = l; rw [hl]; rfl)
  have hll : l.length ≤ 10000 := Hfew.out l (List.mem_of_getElem? hl)
  have HI := hid hI
  have c0 : ∀ w1, Keep (fun _ => False) W w1 → w1.cell? (y.add K) = some (.slice bl l.length cl) := fun w1 k => k.ext.cellx hc
  obtain ⟨m, hm⟩ : ∃ m, m = P.nodesOf l := ⟨_, rfl⟩
  have hml : m.length ≤ 10000 := by rw [hm]; exact Nat.le_trans (List.length_filter_le _ _) hll
  have Hr : Hid (P.redges r has = m.map fun o => (r.a, o)) := hid (by unfold PP.redges kCopy kLoad kStore; rw [hk0, hk1, hkd, Hl.out, hm]; rfl)
  have HN := fun w1 (x : Ext W w1) => hid (consnodes_any a1 a2 a3 c1 c2 c3 P (.slice bl l.length cl) l w1 n0 ad (HPW.out.ext (HX.out.trans x)) (HI.out.old (x.old n0)) (by omega))
  unfold pval at HN
  rw [← hm] at HN
  rw [hK] at HB1 HWe
  have x0 := Ext.refl W
  have d0 := (HB0.out.ext x0).kc (X := fun _ => False) (fun e => e) 0 rfl
  have d1 := (HB0.out.ext x0).kc (X := fun _ => False) (fun e => e) 1 rfl
  have d2 := (HB0.out.ext x0).kc (X := fun _ => False) (fun e => e) 2 rfl
  have m0 := (HB1.out.ext x0).kc (X := fun _ => False) (fun e => e) 0 rfl
  have m1 := (HB1.out.ext x0).kc (X := fun _ => False) (fun e => e) 1 rfl
  have m2 := (HB1.out.ext x0).kc (X := fun _ => False) (fun e => e) 2 rfl
  have m3 := (HB1.out.ext x0).kc (X := fun _ => False) (fun e => e) 3 rfl
  have m4 := (HB1.out.ext x0).kc (X := fun _ => False) (fun e => e) 4 rfl
  simp only [pcells, qA0, qA1, qA2] at d0 d1 d2 m0 m1 m2 m3 m4
  clear x0 hl hc hI hidx hm
  go_enter Tryz.func94, Tryz.ntmps94
  rw [hK]
  clear hK
  go_wp2
  rw [← HWe.out]
  refine wp_flow (fun _ => False) (by kernel_rfl) (by kernel_rfl) ?_
  apply Flow.d 0 _ rfl (by simp) (by kernel_rfl)
  · intro w1 hk; unfold does; go_simp; (try go_ints); exact DetR.mk
  simp only [qA0, qA1, qA2, Act.put, qS0, qS1, qS2]
  apply Flow.d 1 _ rfl (by simp) (by kernel_rfl)
  · intro w1 hk; unfold does; go_simp; (try go_ints); exact DetR.mk
  simp only [qA0, qA1, qA2, Act.put, qS0, qS1, qS2]
  apply Flow.d 2 _ rfl (by simp) (by kernel_rfl)
  · intro w1 hk; unfold does; go_simp; (try go_ints); exact DetR.mk
  simp only [qA0, qA1, qA2, Act.put, qS0, qS1, qS2]
  apply Flow.d 3 _ rfl (by simp) (by kernel_rfl)
  · intro w1 hk; unfold does; go_simp; (try go_ints); exact DetR.mk
  simp only [qA0, qA1, qA2, Act.put, qS0, qS1, qS2]
  apply Flow.d 4 _ rfl (by simp) (by kernel_rfl)
  · intro w1 hk; unfold does; go_simp; (try go_ints); exact DetR.mk
  simp only [qA0, qA1, qA2, Act.put, qS0, qS1, qS2]
  apply Flow.d 5 _ rfl (by simp) (by kernel_rfl)
  · intro w1 hk; unfold does; go_simp; (try go_ints); exact DetR.mk
  simp only [qA0, qA1, qA2, Act.put, qS0, qS1, qS2]
  apply Flow.d 8 _ rfl (by simp) (by kernel_rfl)
  · intro w1 hk; unfold does; go_simp; (try go_ints); exact DetR.mk
  simp only [qA0, qA1, qA2, Act.put, qS0, qS1, qS2]
  refine Flow.one 6 _ rfl (by kernel_rfl) (fun v w' => (∃ a c, v = .slice a m.length c) ∧ IRow W.heap.size w' v m ∧ Ext W w') (fun _ _ _ ⟨h1, h2, h3⟩ y => ⟨h1, h2.ext y, h3.trans y⟩) (fun w1 hC hk => ?_) ?_
  · unfold does
    go_simp
    refine CallR.act ((HN w1 hC).out.mono ?_)
    rintro e w2 ⟨v, rfl, hr, hx⟩
    exact ⟨v, rfl, (hC.trans hx).keep _, hr.form, hr.base hC.size, hC.trans hx⟩
  rintro _ ⟨_, ⟨a9, c9, rfl⟩, _, _⟩
  simp only [qA0, qA1, qA2, Act.put, qS0, qS1, qS2]
  apply Flow.d 7 _ rfl (by simp) (by kernel_rfl)
  · intro w1 hk; unfold does; go_simp; (try go_ints); exact DetR.mk
  simp only [qA0, qA1, qA2, Act.put, qS0, qS1, qS2]
  refine Flow.fin (by kernel_rfl) fun w3 hC hk3 => ?_
  obtain ⟨_, hrm, hx3⟩ := hC
  have Hrm := hid hrm
  have Hx3 := hid hx3
  clear hrm hx3 hk3 HN c0 d0 d1 d2 m0 m1 m2 m3 m4
  go_wp2
  go_loopw [7, 57] (fun t7 ti wr => ∃ (k : Nat) (E : List (Int × Int)), ti = .int .i64 (k : Int) ∧ k ≤ m.length ∧ E = ((m.take k).map fun o => (r.a, o)) ∧ wr.ownsRow w3.heap.size 95 2 t7 k (E.flatMap eCells) ∧ Ext w3 wr) (fun _ ti _ => m.length - (intOf ti).toNat)
  case atStart => exact ⟨0, [], rfl, Nat.zero_le _, rfl, World.ownsRow_nil _ _ _ _, Ext.refl _⟩
  case round =>
    obtain ⟨k, E, rfl, hk, hE, hr, hx⟩ := hrel
    obtain ⟨a7, c7, rfl⟩ := row_form hr
    have Hr7 := hid hr
    have Hx := hid hx
    have HE := hid hE
    have HrmX := hid (Hrm.out.ext hx)
    clear hr hx hE
    by_cases hlt : k < m.length
    · obtain ⟨g9, cp9, he9⟩ : ∃ g cap, Value.slice a9 m.length c9 = .slice (some ⟨g, 0, none⟩) m.length cap := by
        rcases HrmX.out.case with ⟨_, h⟩ | h
        · rw [h] at hlt; simp at hlt
        · exact h
      simp only [Value.slice.injEq, true_and] at he9
      obtain ⟨rfl, rfl⟩ := he9
      obtain ⟨o, ho⟩ : ∃ o, m[k]? = some o := ⟨_, List.getElem?_eq_getElem hlt⟩
      have hco := own_i HrmX.out ho
      have Hn : Hid (((m.take (k + 1)).map fun o => (r.a, o)) = E ++ [((fun o => (r.a, o)) o)]) := hid (by rw [List.take_add_one, ho, HE.out, List.map_append]; rfl)
      have q2 := (HB1.out.ext (Hx3.out.trans Hx.out)).av 1 rfl
      simp only [qA0, qA1, qA2] at q2
      have hxa : Hid (Ext w3 (wr.alloc (.cells #[.int .i64 r.a, .int .i64 o] 95))) := hid (Hx.out.alloc _)
      have Hra := hid (own_ext Hr7.out ((Ext.refl wr).alloc (.cells #[.int .i64 r.a, .int .i64 o] 95)))
      clear ho
      go_wp2_with (at_builtin; refine wpList_append_el w3.heap.size hxa.out.size 64 95 (.agg #[.int .i64 0, .int .i64 0]) 2 16 Tryz.underlying64 edge_info rfl (by omega) (by omega) rfl _ _ rfl (.slice a7 k c7) k (E.flatMap eCells) rfl Hra.out wr.heap.size [.int .i64 r.a, .int .i64 o] rfl (by simp [Value.oneCell']) rfl (Blk.new _ _ _) (by omega) ?_; intro v' w' h1 h2 h4; obtain ⟨a', c', rfl⟩ := row_form h1; have h3 := hid (Keep.new hxa.out h2 (fun k hk => (World.ownsRow.lt Hra.out k hk).1)); have h1 := hid h1; clear h2 h4)
      go_roundw
      case rel =>
        refine ⟨k + 1, _, by go_num, by omega, Hn.out.symm, ?_, h3.out⟩
        rw [List.flatMap_append]
        simpa [eCells] using h1.out
      case measure => simp [intOf]; omega
    · obtain rfl : k = m.length := by omega
      have HEn : Hid (P.redges r has = E) := hid (by rw [Hr.out, HE.out, List.take_of_length_le (Nat.le_refl _)])
      have hEl : Hid (E.length = m.length) := hid (by rw [HE.out, List.length_map, List.length_take, Nat.min_self])
      go_wp2
      go_ret
      exact ⟨_, rfl, by unfold ERow; rw [HEn.out, hEl.out]; exact own_low Hr7.out (HX.out.trans Hx3.out).size, HX.out.trans (Hx3.out.trans Hx.out)⟩
theorem does_append_src {ops : Array Oper} {o : Oper} {a : Act} {w : World} {R : Value → World → Prop} (base : Nat) (hbase : base ≤ w.heap.size) (t e : TypeId) (z : Value) (size bytes : Nat) (ht : Tryz.prog.underlying t = some (.slice e)) (hinf : (Tryz.prog.info? e).map (fun i => (i.zero, i.size, i.bytes)) = some (some z, size, bytes)) (hz1 : z.cells.size = size) (hsz : 0 < size)
    (hb8 : bytes ≤ 64) (hg : o.guard = none) (s x : Operand) (ho : o.op = .call { callee := .builtin .append, args := #[s, x], argTypes := #[t, t] })
    (v : Value) (n : Nat) (xs : List Value) (hs : a.eval s = v) (hown : w.ownsRow base e size v n xs) (ad : Option Addr) (m c : Nat) (us : List Value) (hx : a.eval x = .slice ad m c) (hsrc : Src w ad m size us) (hl : n + m ≤ 1000000)
    (h : ∀ v' w', w'.ownsRow base e size v' (n + m) (xs ++ us) → Keep (fun k => v.ownBlock = some k) w w' → R v' w') : does Tryz.prog ops o a w R := by
  obtain ⟨v', w', hr, h2, h3, h4⟩ := run_append_src w base hbase t e z size bytes ht hinf hz1 hsz hb8 o.type v n xs hown ad m c us hsrc hl
  exact does_of_run hg (run_exec_append s x t ho hs hx hr) (h v' w' h2 h3)
theorem own_src {w : World} {base : Nat} {e : TypeId} {size n c : Nat} {a : Option Addr} {xs : List Value} (h : w.ownsRow base e size (.slice a n c) n xs) (h1 : ∀ u ∈ xs, u.oneCell' = true) : Src w a n size xs := by
  refine ⟨h.1, fun hn => ?_, fun x hx j u hu => ?_, h1⟩
  · obtain ⟨g, cp, he⟩ := own_some h hn
    simp only [Value.slice.injEq] at he
    exact ⟨_, he.1⟩
  · rcases h.2 with ⟨he, hn⟩ | ⟨g, cp, cur, he, _⟩
    · simp only [Value.slice.injEq] at he
      rw [he.1] at hx; cases hx
    · simp only [Value.slice.injEq] at he
      obtain ⟨rfl, _, rfl⟩ := he
      obtain rfl := Option.some.inj hx
      exact h.cells (g := g) rfl j u hu
theorem eCells_one {E : List (Int × Int)} : ∀ u ∈ E.flatMap eCells, u.oneCell' = true := fun u hu => by
  obtain ⟨e, _, h⟩ := List.mem_flatMap.1 hu
  simp only [eCells, List.mem_cons, List.mem_nil_iff, or_false] at h
  rcases h with rfl | rfl <;> rfl
theorem funV_lt {P : PP} {o : Int} (h : 0 ≤ P.funV o) : P.funV o < P.funs.length := by
  unfold PP.funV at h ⊢
  by_cases hc : 0 ≤ o - P.nodesV ∧ o - P.nodesV < P.funs.length
  · rw [if_pos hc]; exact hc.2
  · rw [if_neg hc] at h; omega
theorem called_few {P : PP} (hw : P.Well) {f : PF} (hf : f ∈ P.funs) (r : RV) : (calledV f r).length ≤ 4 := by
  have := (PP.goodF (PP.funs_ok hw.1) hf).few
  unfold calledV
  split
  · rw [List.length_cons, List.length_zip]; omega
  · simp
set_option maxRecDepth 100000 in
set_option maxHeartbeats 6400000 in
theorem redges_call (a1 a2 a3 : Option Addr) (c1 c2 c3 : Nat) (P : PP) (r : RV) (av hv : Value) (has : List (List Int)) (w : World) (n0 : Nat) (ad : Nat → Addr) (h : PW w n0 ad a1 a2 a3 c1 c2 c3 P) (ha : IntsR w n0 av r.args) (hh : SetsR w n0 hv has) (hfew : ∀ l ∈ has, l.length ≤ 10000) (hkd : (r.kind.toList == [99, 97, 108, 108]) = true) (hidx : 0 ≤ r.a ∧ r.a < has.length) (hin : ∀ l ∈ has, InR l) (hn0 : n0 ≤ w.heap.size) :
    Calls Tryz.prog 94 #[pval a1 a2 a3 c1 c2 c3 P, r.val av, hv] w fun e w' => ∃ v, e = .returned v ∧ ERow w.heap.size w' v (P.redges r has) ∧ Ext w w' := by
  obtain ⟨aa, ca, rfl, _⟩ := id ha
  obtain ⟨ah, ch, rfl⟩ := hh.form
  have hhl := hh.len
  have hal := ha.len
  obtain ⟨W1, hW1⟩ : ∃ W1, W1 = w.alloc (.cells (pcells a1 a2 a3 c1 c2 c3 P) 26) := ⟨_, rfl⟩
  have hx1 : Ext w W1 := by rw [hW1]; exact (Ext.refl _).alloc _
  obtain ⟨W, hW⟩ : ∃ W, W = W1.alloc (.cells #[.string r.kind, .int .i64 r.a, .int .i64 r.b, .int .i64 r.k, .slice aa r.args.length ca] 90) := ⟨_, rfl⟩
  have hx2 : Ext W1 W := by rw [hW]; exact (Ext.refl _).alloc _
  have s1 : W1.heap.size = w.heap.size + 1 := by rw [hW1, heap_size_alloc]
  have HX := hid (hx1.trans hx2)
  have HB0 : Hid (Blk W w.heap.size (pcells a1 a2 a3 c1 c2 c3 P) 26) := hid (by
    have : Blk W1 w.heap.size (pcells a1 a2 a3 c1 c2 c3 P) 26 := by rw [hW1]; exact Blk.new _ _ _
    exact this.ext hx2)
  have HB1 : Hid (Blk W (w.heap.size + 1) #[.string r.kind, .int .i64 r.a, .int .i64 r.b, .int .i64 r.k, .slice aa r.args.length ca] 90) := hid (by rw [← s1, hW]; exact Blk.new _ _ _)
  have HWe : Hid (W = (w.alloc (.cells #[.slice a1 P.vars.length c1, .slice a2 P.funs.length c2, .slice a3 P.stmts.length c3] 26)).alloc (.cells #[.string r.kind, .int .i64 r.a, .int .i64 r.b, .int .i64 r.k, .slice aa r.args.length ca] 90)) := hid (by rw [hW, hW1]; rfl)
  have HPW := hid h
  have HH := hid hh
  have HA := hid ha
  have Hfew := hid hfew
  unfold RV.val pval
  clear h ha hh hfew hW1 hW hx1 hx2 s1
  have hk0 : (r.kind.toList == [99, 111, 112, 121]) = false := by rw [eq_of_beq hkd]; rfl
  have hk1 : (r.kind.toList == [108, 111, 97, 100]) = false := by rw [eq_of_beq hkd]; rfl
  have hk2 : (r.kind.toList == [115, 116, 111, 114, 101]) = false := by rw [eq_of_beq hkd]; rfl
  obtain ⟨K, hK⟩ := Int.eq_ofNat_of_zero_le hidx.1
  have hKl : K < has.length := by omega
  obtain ⟨y, l, bl, cl, hya, hl, hc, hI⟩ := (HH.out.old (HX.out.old n0)).at hKl
  subst hya
  have Hl : Hid (has.getD (r.a).toNat [] = l) := hid (by rw [hK, List.getD_eq_getElem?_getD]; show (has[K]?).getD [] = l; rw [hl]; rfl)
  have hll : l.length ≤ 10000 := Hfew.out l (List.mem_of_getElem? hl)
  have HI := hid hI
  have c0 : ∀ w1, Keep (fun _ => False) W w1 → w1.cell? (y.add K) = some (.slice bl l.length cl) := fun w1 k => k.ext.cellx hc
  have Hin := hid (hin l (List.mem_of_getElem? hl))
  have Hr : Hid (P.redges r has = l.flatMap (P.callsOf r)) := hid (by unfold PP.redges kCopy kLoad kStore kCall; rw [hk0, hk1, hk2, hkd, Hl.out]; rfl)
  have HPF := fun o w1 (x : Ext W w1) (ho : 0 ≤ o ∧ o < 1000) => hid (progfun_any a1 a2 a3 c1 c2 c3 P o w1 n0 ad (HPW.out.ext (HX.out.trans x)) ho)
  have Hn0 : Hid (n0 ≤ W.heap.size) := hid (Nat.le_trans hn0 HX.out.size)
  unfold pval at HPF
  have HWk := hid HWe.out
  rw [hK] at HWk
  rw [HWk.out] at hc
  clear c0 hl hI hidx hin hn0
  go_enter Tryz.func94, Tryz.ntmps94
  rw [hK]
  clear hK
  go_wp2
  rw [← HWk.out]
  clear hc
  go_loopw [7, 77] (fun t7 t77 wr => ∃ (k : Nat) (E : List (Int × Int)), t77 = .int .i64 (k : Int) ∧ k ≤ l.length ∧ E = (l.take k).flatMap (P.callsOf r) ∧ E.length ≤ 4 * k ∧ wr.ownsRow W.heap.size 95 2 t7 E.length (E.flatMap eCells) ∧ Ext W wr) (fun _ t77 _ => l.length - (intOf t77).toNat)
  case atStart => exact ⟨0, [], rfl, Nat.zero_le _, rfl, Nat.zero_le _, World.ownsRow_nil _ _ _ _, Ext.refl _⟩
  case round =>
    obtain ⟨k, E, rfl, hk, hE, hEl, hr, hx⟩ := hrel
    obtain ⟨a7, c7, rfl⟩ := row_form hr
    have Hr7 := hid hr
    have Hx := hid hx
    have HE := hid hE
    clear hr hx hE
    by_cases hlt : k < l.length
    · obtain ⟨yl, o, hyl, ho, hco⟩ := (HI.out.old (Hx.out.old n0)).at hlt
      subst hyl
      have hob := Hin.out o (List.mem_of_getElem? ho)
      have HF := HPF o wr Hx.out hob
      have Hn : Hid ((l.take (k + 1)).flatMap (P.callsOf r) = E ++ P.callsOf r o) := hid (by rw [List.take_add_one, ho, HE.out, List.flatMap_append]; simp)
      obtain ⟨F, hF⟩ : ∃ F, F = P.funV o := ⟨_, rfl⟩
      rw [← hF] at HF
      have HFe := hid hF
      have d0 := (HB0.out.ext Hx.out).av 0 rfl
      have d1 := (HB0.out.ext Hx.out).av 1 rfl
      have d2 := (HB0.out.ext Hx.out).av 2 rfl
      simp only [pcells, qA0, qA1, qA2] at d0 d1 d2
      clear ho hob hF
      go_wp2_with fail
      refine HF.out.mono ?_
      intro e w1 hx
      obtain ⟨rfl, hx1⟩ := hx
      have Hx1 := hid (Hx.out.trans hx1)
      have Hr1 := hid (own_ext Hr7.out hx1)
      clear HF hx1 hco d0 d1 d2
      by_cases hF0 : 0 ≤ F
      · obtain ⟨N, rfl⟩ := Int.eq_ofNat_of_zero_le hF0
        have hN : N < P.funs.length := by have := funV_lt (P := P) (o := o) (by rw [← HFe.out]; exact hF0); rw [← HFe.out] at this; omega
        obtain ⟨yf, f, afp, cfp, hyf, hfk, e0, e1, e2, hIp⟩ := (HPW.out.prog.ext HX.out).funs.at hN
        subst hyf
        have hfm : f ∈ P.funs := List.mem_of_getElem? hfk
        have hq4 := called_few HPW.out.well hfm r
        have hpf := (PP.goodF (PP.funs_ok HPW.out.well.1) hfm).few
        obtain ⟨q, hq⟩ : ∃ q, q = calledV f r := ⟨_, rfl⟩
        have Hc : Hid (P.callsOf r o = q) := hid (by
          unfold PP.callsOf
          rw [if_pos (by rw [← HFe.out]; omega), ← HFe.out, hq]
          show calledV ((P.funs.getD N _)) r = _
          rw [List.getD_eq_getElem?_getD, hfk]; rfl)
        have HCl := fun wx (x : Ext w1 wx) => hid (conscalled_any f r (.slice afp f.params.length cfp) (.slice aa r.args.length ca) wx n0 (hIp.old ((Hx1.out.trans x).old n0)) (HA.out.old ((HX.out.trans (Hx1.out.trans x)).old n0)) (by omega))
        rw [← hq] at HCl hq4
        unfold RV.val at HCl
        have hnew : ∀ wx, Keep (fun b => W.heap.size ≤ b) w1 wx → Ext W wx := fun wx kk => Keep.new Hx1.out kk fun b hb => hb
        have f0 : ∀ wx, Keep (fun b => W.heap.size ≤ b) w1 wx → wx.cell? (yf.add (N * 3)) = some (.string f.name) := fun wx kk => (hnew wx kk).cellx e0
        have f1 : ∀ wx, Keep (fun b => W.heap.size ≤ b) w1 wx → wx.cell? ⟨(yf.add (N * 3)).block, (yf.add (N * 3)).off + 1, none⟩ = some (.slice afp f.params.length cfp) := fun wx kk => (hnew wx kk).cellx e1
        have f2 : ∀ wx, Keep (fun b => W.heap.size ≤ b) w1 wx → wx.cell? ⟨(yf.add (N * 3)).block, (yf.add (N * 3)).off + 2, none⟩ = some (.int .i64 f.ret) := fun wx kk => (hnew wx kk).cellx e2
        have nb0 : ¬ W.heap.size ≤ w.heap.size := by have := HB0.out.lt; omega
        have nb1 : ¬ W.heap.size ≤ w.heap.size + 1 := by have := HB1.out.lt; omega
        have d1 := (HB0.out.ext Hx1.out).kc (X := fun b => W.heap.size ≤ b) nb0 1 rfl
        have m0 := (HB1.out.ext Hx1.out).kc (X := fun b => W.heap.size ≤ b) nb1 0 rfl
        have m1 := (HB1.out.ext Hx1.out).kc (X := fun b => W.heap.size ≤ b) nb1 1 rfl
        have m2 := (HB1.out.ext Hx1.out).kc (X := fun b => W.heap.size ≤ b) nb1 2 rfl
        have m3 := (HB1.out.ext Hx1.out).kc (X := fun b => W.heap.size ≤ b) nb1 3 rfl
        have m4 := (HB1.out.ext Hx1.out).kc (X := fun b => W.heap.size ≤ b) nb1 4 rfl
        simp only [pcells, qA0, qA1, qA2] at d1 m0 m1 m2 m3 m4
        clear hfk e0 e1 e2 hIp hfm hq hnew nb0 nb1
        go_wp2
        refine wp_flowT (fun b => W.heap.size ≤ b) (by kernel_rfl) (by kernel_rfl) ?_
        repeat (apply FlowT.d; (intro w1 hk; unfold does; go_simp; (try go_ints); (first | exact DetR.mk | (simp only [↓IntWalk.iteOmega, Oper.doesUpon_value]; exact DetR.mk) | (simp only [↓IntWalk.iteOmega]; go_simp; (try go_ints); exact DetR.mk))); simp only [Act.put, qS0, qS1, qS2])
        refine FlowT.s (fun v w' => (∃ a c, v = .slice a q.length c) ∧ ERow W.heap.size w' v q ∧ w'.ownsRow W.heap.size 95 2 (.slice a7 E.length c7) E.length (E.flatMap eCells) ∧ Ext W w') 7 rfl (by kernel_rfl) (fun _ _ _ ⟨h1, h2, h3, h4⟩ y => ⟨h1, h2.ext y, own_ext h3 y, h4.trans y⟩) (fun w2 hC hk2 => ?_) ?_
        · unfold does
          go_simp
          refine CallR.act ((HCl w2 hC).out.mono ?_)
          rintro e w3 ⟨v, rfl, hr, hx⟩
          exact ⟨v, rfl, hk2.trans (hx.keep _), row_form hr, hr.low (Hx1.out.trans hC).size, own_ext Hr1.out (hC.trans hx), Hx1.out.trans (hC.trans hx)⟩
        rintro _ ⟨_, ⟨a8, c8, rfl⟩, _, _, _⟩
        simp only [Act.put, qS0, qS1, qS2]
        refine FlowT.s (fun v w' => (∃ a c, v = .slice a (E.length + q.length) c) ∧ w'.ownsRow W.heap.size 95 2 v (E.length + q.length) ((E ++ q).flatMap eCells) ∧ Ext W w') 8 rfl (by kernel_rfl) (fun _ _ _ ⟨h1, h2, h3⟩ y => ⟨h1, own_ext h2 y, h3.trans y⟩) (fun w2 hC hk2 => ?_) ?_
        · obtain ⟨_, hq8, hr8, hx8⟩ := hC
          refine does_append_src W.heap.size hx8.size 64 95 (.agg #[.int .i64 0, .int .i64 0]) 2 16 Tryz.underlying64 edge_info rfl (by omega) (by omega) rfl _ _ rfl (.slice a7 E.length c7) E.length (E.flatMap eCells) rfl hr8 a8 q.length c8 (q.flatMap eCells) rfl (own_src hq8 eCells_one) (by omega) ?_
          intro v' w' h1 h2
          exact ⟨hk2.trans (h2.mono fun b _ e => (World.ownsRow.lt hr8 b e).1), row_form h1, by rw [List.flatMap_append]; exact h1, Keep.new hx8 h2 (fun b e => (World.ownsRow.lt hr8 b e).1)⟩
        rintro _ ⟨_, ⟨a10, c10, rfl⟩, _, _⟩
        simp only [Act.put, qS0, qS1, qS2]
        repeat (apply FlowT.d; (intro w1 hk; unfold does; go_simp; (try go_ints); (first | exact DetR.mk | (simp only [↓IntWalk.iteOmega, Oper.doesUpon_value]; exact DetR.mk) | (simp only [↓IntWalk.iteOmega]; go_simp; (try go_ints); exact DetR.mk))); simp only [Act.put, qS0, qS1, qS2])
        refine FlowT.fin fun w4 hC4 hk4 => ?_
        obtain ⟨_, h5, h6⟩ := hC4
        have H5 := hid h5
        have H6 := hid h6
        clear h5 h6 hk4 HCl f0 f1 f2 d1 m0 m1 m2 m3 m4
        go_wp2
        go_roundw
        case rel => exact ⟨k + 1, E ++ q, by go_num, by omega, by rw [Hn.out, Hc.out], by rw [List.length_append]; omega, by rw [List.length_append]; exact H5.out, H6.out⟩
        case measure => simp [intOf]; omega
      · have Hc : Hid (P.callsOf r o = []) := hid (by unfold PP.callsOf; rw [if_neg (by rw [← HFe.out]; exact hF0)])
        go_wp2
        go_roundw
        case rel => exact ⟨k + 1, E, by go_num, by omega, by rw [Hn.out, Hc.out, List.append_nil], by omega, Hr1.out, Hx1.out⟩
        case measure => simp [intOf]; omega
    · obtain rfl : k = l.length := by omega
      have HEn : Hid (P.redges r has = E) := hid (by rw [Hr.out, HE.out, List.take_of_length_le (Nat.le_refl _)])
      go_wp2
      go_ret
      exact ⟨_, rfl, by unfold ERow; rw [HEn.out]; exact own_low Hr7.out HX.out.size, HX.out.trans Hx.out⟩
set_option maxRecDepth 100000 in
set_option maxHeartbeats 6400000 in
theorem redges_base (a1 a2 a3 : Option Addr) (c1 c2 c3 : Nat) (P : PP) (r : RV) (av hv : Value) (has : List (List Int)) (w : World) (n0 : Nat) (ad : Nat → Addr) (h : PW w n0 ad a1 a2 a3 c1 c2 c3 P) (ha : IntsR w n0 av r.args) (hh : SetsR w n0 hv has) (hfew : ∀ l ∈ has, l.length ≤ 10000) (hkd : (r.kind.toList == [98, 97, 115, 101]) = true) :
    Calls Tryz.prog 94 #[pval a1 a2 a3 c1 c2 c3 P, r.val av, hv] w fun e w' => ∃ v, e = .returned v ∧ ERow w.heap.size w' v (P.redges r has) ∧ Ext w w' := by
  obtain ⟨aa, ca, rfl, _⟩ := id ha
  obtain ⟨ah, ch, rfl⟩ := hh.form
  have hhl := hh.len
  have hal := ha.len
  obtain ⟨W1, hW1⟩ : ∃ W1, W1 = w.alloc (.cells (pcells a1 a2 a3 c1 c2 c3 P) 26) := ⟨_, rfl⟩
  have hx1 : Ext w W1 := by rw [hW1]; exact (Ext.refl _).alloc _
  obtain ⟨W, hW⟩ : ∃ W, W = W1.alloc (.cells #[.string r.kind, .int .i64 r.a, .int .i64 r.b, .int .i64 r.k, .slice aa r.args.length ca] 90) := ⟨_, rfl⟩
  have hx2 : Ext W1 W := by rw [hW]; exact (Ext.refl _).alloc _
  have s1 : W1.heap.size = w.heap.size + 1 := by rw [hW1, heap_size_alloc]
  have HX := hid (hx1.trans hx2)
  have HB0 : Hid (Blk W w.heap.size (pcells a1 a2 a3 c1 c2 c3 P) 26) := hid (by
    have : Blk W1 w.heap.size (pcells a1 a2 a3 c1 c2 c3 P) 26 := by rw [hW1]; exact Blk.new _ _ _
    exact this.ext hx2)
  have HB1 : Hid (Blk W (w.heap.size + 1) #[.string r.kind, .int .i64 r.a, .int .i64 r.b, .int .i64 r.k, .slice aa r.args.length ca] 90) := hid (by rw [← s1, hW]; exact Blk.new _ _ _)
  have HWe : Hid (W = (w.alloc (.cells #[.slice a1 P.vars.length c1, .slice a2 P.funs.length c2, .slice a3 P.stmts.length c3] 26)).alloc (.cells #[.string r.kind, .int .i64 r.a, .int .i64 r.b, .int .i64 r.k, .slice aa r.args.length ca] 90)) := hid (by rw [hW, hW1]; rfl)
  have HPW := hid h
  have HH := hid hh
  have HA := hid ha
  have Hfew := hid hfew
  unfold RV.val pval
  clear h ha hh hfew hW1 hW hx1 hx2 s1
  have hk0 : (r.kind.toList == [99, 111, 112, 121]) = false := by rw [eq_of_beq hkd]; rfl
  have hk1 : (r.kind.toList == [108, 111, 97, 100]) = false := by rw [eq_of_beq hkd]; rfl
  have hk2 : (r.kind.toList == [115, 116, 111, 114, 101]) = false := by rw [eq_of_beq hkd]; rfl
  have hk3 : (r.kind.toList == [99, 97, 108, 108]) = false := by rw [eq_of_beq hkd]; rfl
  have Hr : Hid (P.redges r has = []) := hid (by unfold PP.redges kCopy kLoad kStore kCall; rw [hk0, hk1, hk2, hk3]; rfl)
  clear hkd
  go_enter Tryz.func94, Tryz.ntmps94
  go_wp2
  go_ret
  exact ⟨_, rfl, by rw [Hr.out]; exact ERow.nil _ _, ((Ext.refl w).alloc _).alloc _⟩
theorem bBase_list : (bBase.toList == [98, 97, 115, 101]) = true := by decide +kernel
theorem bCall_list : (bCall.toList == [99, 97, 108, 108]) = true := by decide +kernel
structure SetsOk (P : PP) (has : List (List Int)) : Prop where
  len : has.length = P.nodesV
  ok : ∀ l ∈ has, chkE l = 0 ∧ ∀ x ∈ l, x < P.objectsV
theorem SetsOk.inr {P : PP} {has : List (List Int)} (h : SetsOk P has) : ∀ l ∈ has, InR l := fun l hl => (chkE_zero.1 (h.ok l hl).1).1
theorem srt_few {l : List Int} (h : chkE l = 0) : l.length ≤ 1000 := by
  obtain ⟨h1, h2⟩ := chkE_zero.1 h
  rw [← sset_self h2 h1]
  unfold sset
  rw [List.length_map]
  have := List.length_filter_le (fun n : Nat => decide ((n : Int) ∈ l)) (List.range 1000)
  rw [List.length_range] at this
  exact this
theorem nodes_vars (P : PP) : P.vars.length ≤ P.nodesV := by unfold PP.nodesV; omega
theorem redges_any (a1 a2 a3 : Option Addr) (c1 c2 c3 : Nat) (P : PP) (k : Nat) (hk : k < P.stmts.length) (av hv : Value) (has : List (List Int)) (w : World) (n0 : Nat) (ad : Nat → Addr) (h : PW w n0 ad a1 a2 a3 c1 c2 c3 P) (ha : IntsR w n0 av (P.ruleV k (P.stAt k)).args) (hh : SetsR w n0 hv has) (hs : SetsOk P has) (hn0 : n0 ≤ w.heap.size) :
    Calls Tryz.prog 94 #[pval a1 a2 a3 c1 c2 c3 P, (P.ruleV k (P.stAt k)).val av, hv] w fun e w' => ∃ v, e = .returned v ∧ ERow w.heap.size w' v (P.redges (P.ruleV k (P.stAt k)) has) ∧ Ext w w' := by
  have h0 := h.well.2 k (P.stAt k) hk (stAt_some hk)
  have hg := PP.good h0
  have hfew : ∀ l ∈ has, l.length ≤ 10000 := fun l hl => by have := srt_few (hs.ok l hl).1; omega
  have hnv := nodes_vars P
  have hl := hs.len
  obtain ⟨x, hx⟩ : ∃ x, x = P.stAt k := ⟨_, rfl⟩
  rw [← hx] at h0 hg ha ⊢
  rcases kind_cases h0 with g | g | g | g | g | g | g
  · have e : P.ruleV k x = ⟨bBase, x.x, x.y, k, []⟩ := by unfold PP.ruleV; rw [g]; rfl
    exact redges_base a1 a2 a3 c1 c2 c3 P _ av hv has w n0 ad h ha hh hfew (by rw [e]; exact bBase_list)
  · have e : P.ruleV k x = ⟨x.kind, x.y, x.x, k, []⟩ := by unfold PP.ruleV; rw [isK_ne g (k' := kAddr) rfl, isK_ne g (k' := kNew) rfl, isK_ne g (k' := kFun) rfl, isK_ne g (k' := kCall) rfl]; rfl
    exact redges_copy a1 a2 a3 c1 c2 c3 P _ av hv has w n0 ad h ha hh hfew (by rw [e]; exact g)
  · have e : P.ruleV k x = ⟨x.kind, x.y, x.x, k, []⟩ := by unfold PP.ruleV; rw [isK_ne g (k' := kAddr) rfl, isK_ne g (k' := kNew) rfl, isK_ne g (k' := kFun) rfl, isK_ne g (k' := kCall) rfl]; rfl
    have hy := hg.yv (isK_ne g (k' := kFun) rfl) (isK_ne g (k' := kNew) rfl)
    exact redges_load a1 a2 a3 c1 c2 c3 P _ av hv has w n0 ad h ha hh hfew (by rw [e]; exact g) (by rw [e]; show 0 ≤ x.y ∧ x.y < has.length; omega)
  · have e : P.ruleV k x = ⟨x.kind, x.y, x.x, k, []⟩ := by unfold PP.ruleV; rw [isK_ne g (k' := kAddr) rfl, isK_ne g (k' := kNew) rfl, isK_ne g (k' := kFun) rfl, isK_ne g (k' := kCall) rfl]; rfl
    have hy := hg.gx
    exact redges_store a1 a2 a3 c1 c2 c3 P _ av hv has w n0 ad h ha hh hfew (by rw [e]; exact g) (by rw [e]; show 0 ≤ x.x ∧ x.x < has.length; omega)
  · have e : P.ruleV k x = ⟨bBase, x.x, P.placeV k, k, []⟩ := by unfold PP.ruleV; rw [isK_ne g (k' := kAddr) rfl, g]; rfl
    exact redges_base a1 a2 a3 c1 c2 c3 P _ av hv has w n0 ad h ha hh hfew (by rw [e]; exact bBase_list)
  · have e : P.ruleV k x = ⟨bBase, x.x, (P.nodesV : Int) + x.y, k, []⟩ := by unfold PP.ruleV; rw [isK_ne g (k' := kAddr) rfl, isK_ne g (k' := kNew) rfl, g]; rfl
    exact redges_base a1 a2 a3 c1 c2 c3 P _ av hv has w n0 ad h ha hh hfew (by rw [e]; exact bBase_list)
  · have e : P.ruleV k x = ⟨bCall, x.y, x.x, k, x.args⟩ := by unfold PP.ruleV; rw [isK_ne g (k' := kAddr) rfl, isK_ne g (k' := kNew) rfl, isK_ne g (k' := kFun) rfl, g]; rfl
    have hy := hg.yv (isK_ne g (k' := kFun) rfl) (isK_ne g (k' := kNew) rfl)
    exact redges_call a1 a2 a3 c1 c2 c3 P _ av hv has w n0 ad h ha hh hfew (by rw [e]; exact bCall_list) (by rw [e]; show 0 ≤ x.y ∧ x.y < has.length; omega) hs.inr hn0
end Go.Proofs.YtihdpijgngooaaaGreatDoor
namespace Go.Proofs.YtihdpijgngooaaaGreatDoor
def lexLt (a b : Int × Int) : Prop := a.1 < b.1 ∨ (a.1 = b.1 ∧ a.2 < b.2)
def lexLe (a b : Int × Int) : Prop := lexLt a b ∨ a = b
theorem lexLt.irr (a : Int × Int) : ¬ lexLt a a := by unfold lexLt; omega
theorem lexLt.trans {a b c : Int × Int} (h : lexLt a b) (k : lexLt b c) : lexLt a c := by unfold lexLt at *; omega
theorem lexLt.tri (a b : Int × Int) : lexLt a b ∨ a = b ∨ lexLt b a := by
  obtain ⟨a1, a2⟩ := a
  obtain ⟨b1, b2⟩ := b
  unfold lexLt
  simp only [Prod.mk.injEq]
  omega
theorem lexLe.lt {a b : Int × Int} (h : lexLe a b) (hn : a ≠ b) : lexLt a b := h.elim id fun e => absurd e hn
theorem lexLe.trans_lt {a b c : Int × Int} (h : lexLe a b) (k : lexLt b c) : lexLt a c := h.elim (fun h => h.trans k) (fun e => by rw [e]; exact k)
abbrev SrtP (l : List (Int × Int)) : Prop := l.Pairwise lexLt
theorem srtP_uniq : ∀ {a b : List (Int × Int)}, SrtP a → SrtP b → (∀ x, x ∈ a ↔ x ∈ b) → a = b
  | [], [], _, _, _ => rfl
  | [], y :: b, _, _, h => absurd ((h y).2 (List.mem_cons_self ..)) (List.not_mem_nil)
  | x :: a, [], _, _, h => absurd ((h x).1 (List.mem_cons_self ..)) (List.not_mem_nil)
  | x :: a, y :: b, ha, hb, h => by
    obtain ⟨ha1, ha2⟩ := List.pairwise_cons.1 ha
    obtain ⟨hb1, hb2⟩ := List.pairwise_cons.1 hb
    have hxy : x = y := by
      have h1 : x ∈ y :: b := (h x).1 (List.mem_cons_self ..)
      have h2 : y ∈ x :: a := (h y).2 (List.mem_cons_self ..)
      rcases List.mem_cons.1 h1 with e | e
      · exact e
      · rcases List.mem_cons.1 h2 with f | f
        · exact f.symm
        · exact absurd ((hb1 x e).trans (ha1 y f)) (lexLt.irr _)
    subst hxy
    congr 1
    refine srtP_uniq ha2 hb2 fun z => ⟨fun hz => ?_, fun hz => ?_⟩
    · rcases List.mem_cons.1 ((h z).1 (List.mem_cons_of_mem _ hz)) with e | e
      · have := ha1 z hz; rw [e] at this; exact absurd this (lexLt.irr _)
      · exact e
    · rcases List.mem_cons.1 ((h z).2 (List.mem_cons_of_mem _ hz)) with e | e
      · have := hb1 z hz; rw [e] at this; exact absurd this (lexLt.irr _)
      · exact e
theorem compactP_upto (zs : List (Int × Int)) (hz : zs.Pairwise lexLe) : ∀ m, m ≤ zs.length → (∀ x, x ∈ Go.Lib.compactUpTo zs.toArray m ↔ x ∈ zs.take m) ∧ SrtP (Go.Lib.compactUpTo zs.toArray m)
  | 0, _ => ⟨fun x => by simp [Go.Lib.compactUpTo], by simp [Go.Lib.compactUpTo]⟩
  | m + 1, hm => by
    obtain ⟨h1, h2⟩ := compactP_upto zs hz m (by omega)
    have hg : zs.toArray[m]! = zs[m]'(by omega) := by simp [getElem!_pos, show m < zs.length by omega]
    have ht : zs.take (m + 1) = zs.take m ++ [zs[m]'(by omega)] := by rw [List.take_add_one, List.getElem?_eq_getElem (by omega)]; rfl
    rw [Go.Lib.compactUpTo_succ]
    by_cases hk : Go.Lib.keeps zs.toArray m = true
    · rw [if_pos hk, hg, ht]
      refine ⟨fun x => by rw [List.mem_append, List.mem_append, h1], ?_⟩
      refine List.pairwise_append.2 ⟨h2, List.pairwise_singleton _ _, fun a ha b hb => ?_⟩
      obtain rfl := List.mem_singleton.1 hb
      have ha' := (h1 a).1 ha
      obtain ⟨i, hi, rfl⟩ := List.getElem_of_mem ha'
      rw [List.length_take] at hi
      rw [List.getElem_take]
      unfold Go.Lib.keeps at hk
      rcases of_decide_eq_true hk with e | e
      · omega
      · have hg2 : zs.toArray[m - 1]! = zs[m - 1]'(by omega) := by simp [getElem!_pos, show m - 1 < zs.length by omega]
        rw [hg, hg2] at e
        have p1 : lexLt (zs[m - 1]'(by omega)) (zs[m]'(by omega)) := (List.pairwise_iff_getElem.1 hz (m - 1) m (by omega) (by omega) (by omega)).lt fun h => e h.symm
        have p2 : lexLe (zs[i]'(by omega)) (zs[m - 1]'(by omega)) := by
          rcases Nat.lt_or_ge i (m - 1) with h | h
          · exact List.pairwise_iff_getElem.1 hz i (m - 1) (by omega) (by omega) h
          · have : i = m - 1 := by omega
            subst this; exact .inr rfl
        exact p2.trans_lt p1
    · rw [if_neg hk, List.append_nil]
      refine ⟨fun x => ?_, h2⟩
      rw [h1, ht, List.mem_append]
      refine ⟨.inl, fun h => h.elim id fun hx => ?_⟩
      obtain rfl := List.mem_singleton.1 hx
      unfold Go.Lib.keeps at hk
      have hk' : ¬ (m = 0 ∨ zs.toArray[m]! ≠ zs.toArray[m - 1]!) := fun h => hk (decide_eq_true h)
      have hg2 : zs.toArray[m - 1]! = zs[m - 1]'(by omega) := by simp [getElem!_pos, show m - 1 < zs.length by omega]
      have e : zs[m]'(by omega) = zs[m - 1]'(by omega) := by
        rcases Classical.em (zs[m]'(by omega) = zs[m - 1]'(by omega)) with e | e
        · exact e
        · exact absurd (.inr (by rw [hg, hg2]; exact e)) hk'
      have hm0 : m ≠ 0 := fun h => hk' (.inl h)
      rw [e]
      have : zs[m - 1]'(by omega) = (zs.take m)[m - 1]'(by rw [List.length_take]; omega) := by rw [List.getElem_take]
      rw [this]
      exact List.getElem_mem _
theorem compactP (zs : List (Int × Int)) (hz : zs.Pairwise lexLe) : (∀ x, x ∈ Go.Lib.compact zs ↔ x ∈ zs) ∧ SrtP (Go.Lib.compact zs) := by
  obtain ⟨h1, h2⟩ := compactP_upto zs hz _ (Nat.le_refl _)
  refine ⟨fun x => ?_, by unfold Go.Lib.compact; exact h2⟩
  have := h1 x
  unfold Go.Lib.compact
  rw [this, List.take_of_length_le (Nat.le_refl _)]
end Go.Proofs.YtihdpijgngooaaaGreatDoor
namespace Go.Proofs.YtihdpijgngooaaaGreatDoor
open Go Go.RowKit
def PP.edges0 (P : PP) (has : List (List Int)) : List (Int × Int) := P.rulesV.flatMap fun r => P.redges r has
def PP.sedges (P : PP) (x : PS) (has : List (List Int)) : List (Int × Int) := P.redges (P.ruleV 0 x) has
theorem redges_nil {P : PP} {r : RV} {has : List (List Int)} (h : r.kind = bBase) : P.redges r has = [] := by
  have e := eq_of_beq bBase_list
  unfold PP.redges kCopy kLoad kStore kCall
  rw [h, e]; rfl
end Go.Proofs.YtihdpijgngooaaaGreatDoor
