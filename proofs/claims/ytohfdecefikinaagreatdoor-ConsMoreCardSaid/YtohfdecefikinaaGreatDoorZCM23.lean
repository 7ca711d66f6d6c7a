/- Texts of one proof, put together: SB S1 VB Y1. -/
import Derived.Test.YtohfdecefikinaaGreatDoorZCM06
import Derived.Test.YtohfdecefikinaaGreatDoorZCM07
import Derived.Test.YtohfdecefikinaaGreatDoorZCM09
import Derived.Test.YtohfdecefikinaaGreatDoorZCM19
import Derived.Test.YtohfdecefikinaaGreatDoorZCM22
import Derived.Sort.Row
import Derived.Sort.Grow
import Derived.ProofKit
import Derived.OpenShut
import Derived.Lib.SmallJoins
import Derived.Deep.Slices

/- Rows of numbers whose cells are put anew: sorted, compacted. -/
namespace Go.Proofs.YtohfdecefikinaaGreatDoor
set_option linter.unusedSimpArgs false
set_option linter.unusedVariables false
open Go Go.RowKit Go.Sort

theorem IRow.cur {base : Nat} {w : World} {g n cap : Nat} {l : List Int} (h : IRow base w (.slice (some ⟨g, 0, none⟩) n cap) l) : n = l.length ∧ base ≤ g ∧ l.length ≤ cap ∧ cap ≤ maxLen ∧ ∃ cur, Blk w g cur 3 ∧ cur.size = cap ∧ cur.toList.take l.length = icells l := by
  rcases h.2 with ⟨h1, _⟩ | ⟨g', cap', cur, h1, h2, h3, h4, h5, h6, h7⟩
  · simp at h1
  · simp only [Value.slice.injEq, Option.some.injEq, Addr.mk.injEq, and_true] at h1
    obtain ⟨rfl, rfl, rfl⟩ := h1
    exact ⟨rfl, h2, h4, h5, cur, h3, by omega, by simpa using h7⟩
theorem IRow.holds {base : Nat} {w : World} {g n cap : Nat} {l : List Int} (h : IRow base w (.slice (some ⟨g, 0, none⟩) n cap) l) : Holds (Value.int .i64) w g 0 l.toArray := by
  obtain ⟨rfl, _⟩ := h.cur
  intro j hj
  have hj' : j < l.length := by simpa using hj
  rw [Nat.zero_add]
  refine ⟨?_, own_free h j⟩
  rw [own_get h j (u := .int .i64 (l[j]'hj')) (by unfold icells; rw [List.getElem?_map, List.getElem?_eq_getElem hj']; rfl)]
  simp [getElem!_pos, hj']
theorem put_at {w : World} {g q : Nat} {cur : Array Value} {t : TypeId} {ys : List Int} {os : Array Obj} (hb : Blk w g cur t) :
    Blk (grow (putRow (Value.int .i64) (Sort.ahead w q) g 0 ys.toArray) os) g (putCells (Value.int .i64) 0 ys.toArray cur) t ∧ Keep (fun b => b = g) w (grow (putRow (Value.int .i64) (Sort.ahead w q) g 0 ys.toArray) os) := by
  have hlt := hb.lt
  have hh : ∀ k, k < w.heap.size → (grow (putRow (Value.int .i64) (Sort.ahead w q) g 0 ys.toArray) os).heap[k]? = (w.heap.modify g (onCells (putCells (Value.int .i64) 0 ys.toArray)))[k]? := fun k hk => by
    unfold grow putRow mapBlock Sort.ahead
    simp only
    rw [Array.getElem?_append_left (by simpa using hk)]
  constructor
  · unfold Blk
    rw [hh g hlt, Array.getElem?_modify, if_pos rfl]
    have : w.heap[g]? = some (.cells cur t (0, 0)) := hb
    rw [this]
    rfl
  · refine ⟨rfl, rfl, rfl, ?_, fun k hk hx => ?_⟩
    · unfold grow putRow mapBlock Sort.ahead
      simp
    · rw [hh k hk, Array.getElem?_modify, if_neg (fun e => hx e.symm)]
theorem put_cells (ys : List Int) (cur : Array Value) (k : Nat) (hk : k ≤ ys.length) (hc : ys.length ≤ cur.size) : (putCells (Value.int .i64) 0 ys.toArray cur).toList.take k = icells (ys.take k) := by
  apply List.ext_getElem?
  intro i
  rw [List.getElem?_take]
  unfold icells
  rw [List.getElem?_map, List.getElem?_take]
  by_cases hi : i < k
  · rw [if_pos hi, if_pos hi, Array.getElem?_toList]
    unfold putCells
    rw [Array.getElem?_mapIdx, Array.getElem?_eq_getElem (by omega), List.getElem?_eq_getElem (by omega)]
    simp only [Option.map_some, Nat.zero_le, true_and, Nat.zero_add, List.size_toArray, Nat.sub_zero]
    rw [if_pos (by omega)]
    congr 1
    simp [getElem!_pos, show i < ys.length by omega]
  · rw [if_neg hi, if_neg hi]; rfl
/-- A row whose cells are put anew, and that is cut. -/
theorem IRow.put {base : Nat} {w : World} {g n cap q : Nat} {zs ys : List Int} {os : Array Obj} (h : IRow base w (.slice (some ⟨g, 0, none⟩) n cap) zs) (hy : ys.length = zs.length) (k : Nat) (hk : k ≤ ys.length) :
    IRow base (grow (putRow (Value.int .i64) (Sort.ahead w q) g 0 ys.toArray) os) (.slice (some ⟨g, 0, none⟩) k cap) (ys.take k) ∧ Keep (fun b => b = g) w (grow (putRow (Value.int .i64) (Sort.ahead w q) g 0 ys.toArray) os) := by
  obtain ⟨rfl, h1, h2, h3, cur, h4, h5, h6⟩ := h.cur
  obtain ⟨p1, p2⟩ := put_at (q := q) (ys := ys) (os := os) h4
  refine ⟨?_, p2⟩
  have hl : (ys.take k).length = k := by rw [List.length_take]; omega
  unfold IRow
  rw [hl]
  refine ⟨by simp [icells]; omega, .inr ⟨g, cap, _, rfl, h1, p1, by omega, h3, ?_, ?_⟩⟩
  · unfold putCells
    rw [Array.size_mapIdx]; omega
  · rw [Nat.mul_one]; exact put_cells ys cur k hk (by omega)
theorem IRow.case {base : Nat} {w : World} {v : Value} {l : List Int} (h : IRow base w v l) : (v = .slice none 0 0 ∧ l = []) ∨ ∃ g cap, v = .slice (some ⟨g, 0, none⟩) l.length cap := by
  rcases h.2 with ⟨h1, h2⟩ | ⟨g, cap, cur, h1, _⟩
  · exact .inl ⟨h1, List.eq_nil_of_length_eq_zero h2⟩
  · exact .inr ⟨g, cap, h1⟩
end Go.Proofs.YtohfdecefikinaaGreatDoor


/- Sets: a set's check, of one and of two. -/
namespace Go.Proofs.YtohfdecefikinaaGreatDoor
set_option linter.unusedSimpArgs false
set_option linter.unusedVariables false
open Go Go.RowKit

/-- The errors that sets tell. -/
structure ErrS (w : World) (ad : Nat → Addr) : Prop where
  at2 : w.cell? ⟨4, 0, none⟩ = some (evOf ad 2)
  at10 : w.cell? ⟨9, 0, none⟩ = some (evOf ad 10)
theorem ErrS.ext {w w' : World} {ad : Nat → Addr} (h : ErrS w ad) (x : Ext w w') : ErrS w' ad := ⟨x.cellx h.at2, x.cellx h.at10⟩

set_option maxRecDepth 100000 in
set_option maxHeartbeats 1600000 in
theorem setcheck_any (v : Value) (l : List Int) (w : World) (n0 : Nat) (ad : Nat → Addr) (hE : ErrS w ad) (h : IntsR w n0 v l) :
    Calls Tryz.prog 64 #[v] w fun e w' => e = .returned (errv (evOf ad) (chkE l)) ∧ Ext w w' := by
  have HI := hid h
  obtain ⟨a, cap, rfl, h2, h3, h4, h5⟩ := id h
  have HE := hid hE
  have H4 := hid h4
  have H5 := hid h5
  have g2 := hE.at2
  have g10 := hE.at10
  unfold evOf at g2 g10
  have hml : (l.length : Int) ≤ 9223372036854775807 := by omega
  clear h h2 h3 h4 h5 hE
  go_enter Tryz.func64, Tryz.ntmps64
  go_wp2
  go_loop [8] (fun t8 => ∃ k : Nat, t8 = .int .i64 (k : Int) ∧ k ≤ l.length ∧ ∀ j t, j < k → l[j]? = some t → 0 ≤ t ∧ t < 1000) (fun t8 => l.length - (intOf t8).toNat)
  case atStart => exact ⟨0, rfl, Nat.zero_le _, fun j t h => by omega⟩
  case round =>
    obtain ⟨k, rfl, hk, hp⟩ := hrel
    have Hp := hid hp
    clear hp
    by_cases hlt : k < l.length
    · obtain ⟨y, rfl⟩ := H4.out (by omega)
      obtain ⟨q, hq⟩ : ∃ q, l[k]? = some q := ⟨_, List.getElem?_eq_getElem hlt⟩
      have hc := (H5.out y rfl (by omega)).2 k hlt q hq
      have Hq := hid hq
      clear hq
      by_cases hq0 : q < 0
      · have Hr := hid (chkE_two (List.mem_of_getElem? Hq.out) (by omega))
        go_wp2
        go_ret
        exact ⟨by rw [Hr.out]; rfl, Ext.refl _⟩
      · by_cases hq1 : 1000 ≤ q
        · have Hr := hid (chkE_two (List.mem_of_getElem? Hq.out) (by omega))
          go_wp2
          go_ret
          exact ⟨by rw [Hr.out]; rfl, Ext.refl _⟩
        · have Hb : Hid (0 ≤ q ∧ q < 1000) := hid (by omega)
          go_wp2
          refine ⟨⟨k + 1, by go_num, by omega, fun j t hj ht => ?_⟩, by simp [intOf]; omega⟩
          by_cases hjk : j = k
          · subst hjk
            obtain rfl := Option.some.inj (Hq.out.symm.trans ht)
            exact Hb.out
          · exact Hp.out j t (by omega) ht
    · obtain rfl : k = l.length := by omega
      have Hin : Hid (InR l) := hid fun t ht => by
        obtain ⟨j, hj, e⟩ := List.mem_iff_getElem.1 ht
        exact Hp.out j t hj (by rw [List.getElem?_eq_getElem hj, e])
      go_wp2
      go_loopw [5] (fun t5 wr => ∃ i : Nat, t5 = .int .i64 ((i : Int) + 1) ∧ i ≤ l.length ∧ (∀ j, j < i → j + 1 < l.length → l.getD j 0 < l.getD (j + 1) 0) ∧ Ext w wr) (fun t5 _ => l.length + 1 - (intOf t5).toNat)
      case atStart => exact ⟨0, rfl, Nat.zero_le _, fun j hj => by omega, Ext.refl _⟩
      case round =>
        obtain ⟨i, rfl, hi, hp, hx⟩ := hrel
        have Hs := hid hp
        have Hx := hid hx
        clear hp hx
        by_cases hlt : i + 1 < l.length
        · obtain ⟨y, rfl⟩ := H4.out (by omega)
          obtain ⟨p, hp⟩ : ∃ p, l[i]? = some p := ⟨_, List.getElem?_eq_getElem (by omega)⟩
          obtain ⟨q, hq⟩ : ∃ q, l[i + 1]? = some q := ⟨_, List.getElem?_eq_getElem hlt⟩
          have hcp := (H5.out y rfl (by omega)).2 i (by omega) p hp
          have hcq := (H5.out y rfl (by omega)).2 (i + 1) hlt q hq
          rw [add_posU y (i + 1) (by omega)] at hcq
          have c0 : ∀ w1, Keep (fun _ => False) wr w1 → w1.cell? (y.add i) = some (.int .i64 p) := fun w1 k => (Hx.out.trans k.ext).cellx hcp
          have c1 : ∀ w1, Keep (fun _ => False) wr w1 → w1.cell? ⟨y.block, y.off + (i + 1), none⟩ = some (.int .i64 q) := fun w1 k => (Hx.out.trans k.ext).cellx hcq
          have Hp : Hid (l.getD i 0 = p) := hid (by rw [List.getD_eq_getElem?_getD, hp]; rfl)
          have Hq : Hid (l.getD (i + 1) 0 = q) := hid (by rw [List.getD_eq_getElem?_getD, hq]; rfl)
          have gx10 := Hx.out.cellx g10
          clear hp hq hcp hcq
          by_cases hpq : q ≤ p
          · have Hr := hid (chkE_ten Hin.out hlt (by rw [Hp.out, Hq.out]; exact hpq))
            go_wp2
            refine wp_flowT (fun _ => False) (by kernel_rfl) (by kernel_rfl) ?_
            repeat (apply FlowT.d; (intro w1 hk; unfold does; go_simp; (try go_ints); (first | exact DetR.mk | (simp only [↓IntWalk.iteOmega, Oper.doesUpon_value]; exact DetR.mk) | (simp only [↓IntWalk.iteOmega]; go_simp; (try go_ints); exact DetR.mk))); simp only [Act.put, List.setIfInBounds_toArray, List.set_cons_zero, List.set_cons_succ])
            refine FlowT.fin fun w1 hx1 hk1 => ?_
            have gy10 := hx1.cellx gx10
            have Hx1 := hid (Hx.out.trans hx1)
            clear hx1 hk1 c0 c1 gx10
            go_wp2
            go_ret
            exact ⟨by rw [Hr.out]; rfl, Hx1.out⟩
          · have Hlt : Hid (l.getD i 0 < l.getD (i + 1) 0) := hid (by rw [Hp.out, Hq.out]; omega)
            go_wp2
            refine wp_flowT (fun _ => False) (by kernel_rfl) (by kernel_rfl) ?_
            repeat (apply FlowT.d; (intro w1 hk; unfold does; go_simp; (try go_ints); (first | exact DetR.mk | (simp only [↓IntWalk.iteOmega, Oper.doesUpon_value]; exact DetR.mk) | (simp only [↓IntWalk.iteOmega]; go_simp; (try go_ints); exact DetR.mk))); simp only [Act.put, List.setIfInBounds_toArray, List.set_cons_zero, List.set_cons_succ])
            refine FlowT.fin fun w1 hx1 hk1 => ?_
            have Hx1 := hid (Hx.out.trans hx1)
            clear hx1 hk1 c0 c1 gx10
            go_wp2
            go_roundw
            case rel =>
              refine ⟨i + 1, by go_num, by omega, fun j hj hjl => ?_, Hx1.out⟩
              by_cases hji : j = i
              · subst hji; exact Hlt.out
              · exact Hs.out j (by omega) hjl
            case measure => simp [intOf]; omega
        · have Hr := hid (chkE_ok Hin.out fun j hj => Hs.out j (by omega) hj)
          go_wp2
          go_ret
          exact ⟨by rw [Hr.out]; rfl, Hx.out⟩

/-- What the check of two tells. -/
def bothE (a b : List Int) : Nat := if chkE a = 0 then chkE b else chkE a
set_option maxRecDepth 100000 in
set_option maxHeartbeats 800000 in
theorem setboth_any (va vb : Value) (a b : List Int) (w : World) (n0 : Nat) (ad : Nat → Addr) (hE : ErrS w ad) (ha : IntsR w n0 va a) (hb : IntsR w n0 vb b) :
    Calls Tryz.prog 51 #[va, vb] w fun e w' => e = .returned (errv (evOf ad) (bothE a b)) ∧ Ext w w' := by
  have HA := hid (setcheck_any va a w n0 ad hE ha)
  have HB := fun w1 (x : Ext w w1) => hid (setcheck_any vb b w1 n0 ad (hE.ext x) (hb.old (x.old n0)))
  obtain ⟨aa, ca, rfl, _⟩ := ha
  obtain ⟨ab, cb, rfl, _⟩ := hb
  clear hE
  by_cases h0 : chkE a = 0
  · have Hr := hid (show bothE a b = chkE b by unfold bothE; rw [if_pos h0])
    rw [h0] at HA
    unfold errv at HA
    rw [if_pos rfl] at HA
    clear h0
    go_enter Tryz.func51, Tryz.ntmps51
    go_wp2_with fail
    refine HA.out.mono ?_
    intro e w1 hx
    obtain ⟨rfl, hx1⟩ := hx
    have HB1 := HB w1 hx1
    have Hx1 := hid hx1
    clear HA HB hx1
    go_wp2_with fail
    refine HB1.out.mono ?_
    intro e w2 hx
    obtain ⟨rfl, hx2⟩ := hx
    have Hx2 := hid (Hx1.out.trans hx2)
    clear HB1 hx2
    generalize hev : errv (evOf ad) (chkE b) = ev
    have Hev := hid hev
    clear hev
    go_wp2
    go_ret
    exact ⟨by rw [Hr.out, Hev.out]; rfl, Hx2.out⟩
  · have Hr := hid (show errv (evOf ad) (bothE a b) = evOf ad (chkE a) by unfold bothE errv; rw [if_neg h0, if_neg h0])
    unfold errv evOf at HA
    rw [if_neg h0] at HA
    clear h0
    go_enter Tryz.func51, Tryz.ntmps51
    go_wp2_with fail
    refine HA.out.mono ?_
    intro e w1 hx
    obtain ⟨rfl, hx1⟩ := hx
    have Hx1 := hid hx1
    clear HA HB hx1
    go_wp2
    go_ret
    exact ⟨by rw [Hr.out]; rfl, Hx1.out⟩
end Go.Proofs.YtohfdecefikinaaGreatDoor


/- Programs that came in. -/
namespace Go.Proofs.YtohfdecefikinaaGreatDoor
set_option linter.unusedSimpArgs false
set_option linter.unusedVariables false
open Go Go.ChangeShapes Go.WideShapes Go.ChangeAt Go.WideMaps Go.WideElems Go.RowKit Go.Joins Go.Deep

section
variable {H : Type} {enc : TypeId × Value → H} {P : Program} {w : World} {base : Nat} {spare : Nat → Bool} {held : Bool}
set_option maxRecDepth 100000 in
theorem open_agg3 {r : Reach} {b0 : Nat} {t : TypeId} {f0 f1 f2 : Field} {v : Value} {d : DataW H} {p : List MemPlace} (hs : P.underlying t = some (.struct #[f0, f1, f2])) (hone : oneCellFields P #[f0, f1, f2] = true) (hC : P.cellsOf t = 3)
    (hv : Value.okWide P w r b0 t v) (h : DataW.Trod enc P w base spare held t v d p) :
    ∃ (v0 v1 v2 : Value) (y0 y1 y2 : DataW H × List MemPlace) (n : Nat), v = .agg #[v0, v1, v2] ∧
      DataW.trod enc P w base spare held n f0.type [v0] = some y0 ∧ DataW.trod enc P w base spare held n f1.type [v1] = some y1 ∧ DataW.trod enc P w base spare held n f2.type [v2] = some y2 := by
  obtain ⟨cs, rfl, hsz⟩ := okWide_struct hs hv
  obtain ⟨l⟩ := cs
  match l, hsz.trans hC with
  | [c0, c1, c2], _ =>
    obtain ⟨fuel, hf⟩ := h
    obtain ⟨xs, n, _, hx, _, hlen, hg⟩ := DataW.trod_struct hs hf
    obtain ⟨o0, k0⟩ := hone_of hone 0 f0 rfl
    obtain ⟨o1, k1⟩ := hone_of hone 1 f1 rfl
    obtain ⟨o2, k2⟩ := hone_of hone 2 f2 rfl
    match xs, hlen with
    | [y0, y1, y2], _ =>
      exact ⟨c0, c1, c2, y0, y1, y2, n, rfl, by simpa [Value.cells, o0, k0] using hg 0 f0 rfl, by simpa [Value.cells, o1, k1] using hg 1 f1 rfl, by simpa [Value.cells, o2, k2] using hg 2 f2 rfl⟩
end
theorem cellsU_prog : Tryz.prog.cellsOf 26 = 3 := by kernel_rfl
theorem cellsU_fun : Tryz.prog.cellsOf 67 = 3 := by kernel_rfl
theorem cellsU_stmt : Tryz.prog.cellsOf 65 = 4 := by kernel_rfl
theorem cellsU_str : Tryz.prog.cellsOf 9 = 1 := by kernel_rfl
theorem cellsU_int : Tryz.prog.cellsOf 3 = 1 := by kernel_rfl
theorem cellsU_ints : Tryz.prog.cellsOf 42 = 1 := by kernel_rfl
theorem listU3 {α : Type} {l : List α} (h : l.length = 3) : ∃ c0 c1 c2, l = [c0, c1, c2] := by
  match l, h with
  | [c0, c1, c2], _ => exact ⟨c0, c1, c2, rfl⟩
theorem listU4 {α : Type} {l : List α} (h : l.length = 4) : ∃ c0 c1 c2 c3, l = [c0, c1, c2, c3] := by
  match l, h with
  | [c0, c1, c2, c3], _ => exact ⟨c0, c1, c2, c3, rfl⟩

section
variable {H : Type} {enc : TypeId × Value → H} {w : World} {base : Nat} {sp : Nat → Bool} {held : Bool} {n : Nat}
theorem add_addU (a : Addr) (i j : Nat) : (a.add i).add j = a.add (i + j) := Go.Deep.add_add a i j
theorem maxLen_eq : maxLen = 9223372036854775807 := by decide
/-- Elements, one by one. -/
theorem elR_of {α : Type} [Inhabited α] {t e : TypeId} {size : Nat} {v : Value} {x : DataW H × List MemPlace} (ht : Tryz.prog.underlying t = some (.slice e)) (hc : Tryz.prog.cellsOf e = size) (h0 : 0 < size) (E : Nat → Addr → α → Prop)
    (hE : ∀ (i m : Nat) (y : Addr) (cs : List Value) (z : DataW H × List MemPlace), (∀ j, j < size → w.cell? ((y.add (i * size)).add j) = cs[j]?) → cs.length = size → DataW.trod enc Tryz.prog w base sp held m e cs = some z → ∃ a, E i y a)
    (h : DataW.trod enc Tryz.prog w base sp held n t [v] = some x) : ∃ l : List α, ElR w.heap.size v l.length fun i y => ∀ a, l[i]? = some a → E i y a := by
  have hml := maxLen_eq
  rcases open_slice ht h with ⟨hcs, _⟩ | ⟨y, l, c, m, k, D, Pl, hcs, _, hl, hm, hmm, _, hx⟩
  · simp only [List.cons.injEq, and_true] at hcs
    subst hcs
    exact ⟨[], none, 0, rfl, Nat.le_refl _, by decide, fun h => absurd h (by simp), fun y hy => by cases hy⟩
  simp only [List.cons.injEq, and_true] at hcs
  subst hcs
  have hlm : l ≤ m := by rw [hmm]; split <;> omega
  have each : ∀ i, i < l → ∃ a : α, E i y a ∧ y.block < w.heap.size := by
    intro i hi
    obtain ⟨cs', h1, h2⟩ := hx i (by omega)
    rw [hc] at h1
    obtain ⟨_, hlen, hcell⟩ := World.cells?_some h1
    obtain ⟨a, ha⟩ := hE i k y cs' _ (fun j hj => hcell j hj) hlen h2
    refine ⟨a, ha, ?_⟩
    have h3 := hcell 0 h0
    obtain ⟨u, hu⟩ : ∃ u, cs'[0]? = some u := ⟨_, List.getElem?_eq_getElem (by omega)⟩
    rw [hu] at h3
    have := cell_lt h3
    rwa [add_block, add_block] at this
  obtain ⟨Z, hZ⟩ := choose_lt each
  refine ⟨(List.range l).map Z, some y, c, by simp, by simpa using hl, by omega, fun _ => ⟨_, rfl⟩, fun y' hy hp => ?_⟩
  obtain rfl := Option.some.inj hy
  have hp' : 0 < l := by simpa using hp
  refine ⟨(hZ 0 hp').2, fun i hi a ha => ?_⟩
  have hi' : i < l := by simpa using hi
  rw [List.getElem?_map, List.getElem?_range hi'] at ha
  obtain rfl := Option.some.inj ha
  exact (hZ i hi').1
set_option maxRecDepth 100000 in
theorem intsR_of {v : Value} {x : DataW H × List MemPlace} (h : DataW.trod enc Tryz.prog w base sp held n 42 [v] = some x) : ∃ l, IntsR w w.heap.size v l := by
  refine elR_of (α := Int) Tryz.underlying42 cellsU_int (by decide) (fun i y s => w.cell? (y.add i) = some (.int .i64 s)) (fun i m y cs z hc hl ht => ?_) h
  obtain ⟨k, e, _, _⟩ := DataW.trod_int Tryz.underlying3 ht
  subst e
  refine ⟨k, ?_⟩
  have := hc 0 (by decide)
  simpa [add_addU, Addr.add] using this
set_option maxRecDepth 100000 in
theorem strsR_of {v : Value} {x : DataW H × List MemPlace} (h : DataW.trod enc Tryz.prog w base sp held n 22 [v] = some x) : ∃ l, StrsR w w.heap.size v l := by
  refine elR_of (α := ByteArray) Tryz.underlying22 cellsU_str (by decide) (fun i y s => w.cell? (y.add i) = some (.string s)) (fun i m y cs z hc hl ht => ?_) h
  obtain ⟨k, e, _, _⟩ := DataW.trod_string Tryz.underlying9 ht
  subst e
  refine ⟨k, ?_⟩
  have := hc 0 (by decide)
  simpa [add_addU, Addr.add] using this
set_option maxRecDepth 100000 in
theorem funsR_of {v : Value} {x : DataW H × List MemPlace} (h : DataW.trod enc Tryz.prog w base sp held n 23 [v] = some x) : ∃ l, FunsR w w.heap.size v l := by
  have inh : Inhabited PF := ⟨⟨⟨#[]⟩, [], 0⟩⟩
  refine elR_of (α := PF) Tryz.underlying23 cellsU_fun (by decide) (fun i y f => ∃ pv, w.cell? (y.add (i * 3)) = some (.string f.name) ∧ w.cell? ((y.add (i * 3)).add 1) = some pv ∧ w.cell? ((y.add (i * 3)).add 2) = some (.int .i64 f.ret) ∧ IntsR w w.heap.size pv f.params) (fun i m y cs z hc hl ht => ?_) h
  obtain ⟨c0, c1, c2, rfl⟩ := listU3 hl
  obtain ⟨xs, k, _, _, _, hxl, hf⟩ := DataW.trod_struct Tryz.underlying67 ht
  obtain ⟨y0, y1, y2, rfl⟩ := listU3 hxl
  have g0 : DataW.trod enc Tryz.prog w base sp held k 9 [c0] = some y0 := by simpa [cellsU_str] using hf 0 _ rfl
  have g1 : DataW.trod enc Tryz.prog w base sp held k 42 [c1] = some y1 := by simpa [cellsU_ints] using hf 1 _ rfl
  have g2 : DataW.trod enc Tryz.prog w base sp held k 3 [c2] = some y2 := by simpa [cellsU_int] using hf 2 _ rfl
  obtain ⟨s, e0, _, _⟩ := DataW.trod_string Tryz.underlying9 g0
  obtain ⟨ps, hp⟩ := intsR_of g1
  obtain ⟨r, e2, _, _⟩ := DataW.trod_int Tryz.underlying3 g2
  simp only [List.cons.injEq, and_true] at e0 e2
  subst e0 e2
  exact ⟨⟨s, ps, r⟩, c1, by simpa [Addr.add] using hc 0 (by decide), hc 1 (by decide), hc 2 (by decide), hp⟩
set_option maxRecDepth 100000 in
theorem stmtsR_of {v : Value} {x : DataW H × List MemPlace} (h : DataW.trod enc Tryz.prog w base sp held n 24 [v] = some x) : ∃ l, StmtsR w w.heap.size v l := by
  have inh : Inhabited PS := ⟨⟨⟨#[]⟩, 0, 0, []⟩⟩
  refine elR_of (α := PS) Tryz.underlying24 cellsU_stmt (by decide) (fun i y f => ∃ pv, w.cell? (y.add (i * 4)) = some (.string f.kind) ∧ w.cell? ((y.add (i * 4)).add 1) = some (.int .i64 f.x) ∧ w.cell? ((y.add (i * 4)).add 2) = some (.int .i64 f.y) ∧ w.cell? ((y.add (i * 4)).add 3) = some pv ∧ IntsR w w.heap.size pv f.args) (fun i m y cs z hc hl ht => ?_) h
  obtain ⟨c0, c1, c2, c3, rfl⟩ := listU4 hl
  obtain ⟨xs, k, _, _, _, hxl, hf⟩ := DataW.trod_struct Tryz.underlying65 ht
  obtain ⟨y0, y1, y2, y3, rfl⟩ := listU4 hxl
  have g0 : DataW.trod enc Tryz.prog w base sp held k 9 [c0] = some y0 := by simpa [cellsU_str] using hf 0 _ rfl
  have g1 : DataW.trod enc Tryz.prog w base sp held k 3 [c1] = some y1 := by simpa [cellsU_int] using hf 1 _ rfl
  have g2 : DataW.trod enc Tryz.prog w base sp held k 3 [c2] = some y2 := by simpa [cellsU_int] using hf 2 _ rfl
  have g3 : DataW.trod enc Tryz.prog w base sp held k 42 [c3] = some y3 := by simpa [cellsU_ints] using hf 3 _ rfl
  obtain ⟨s, e0, _, _⟩ := DataW.trod_string Tryz.underlying9 g0
  obtain ⟨a, e1, _, _⟩ := DataW.trod_int Tryz.underlying3 g1
  obtain ⟨b, e2, _, _⟩ := DataW.trod_int Tryz.underlying3 g2
  obtain ⟨ps, hp⟩ := intsR_of g3
  simp only [List.cons.injEq, and_true] at e0 e1 e2
  subst e0 e1 e2
  exact ⟨⟨s, a, b, ps⟩, c3, by simpa [Addr.add] using hc 0 (by decide), hc 1 (by decide), hc 2 (by decide), hc 3 (by decide), hp⟩
end
theorem StrsR.form {w : World} {n0 : Nat} {v : Value} {l : List ByteArray} (h : StrsR w n0 v l) : ∃ a c, v = .slice a l.length c := by
  obtain ⟨a, c, h, _⟩ := h
  exact ⟨a, c, h⟩
theorem FunsR.form {w : World} {n0 : Nat} {v : Value} {l : List PF} (h : FunsR w n0 v l) : ∃ a c, v = .slice a l.length c := by
  obtain ⟨a, c, h, _⟩ := h
  exact ⟨a, c, h⟩
theorem StmtsR.form {w : World} {n0 : Nat} {v : Value} {l : List PS} (h : StmtsR w n0 v l) : ∃ a c, v = .slice a l.length c := by
  obtain ⟨a, c, h, _⟩ := h
  exact ⟨a, c, h⟩
set_option maxRecDepth 100000 in
/-- A program that came in. -/
theorem prog_of {H : Type} {enc : TypeId × Value → H} {w : World} {base b0 : Nat} {sp : Nat → Bool} {held : Bool} {v : Value} {d : DataW H} {p : List MemPlace} (hv : Value.okWide Tryz.prog w .any b0 26 v) (h : DataW.Trod enc Tryz.prog w base sp held 26 v d p) :
    ∃ (a1 a2 a3 : Option Addr) (c1 c2 c3 : Nat) (P : PP), v = pval a1 a2 a3 c1 c2 c3 P ∧ ProgR w w.heap.size (.slice a1 P.vars.length c1) (.slice a2 P.funs.length c2) (.slice a3 P.stmts.length c3) P := by
  obtain ⟨v0, v1, v2, y0, y1, y2, n, rfl, h0, h1, h2⟩ := open_agg3 Tryz.underlying26 (by kernel_rfl) cellsU_prog hv h
  obtain ⟨vs, hvs⟩ := strsR_of h0
  obtain ⟨fs, hfs⟩ := funsR_of h1
  obtain ⟨ss, hss⟩ := stmtsR_of h2
  obtain ⟨a1, c1, rfl⟩ := hvs.form
  obtain ⟨a2, c2, rfl⟩ := hfs.form
  obtain ⟨a3, c3, rfl⟩ := hss.form
  exact ⟨a1, a2, a3, c1, c2, c3, ⟨vs, fs, ss⟩, rfl, hvs, hfs, hss⟩
end Go.Proofs.YtohfdecefikinaaGreatDoor


/- Rows of sets: how they lie in memory; are they too large; own memory. -/
namespace Go.Proofs.YtohfdecefikinaaGreatDoor
set_option linter.unusedSimpArgs false
set_option linter.unusedVariables false
open Go Go.RowKit

/-- Lists of numbers, in a list. -/
def SetsR (w : World) (n0 : Nat) (v : Value) (L : List (List Int)) : Prop := ElR n0 v L.length fun i y => ∀ l, L[i]? = some l → ∃ u, w.cell? (y.add i) = some u ∧ IntsR w n0 u l
theorem SetsR.old {w w' : World} {n0 : Nat} {v : Value} {L : List (List Int)} (h : SetsR w n0 v L) (k : Old n0 w w') : SetsR w' n0 v L :=
  ElR.mono h (Nat.le_refl _) fun i y _ hy hE l hl => by
    obtain ⟨u, h1, h2⟩ := hE l hl
    exact ⟨u, k.cellx h1 (by rw [add_block]; exact hy), h2.old k⟩
theorem SetsR.lift {w : World} {n0 n1 : Nat} {v : Value} {L : List (List Int)} (h : SetsR w n0 v L) (hn : n0 ≤ n1) : SetsR w n1 v L :=
  ElR.mono h hn fun i y _ _ hE l hl => by
    obtain ⟨u, h1, h2⟩ := hE l hl
    exact ⟨u, h1, ElR.lift h2 hn⟩
theorem SetsR.ext {w w' : World} {n0 : Nat} {v : Value} {L : List (List Int)} (h : SetsR w n0 v L) (x : Ext w w') : SetsR w' n0 v L := h.old (x.old _)
theorem SetsR.form {w : World} {n0 : Nat} {v : Value} {L : List (List Int)} (h : SetsR w n0 v L) : ∃ a c, v = .slice a L.length c := by
  obtain ⟨a, c, h, _⟩ := h
  exact ⟨a, c, h⟩
theorem SetsR.len {w : World} {n0 : Nat} {v : Value} {L : List (List Int)} (h : SetsR w n0 v L) : (L.length : Int) ≤ 9223372036854775807 := by
  obtain ⟨a, c, _, h2, h3, _⟩ := h
  omega
theorem SetsR.at {w : World} {n0 : Nat} {a : Option Addr} {n cap : Nat} {L : List (List Int)} (h : SetsR w n0 (.slice a n cap) L) {k : Nat} (hk : k < L.length) : ∃ y l b c, a = some y ∧ L[k]? = some l ∧ w.cell? (y.add k) = some (.slice b l.length c) ∧ IntsR w n0 (.slice b l.length c) l := by
  obtain ⟨a', cap', h1, h2, h3, h4, h5⟩ := h
  obtain ⟨rfl, rfl, rfl⟩ : a = a' ∧ n = L.length ∧ cap = cap' := by simpa using h1
  obtain ⟨y, rfl⟩ := h4 (by omega)
  obtain ⟨l, hl⟩ : ∃ l, L[k]? = some l := ⟨_, List.getElem?_eq_getElem hk⟩
  obtain ⟨u, e1, e2⟩ := (h5 y rfl (by omega)).2 k hk l hl
  obtain ⟨b, c, rfl, _⟩ := id e2
  exact ⟨y, l, b, c, rfl, hl, e1, e2⟩
theorem IntsR.len {w : World} {n0 : Nat} {v : Value} {l : List Int} (h : IntsR w n0 v l) : (l.length : Int) ≤ 9223372036854775807 := by
  obtain ⟨a, c, _, h2, h3, _⟩ := h
  omega

section
variable {H : Type} {enc : TypeId × Value → H} {w : World} {base : Nat} {sp : Nat → Bool} {held : Bool} {n : Nat}
set_option maxRecDepth 100000 in
theorem setsR_of {v : Value} {x : DataW H × List MemPlace} (h : DataW.trod enc Tryz.prog w base sp held n 27 [v] = some x) : ∃ L, SetsR w w.heap.size v L := by
  refine elR_of (α := List Int) Tryz.underlying27 cellsU_ints (by decide) (fun i y l => ∃ u, w.cell? (y.add i) = some u ∧ IntsR w w.heap.size u l) (fun i m y cs z hc hl ht => ?_) h
  match cs, hl with
  | [u], _ =>
    obtain ⟨l, hI⟩ := intsR_of ht
    refine ⟨l, u, ?_, hI⟩
    have := hc 0 (by decide)
    simpa [add_addU, Addr.add] using this
end

def fewSets (L : List (List Int)) : Prop := L.length ≤ 50 ∧ ∀ l ∈ L, l.length ≤ 60
set_option maxRecDepth 100000 in
set_option maxHeartbeats 800000 in
theorem largesets_any (v : Value) (L : List (List Int)) (w : World) (n0 : Nat) (h : SetsR w n0 v L) :
    Calls Tryz.prog 7 #[v] w fun e w' => ∃ r : Nat, e = .returned (.int .i64 (r : Int)) ∧ r ≤ 1 ∧ (r = 0 → fewSets L) ∧ Ext w w' := by
  obtain ⟨a, cap, rfl⟩ := h.form
  have HS := hid h
  have hml := h.len
  clear h
  go_enter Tryz.func7, Tryz.ntmps7
  by_cases h50 : 50 < L.length
  · go_wp2
    go_ret
    exact ⟨1, rfl, Nat.le_refl _, fun h => by omega, Ext.refl _⟩
  · go_wp2
    go_loop [3] (fun t3 => ∃ k : Nat, t3 = .int .i64 (k : Int) ∧ k ≤ L.length ∧ ∀ j l, j < k → L[j]? = some l → l.length ≤ 60) (fun t3 => L.length - (intOf t3).toNat)
    case atStart => exact ⟨0, rfl, Nat.zero_le _, fun j l h => by omega⟩
    case round =>
      obtain ⟨k, rfl, hk, hp⟩ := hrel
      have Hp := hid hp
      clear hp
      by_cases hlt : k < L.length
      · obtain ⟨y, l, b, c, rfl, hl, hc, hI⟩ := HS.out.at hlt
        have Hl := hid hl
        have hll := hI.len
        clear hl hI
        by_cases h60 : 60 < l.length
        · go_wp2
          go_ret
          exact ⟨1, rfl, Nat.le_refl _, fun h => by omega, Ext.refl _⟩
        · have Hb : Hid (l.length ≤ 60) := hid (by omega)
          go_wp2
          refine ⟨⟨k + 1, by go_num, by omega, fun j m hj hm => ?_⟩, by simp [intOf]; omega⟩
          by_cases hjk : j = k
          · subst hjk
            obtain rfl := Option.some.inj (Hl.out.symm.trans hm)
            exact Hb.out
          · exact Hp.out j m (by omega) hm
      · obtain rfl : k = L.length := by omega
        have Hf : Hid (fewSets L) := hid ⟨by omega, fun l hl => by
          obtain ⟨j, hj, e⟩ := List.mem_iff_getElem.1 hl
          exact Hp.out j l hj (by rw [List.getElem?_eq_getElem hj, e])⟩
        go_wp2
        go_ret
        exact ⟨0, rfl, by omega, fun _ => Hf.out, Ext.refl _⟩

theorem rows_info : (Tryz.prog.info? 42).map (fun i => (i.zero, i.size, i.bytes)) = some (some (.slice none 0 0), 1, 24) := by kernel_rfl
/-- Lists that were made: the values of a row, and what each is. -/
def Made (w : World) (vs : List Value) (L : List (List Int)) : Prop := vs.length = L.length ∧ ∀ (i : Nat) v l, vs[i]? = some v → L[i]? = some l → IntsT w v l
theorem Made.keep {X : Nat → Prop} {w w' : World} {vs : List Value} {L : List (List Int)} (h : Made w vs L) (k : Keep X w w') (hX : ∀ b, X b → ¬ IsInt w b) : Made w' vs L :=
  ⟨h.1, fun i v l h1 h2 => (h.2 i v l h1 h2).keep k hX⟩
theorem Made.ext {w w' : World} {vs : List Value} {L : List (List Int)} (h : Made w vs L) (x : Ext w w') : Made w' vs L := ⟨h.1, fun i v l h1 h2 => (h.2 i v l h1 h2).ext x⟩
theorem Made.snoc {w : World} {vs : List Value} {L : List (List Int)} {v : Value} {l : List Int} (h : Made w vs L) (hv : IntsT w v l) : Made w (vs ++ [v]) (L ++ [l]) := by
  refine ⟨by simp [h.1], fun i u m h1 h2 => ?_⟩
  have hlen := h.1
  rcases Nat.lt_trichotomy i L.length with hi | hi | hi
  · rw [List.getElem?_append_left (by omega)] at h1 h2
    exact h.2 i u m h1 h2
  · subst hi
    rw [List.getElem?_append_right (by omega), show L.length - vs.length = 0 by omega] at h1
    rw [List.getElem?_append_right (Nat.le_refl _), Nat.sub_self] at h2
    obtain rfl := Option.some.inj h1
    obtain rfl := Option.some.inj h2
    exact hv
  · rw [List.getElem?_eq_none (by simp; omega)] at h1
    cases h1
theorem SetsR.made {w : World} {base : Nat} {v : Value} {vs : List Value} {L : List (List Int)} (h : w.ownsRow base 42 1 v L.length vs) (hm : Made w vs L) : SetsR w w.heap.size v L := by
  rcases h.2 with ⟨rfl, h0⟩ | ⟨g, cap, cur, rfl, hb, hg, hn, hc, hcs, ht⟩
  · unfold SetsR
    rw [h0]
    exact ⟨none, 0, rfl, Nat.le_refl _, by decide, fun h => absurd h (by omega), fun y hy => by cases hy⟩
  · refine ⟨_, cap, rfl, hn, by unfold maxLen at hc; omega, fun _ => ⟨_, rfl⟩, fun y hy h0 => ?_⟩
    obtain rfl := Option.some.inj hy
    have hB : Blk w g cur 42 := hg
    refine ⟨hB.lt, fun i hi l hl => ?_⟩
    have hi2 : i < vs.length := by rw [hm.1]; exact hi
    obtain ⟨u, hu⟩ : ∃ u, vs[i]? = some u := ⟨_, List.getElem?_eq_getElem hi2⟩
    refine ⟨u, ?_, (hm.2 i u l hu hl).1⟩
    rw [show (⟨g, 0, none⟩ : Addr).add i = ⟨g, i, none⟩ from by by_cases h0 : i = 0 <;> simp [Addr.add, h0]]
    exact own_get h i hu
set_option maxRecDepth 100000 in
set_option maxHeartbeats 1600000 in
theorem ownsets_row (v : Value) (L : List (List Int)) (w : World) (n0 : Nat) (h : SetsR w n0 v L) (hf : fewSets L) :
    Calls Tryz.prog 9 #[v] w fun e w' => ∃ v' vs, e = .returned v' ∧ w'.ownsRow w.heap.size 42 1 v' L.length vs ∧ Made w' vs L ∧ Ext w w' := by
  obtain ⟨a, cap, rfl⟩ := h.form
  have HS := hid h
  have Hf := hid hf
  have hml := h.len
  clear h hf
  go_enter Tryz.func9, Tryz.ntmps9
  go_wp2
  go_loopw [3, 4] (fun t3 t4 wr => ∃ (k : Nat) (vs : List Value), t4 = .int .i64 (k : Int) ∧ k ≤ L.length ∧ wr.ownsRow w.heap.size 42 1 t3 k vs ∧ Made wr vs (L.take k) ∧ Ext w wr) (fun _ t4 _ => L.length - (intOf t4).toNat)
  case atStart => exact ⟨0, [], rfl, Nat.zero_le _, World.ownsRow_nil _ _ _ _, ⟨rfl, fun i v l h => by cases h⟩, Ext.refl _⟩
  case round =>
    obtain ⟨k, vs, rfl, hk, hr, hm, hx⟩ := hrel
    obtain ⟨a3, c3, rfl⟩ := row_form hr
    have Hr := hid hr
    have Hm := hid hm
    have Hx := hid hx
    have HS2 := hid (HS.out.old (hx.old n0))
    clear hr hm hx
    by_cases hlt : k < L.length
    · obtain ⟨y, l, b, c, rfl, hl, hc, hI⟩ := HS2.out.at hlt
      have HC := hid (ownintsR_any (.slice b l.length c) l wr n0 hI (by have := Hf.out.2 l (List.mem_of_getElem? hl); omega))
      have Hl := hid hl
      clear hl hI
      go_wp2_with fail
      refine HC.out.mono ?_
      intro e w1 hx
      obtain ⟨v1, rfl, hx1, hr1⟩ := hx
      have HT := hid (IntsT.of_row hr1)
      obtain ⟨a1, c1, rfl⟩ := row_form hr1
      have Hx1 := hid hx1
      clear HC hr1 hx1 hc
      have hxa : Hid (Ext w (w1.alloc (.cells #[.slice a1 l.length c1] 42))) := hid ((Hx.out.trans Hx1.out).alloc _)
      have hx1a : Hid (Ext wr (w1.alloc (.cells #[.slice a1 l.length c1] 42))) := hid (Hx1.out.alloc _)
      have Hra := hid (own_ext Hr.out hx1a.out)
      have Hma := hid (((Hm.out.ext hx1a.out).snoc (HT.out.ext ((Ext.refl w1).alloc (.cells #[.slice a1 l.length c1] 42)))))
      have hk5 : k ≤ 50 := by have := Hf.out.1; omega
      go_wp2_with (at_builtin; refine wpList_append_el w.heap.size hxa.out.size 27 42 (.slice none 0 0) 1 24 Tryz.underlying27 rows_info rfl (by omega) (by omega) rfl _ _ rfl (.slice a3 k c3) k vs rfl Hra.out w1.heap.size [.slice a1 l.length c1] rfl (by simp [Value.oneCell']) rfl (Blk.new _ _ _) (by omega) ?_; intro v' w' h1 h2 h4; obtain ⟨a', c', rfl⟩ := row_form h1; have h3 := hid (Keep.new hxa.out h2 (fun k hk => (World.ownsRow.lt Hra.out k hk).1)); have hm5 := hid (Hma.out.keep h2 (fun b e => by obtain ⟨c, hc⟩ := own_ty Hra.out e; exact IsInt.not hc (by decide))); have h1 := hid h1; clear h2 h4)
      go_roundw
      case rel =>
        refine ⟨k + 1, _, by go_num, by omega, h1.out, ?_, h3.out⟩
        rw [List.take_add_one, Hl.out]
        exact hm5.out
      case measure => simp [intOf]; omega
    · obtain rfl : k = L.length := by omega
      rw [List.take_of_length_le (Nat.le_refl _)] at Hm
      go_wp2
      go_ret
      exact ⟨_, _, rfl, Hr.out, Hm.out, Hx.out⟩
theorem ownsets_any (v : Value) (L : List (List Int)) (w : World) (n0 : Nat) (h : SetsR w n0 v L) (hf : fewSets L) :
    Calls Tryz.prog 9 #[v] w fun e w' => ∃ v', e = .returned v' ∧ SetsR w' w'.heap.size v' L ∧ Ext w w' :=
  (ownsets_row v L w n0 h hf).mono fun e w' ⟨v', vs, he, hr, hm, hx⟩ => ⟨v', he, SetsR.made hr hm, hx⟩
end Go.Proofs.YtohfdecefikinaaGreatDoor
