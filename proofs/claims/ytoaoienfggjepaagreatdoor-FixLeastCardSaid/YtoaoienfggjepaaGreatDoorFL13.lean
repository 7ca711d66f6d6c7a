/- Texts of one proof, put together: T1 T7 S6 E2 E3 E4 X7. -/
import Derived.Test.YtoaoienfggjepaaGreatDoorFL04
import Derived.Test.YtoaoienfggjepaaGreatDoorFL05
import Derived.Test.YtoaoienfggjepaaGreatDoorFL06
import Derived.Test.YtoaoienfggjepaaGreatDoorFL07
import Derived.Test.YtoaoienfggjepaaGreatDoorFL09
import Derived.Test.YtoaoienfggjepaaGreatDoorFL11
import Derived.Test.YtoaoienfggjepaaGreatDoorFL12

/- The reference: is a list a set (SetError); is each of one list one of another (within). -/
namespace Go.Proofs.YtoaoienfggjepaaGreatDoor
set_option linter.unusedSimpArgs false
set_option linter.unusedVariables false
open Go Go.RowKit

set_option maxRecDepth 100000 in
set_option maxHeartbeats 1600000 in
theorem rseterror_any (v : Value) (l : List Int) (w : World) (n0 : Nat) (h : IntsR w n0 v l) :
    Calls Tryz.prog 87 #[v] w fun e w' => e = .returned (.int .i64 (chkE l : Int)) ∧ Ext w w' := by
  obtain ⟨a, cap, rfl, h2, h3, h4, h5⟩ := id h
  have H4 := hid h4
  have H5 := hid h5
  have hml : (l.length : Int) ≤ 9223372036854775807 := by omega
  clear h h2 h3 h4 h5
  go_enter Tryz.func87, Tryz.ntmps87
  go_wp2
  go_loop [3] (fun t3 => ∃ k : Nat, t3 = .int .i64 (k : Int) ∧ k ≤ l.length ∧ ∀ j t, j < k → l[j]? = some t → 0 ≤ t ∧ t < 1000) (fun t3 => l.length - (intOf t3).toNat)
  case atStart => exact ⟨0, rfl, Nat.zero_le _, fun j t h => by omega⟩
  case round =>
    obtain ⟨k, rfl, hk, hp⟩ := hrel
    have Hp := hid hp
    clear hp
    by_cases hlt : k < l.length
    · obtain ⟨y, rfl⟩ := H4.out (by omega)
      obtain ⟨q, hq⟩ : ∃ q, l[k]? = some q := ⟨_, List.getElem?_eq_getElem hlt⟩
      have hc := (H5.out y rfl (by omega)).2 k hlt q hq
      have Hq := hid hq
      clear hq
      by_cases hq0 : q < 0
      · have Hr := hid (chkE_two (List.mem_of_getElem? Hq.out) (by omega))
        go_wp2
        go_ret
        exact ⟨by rw [Hr.out]; rfl, Ext.refl _⟩
      · by_cases hq1 : 1000 ≤ q
        · have Hr := hid (chkE_two (List.mem_of_getElem? Hq.out) (by omega))
          go_wp2
          go_ret
          exact ⟨by rw [Hr.out]; rfl, Ext.refl _⟩
        · have Hb : Hid (0 ≤ q ∧ q < 1000) := hid (by omega)
          go_wp2
          refine ⟨⟨k + 1, by go_num, by omega, fun j t hj ht => ?_⟩, by simp [intOf]; omega⟩
          by_cases hjk : j = k
          · subst hjk
            obtain rfl := Option.some.inj (Hq.out.symm.trans ht)
            exact Hb.out
          · exact Hp.out j t (by omega) ht
    · obtain rfl : k = l.length := by omega
      have Hin : Hid (InR l) := hid fun t ht => by
        obtain ⟨j, hj, e⟩ := List.mem_iff_getElem.1 ht
        exact Hp.out j t hj (by rw [List.getElem?_eq_getElem hj, e])
      go_wp2
      go_loopw [4] (fun t4 wr => ∃ i : Nat, t4 = .int .i64 ((i : Int) + 1) ∧ i ≤ l.length ∧ (∀ j, j < i → j + 1 < l.length → l.getD j 0 < l.getD (j + 1) 0) ∧ Ext w wr) (fun t4 _ => l.length + 1 - (intOf t4).toNat)
      case atStart => exact ⟨0, rfl, Nat.zero_le _, fun j hj => by omega, Ext.refl _⟩
      case round =>
        obtain ⟨i, rfl, hi, hp, hx⟩ := hrel
        have Hs := hid hp
        have Hx := hid hx
        clear hp hx
        by_cases hlt : i + 1 < l.length
        · obtain ⟨y, rfl⟩ := H4.out (by omega)
          obtain ⟨p, hp⟩ : ∃ p, l[i]? = some p := ⟨_, List.getElem?_eq_getElem (by omega)⟩
          obtain ⟨q, hq⟩ : ∃ q, l[i + 1]? = some q := ⟨_, List.getElem?_eq_getElem hlt⟩
          have hcp := (H5.out y rfl (by omega)).2 i (by omega) p hp
          have hcq := (H5.out y rfl (by omega)).2 (i + 1) hlt q hq
          rw [add_posU y (i + 1) (by omega)] at hcq
          have c0 : ∀ w1, Keep (fun _ => False) wr w1 → w1.cell? (y.add i) = some (.int .i64 p) := fun w1 k => (Hx.out.trans k.ext).cellx hcp
          have c1 : ∀ w1, Keep (fun _ => False) wr w1 → w1.cell? ⟨y.block, y.off + (i + 1), none⟩ = some (.int .i64 q) := fun w1 k => (Hx.out.trans k.ext).cellx hcq
          have Hp : Hid (l.getD i 0 = p) := hid (by rw [List.getD_eq_getElem?_getD, hp]; rfl)
          have Hq : Hid (l.getD (i + 1) 0 = q) := hid (by rw [List.getD_eq_getElem?_getD, hq]; rfl)
          clear hp hq hcp hcq
          by_cases hpq : q ≤ p
          · have Hr := hid (chkE_ten Hin.out hlt (by rw [Hp.out, Hq.out]; exact hpq))
            go_wp2
            refine wp_flowT (fun _ => False) (by kernel_rfl) (by kernel_rfl) ?_
            repeat (apply FlowT.d; (intro w1 hk; unfold does; go_simp; (try go_ints); (first | exact DetR.mk | (simp only [↓IntWalk.iteOmega, Oper.doesUpon_value]; exact DetR.mk) | (simp only [↓IntWalk.iteOmega]; go_simp; (try go_ints); exact DetR.mk))); simp only [Act.put, List.setIfInBounds_toArray, List.set_cons_zero, List.set_cons_succ])
            refine FlowT.fin fun w1 hx1 hk1 => ?_
            have Hx1 := hid (Hx.out.trans hx1)
            clear hx1 hk1 c0 c1
            go_wp2
            go_ret
            exact ⟨by rw [Hr.out]; rfl, Hx1.out⟩
          · have Hn : Hid (l.getD i 0 < l.getD (i + 1) 0) := hid (by rw [Hp.out, Hq.out]; omega)
            go_wp2
            refine wp_flowT (fun _ => False) (by kernel_rfl) (by kernel_rfl) ?_
            repeat (apply FlowT.d; (intro w1 hk; unfold does; go_simp; (try go_ints); (first | exact DetR.mk | (simp only [↓IntWalk.iteOmega, Oper.doesUpon_value]; exact DetR.mk) | (simp only [↓IntWalk.iteOmega]; go_simp; (try go_ints); exact DetR.mk))); simp only [Act.put, List.setIfInBounds_toArray, List.set_cons_zero, List.set_cons_succ])
            refine FlowT.fin fun w1 hx1 hk1 => ?_
            have Hx1 := hid (Hx.out.trans hx1)
            clear hx1 hk1 c0 c1
            go_wp2
            go_roundw
            case rel =>
              refine ⟨i + 1, by go_num, by omega, fun j hj hl => ?_, Hx1.out⟩
              by_cases hji : j = i
              · subst hji; exact Hn.out
              · exact Hs.out j (by omega) hl
            case measure => simp [intOf]; omega
        · have Hok : Hid (chkE l = 0) := hid (chkE_ok Hin.out fun j hj => Hs.out j (by omega) hj)
          go_wp2
          go_ret
          exact ⟨by rw [Hok.out]; rfl, Hx.out⟩
end Go.Proofs.YtoaoienfggjepaaGreatDoor



/- The reference: are sets an answer (IsClosed). -/
namespace Go.Proofs.YtoaoienfggjepaaGreatDoor
set_option linter.unusedSimpArgs false
set_option linter.unusedVariables false
open Go Go.RowKit

theorem own_e2 {w : World} {base g n cap : Nat} {t : TypeId} {R : List (Int × Int)} (h : w.ownsRow base t 2 (.slice (some ⟨g, 0, none⟩) n cap) n (R.flatMap eCells)) {i : Nat} {x : Int × Int} (hx : R[i]? = some x) :
    w.cell? ⟨g, i * 2, none⟩ = some (.int .i64 x.1) ∧ w.cell? ⟨g, i * 2 + 1, none⟩ = some (.int .i64 x.2) := own_e h hx
end Go.Proofs.YtoaoienfggjepaaGreatDoor



/- Sets: the reference's set of any numbers. -/
namespace Go.Proofs.YtoaoienfggjepaaGreatDoor
set_option linter.unusedSimpArgs false
set_option linter.unusedVariables false
open Go Go.RowKit

theorem bools_info : (Tryz.prog.info? 4).map (fun i => (i.zero, i.size, i.bytes)) = some (some (.bool false), 1, 1) := by kernel_rfl
/-- Which numbers were seen. -/
def seen (l : List Int) : List Value := (List.range 1000).map fun n : Nat => Value.bool (decide ((n : Int) ∈ l))
theorem seen_len (l : List Int) : (seen l).length = 1000 := by simp [seen]
theorem seen_at (l : List Int) {n : Nat} (h : n < 1000) : (seen l)[n]? = some (.bool (decide ((n : Int) ∈ l))) := by
  unfold seen
  rw [List.getElem?_map, List.getElem?_range h]
  rfl
theorem seen_snoc (l : List Int) (q : Nat) : (seen l).toArray.setIfInBounds q (.bool true) = (seen (l ++ [(q : Int)])).toArray := by
  apply Array.ext_getElem?
  intro i
  rw [Array.getElem?_setIfInBounds]
  simp only [List.getElem?_toArray, List.size_toArray, seen_len]
  by_cases hi : i < 1000
  · rw [seen_at _ hi, seen_at _ hi]
    by_cases hq : q = i
    · subst hq
      rw [if_pos rfl, if_pos hi, decide_eq_true (by simp)]
    · rw [if_neg hq]
      congr 2
      exact decide_eq_decide.2 ⟨fun h => List.mem_append_left _ h, fun h => (List.mem_append.1 h).elim id fun g => absurd (List.mem_singleton.1 g) (by omega)⟩
  · have hn : ∀ m : List Int, (seen m)[i]? = none := fun m => List.getElem?_eq_none (by rw [seen_len]; omega)
    rw [hn, hn]
    by_cases hq : q = i
    · subst hq; rw [if_pos rfl, if_neg hi]
    · rw [if_neg hq]
theorem made_seen : (madeCells (Value.bool false).cells (1000 * 1)).toList = seen [] := by
  rw [show (Value.bool false).cells = #[Value.bool false] from rfl, toList_madeCells_one]
  apply List.ext_getElem?
  intro i
  by_cases hi : i < 1000
  · rw [seen_at _ hi, List.getElem?_replicate, if_pos (by omega), decide_eq_false (by simp)]
  · rw [List.getElem?_eq_none (by rw [List.length_replicate]; omega), List.getElem?_eq_none (by rw [seen_len]; omega)]
/-- The set's numbers below n. -/
def setUp (l : List Int) (n : Nat) : List Int := ((List.range n).filter fun k : Nat => decide ((k : Int) ∈ l)).map fun k : Nat => (k : Int)
theorem setUp_full (l : List Int) : setUp l 1000 = sset l := rfl
theorem setUp_succ (l : List Int) (n : Nat) : setUp l (n + 1) = setUp l n ++ (if decide ((n : Int) ∈ l) then [(n : Int)] else []) := by
  unfold setUp
  rw [List.range_succ, List.filter_append, List.map_append]
  congr 1
  by_cases h : decide ((n : Int) ∈ l) = true
  · rw [if_pos h]; simp [h]
  · rw [if_neg h]; simp [h]
theorem setUp_len (l : List Int) (n : Nat) : (setUp l n).length ≤ n := by
  unfold setUp
  rw [List.length_map]
  have := List.length_filter_le (fun k : Nat => decide ((k : Int) ∈ l)) (List.range n)
  rw [List.length_range] at this
  exact this
set_option maxRecDepth 100000 in
set_option maxHeartbeats 1600000 in
theorem rsetof_any (v : Value) (l : List Int) (w : World) (n0 : Nat) (h : IntsR w n0 v l) (hin : InR l) :
    Calls Tryz.prog 90 #[v] w fun e w' => ∃ v', e = .returned v' ∧ Ext w w' ∧ IRow w.heap.size w' v' (sset l) := by
  have HS := hid h
  obtain ⟨a, cap, rfl, h2, h3, h4, _⟩ := h
  have H4 := hid h4
  have Hin := hid hin
  have hml : (l.length : Int) ≤ 9223372036854775807 := by omega
  clear h2 h3 h4 hin
  go_enter Tryz.func90, Tryz.ntmps90
  obtain ⟨bi, hbi, hbz, hbs, hbb⟩ := info_parts bools_info
  go_wp2_with (at_make; refine wpList_make_full w rfl _ _ _ rfl w.heap.size 4 bi (.bool false) 1 Tryz.underlying173 hbi hbz hbs .i64 .i64 1000 1000 1000 rfl rfl rfl rfl (by rw [hbb]; omega) (by unfold maxLen; omega) (Nat.le_refl _) ?_; intro w1 hrow hgr)
  have hx1 : Ext w w1 := Keep.new (Ext.refl w) (grown_keep hgr) (fun k hk => by cases hk)
  have Hx1 := hid hx1
  have HB1 : Hid (Blk w1 w.heap.size (seen []).toArray 4) := hid (by
    rcases hrow.2 with ⟨h1, _⟩ | ⟨g', cap', cur, h1, h2, h3, h4, h5, h6, h7⟩
    · simp at h1
    · simp only [Value.slice.injEq, Option.some.injEq, Addr.mk.injEq, and_true] at h1
      obtain ⟨rfl, _, rfl⟩ := h1
      have e : cur = (seen []).toArray := by
        have e1 : cur.toList = seen [] := by
          rw [← made_seen, ← h7, List.take_of_length_le (by rw [Array.length_toList]; omega)]
        rw [← e1]
      rw [← e]; exact h3)
  clear hx1 hrow hgr hbi hbz hbs hbb
  go_wp2
  go_loopw [4] (fun t4 wr => ∃ k : Nat, t4 = .int .i64 (k : Int) ∧ k ≤ l.length ∧ Blk wr w.heap.size (seen (l.take k)).toArray 4 ∧ Ext w wr) (fun t4 _ => l.length - (intOf t4).toNat)
  case atStart => exact ⟨0, rfl, Nat.zero_le _, HB1.out, Hx1.out⟩
  case round =>
    obtain ⟨k, rfl, hk, hB, hx⟩ := hrel
    have HB := hid hB
    have Hx := hid hx
    clear hB
    by_cases hlt : k < l.length
    · obtain ⟨y, rfl⟩ := H4.out (by omega)
      obtain ⟨q, hq⟩ : ∃ q, l[k]? = some q := ⟨_, List.getElem?_eq_getElem hlt⟩
      have hq01 := Hin.out q (List.mem_of_getElem? hq)
      obtain ⟨Q, rfl⟩ := Int.eq_ofNat_of_zero_le hq01.1
      have hQ : Q < 1000 := by omega
      obtain ⟨a', cap', h1, _, _, _, h5⟩ := HS.out.old (hx.old n0)
      obtain ⟨rfl, rfl⟩ : some y = a' ∧ cap = cap' := by simpa using h1
      have hc := (h5 y rfl (by omega)).2 k hlt _ hq
      have z0 := HB.out.av Q (by rw [List.getElem?_toArray]; exact seen_at _ hQ)
      have f0 := HB.out.free Q
      have Hn : Hid (seen (l.take (k + 1)) = seen (l.take k ++ [(Q : Int)])) := hid (by rw [List.take_add_one, hq]; rfl)
      have hB2 := HB.out.set Q (.bool true)
      rw [seen_snoc, ← Hn.out] at hB2
      have HB2 := hid hB2
      have HX2 := hid (Keep.new Hx.out (Keep.set (X := fun b => b = w.heap.size) (Keep.refl _ wr) rfl (.bool true) : Keep (fun b => b = w.heap.size) wr (wr.setCell ⟨w.heap.size, Q, none⟩ (.bool true))) fun b e => by subst e; exact Nat.le_refl _)
      clear hq hq01 h1 h5 hx hB2
      go_wp2
      go_roundw
      case rel => exact ⟨k + 1, by go_num, by omega, HB2.out, HX2.out⟩
      case measure => simp [intOf]; omega
    · obtain rfl : k = l.length := by omega
      rw [List.take_of_length_le (Nat.le_refl _)] at HB
      clear hx
      go_wp2
      go_loopw [5, 6] (fun t5 t6 wr => ∃ n : Nat, t6 = .int .i64 (n : Int) ∧ n ≤ 1000 ∧ IRow w.heap.size wr t5 (setUp l n) ∧ Blk wr w.heap.size (seen l).toArray 4 ∧ Ext w wr) (fun _ t6 _ => 1000 - (intOf t6).toNat)
      case atStart => exact ⟨0, rfl, Nat.zero_le _, IRow.nil _ _, HB.out, Hx.out⟩
      case round =>
        obtain ⟨n, rfl, hn, hr, hB, hx⟩ := hrel
        have hml2 : (setUp l n).length ≤ 1000 := Nat.le_trans (setUp_len l n) hn
        have hsu := setUp_succ l n
        obtain ⟨m, hm⟩ : ∃ m, m = setUp l n := ⟨_, rfl⟩
        rw [← hm] at hr hml2 hsu
        have Hm := hid hm
        have Hsu := hid hsu
        obtain ⟨a5, c5, rfl⟩ := hr.form
        have Hr := hid hr
        have HBs := hid hB
        have Hx3 := hid hx
        clear hm hr hB hx hsu
        by_cases hlt : n < 1000
        · have z0 := HBs.out.av n (by rw [List.getElem?_toArray]; exact seen_at _ hlt)
          obtain ⟨bq, hbq⟩ : ∃ bq, bq = decide ((n : Int) ∈ l) := ⟨_, rfl⟩
          rw [← hbq] at z0 Hsu
          clear hbq
          cases bq with
          | true =>
            have Hn : Hid (setUp l (n + 1) = m ++ [(n : Int)]) := hid (by rw [Hsu.out]; rfl)
            have hxa : Hid (Ext w (wr.alloc (.cells #[.int .i64 (n : Int)] 3))) := hid (Hx3.out.alloc _)
            have Hra : Hid (IRow w.heap.size (wr.alloc (.cells #[.int .i64 (n : Int)] 3)) (.slice a5 m.length c5) m) := hid (Hr.out.ext ((Ext.refl _).alloc _))
            have HBa : Hid (Blk (wr.alloc (.cells #[.int .i64 (n : Int)] 3)) w.heap.size (seen l).toArray 4) := hid (HBs.out.ext ((Ext.refl _).alloc _))
            go_wp2_with (at_builtin; refine wpList_append_el w.heap.size hxa.out.size 22 3 (.int .i64 0) 1 8 Tryz.underlying22 ints_info rfl (by omega) (by omega) rfl _ _ rfl (.slice a5 m.length c5) m.length (icells m) rfl Hra.out wr.heap.size [.int .i64 (n : Int)] rfl (by simp [Value.oneCell']) rfl (Blk.new _ _ _) (by omega) ?_; intro v' w' h1 h2 h4; obtain ⟨a', c', rfl⟩ := row_form h1; have h3 := hid (Keep.new hxa.out h2 (fun k hk => (Hra.out.lt hk).1)); have hb5 := hid (HBa.out.keep h2 (fun e => by obtain ⟨c, hc⟩ := own_ty Hra.out e; exact Blk.ty_ne hc HBa.out (by decide) rfl)); have h1 := hid h1; clear h2 h4)
            go_roundw
            case rel => exact ⟨n + 1, by go_num, by omega, by rw [Hn.out]; have := h1.out; unfold IRow; rw [icells_append, List.length_append]; exact this, hb5.out, h3.out⟩
            case measure => simp [intOf]; omega
          | false =>
            have Hn : Hid (setUp l (n + 1) = m) := hid (by rw [Hsu.out]; simp)
            go_wp2
            go_roundw
            case rel => exact ⟨n + 1, by go_num, by omega, by rw [Hn.out]; exact Hr.out, HBs.out, Hx3.out⟩
            case measure => simp [intOf]; omega
        · obtain rfl : n = 1000 := by omega
          have Hn : Hid (m = sset l) := hid (by rw [Hm.out, setUp_full])
          go_wp2
          go_ret
          exact ⟨_, rfl, Hx3.out, by rw [← Hn.out]; exact Hr.out⟩
end Go.Proofs.YtoaoienfggjepaaGreatDoor



/- The least answer, plainly: it is closed, and within each that is closed. -/
namespace Go.Proofs.YtoaoienfggjepaaGreatDoor
set_option linter.unusedSimpArgs false
set_option linter.unusedVariables false
open Go Go.RowKit

/-- So many rounds, from nothing. -/
def PP.iterV (P : PP) : Nat → List (List Int)
  | 0 => List.replicate P.nodesV []
  | n + 1 => P.roundV (P.iterV n)
theorem iterV_good {P : PP} (hw : P.Well) : ∀ n, P.GoodS (P.iterV n)
  | 0 => ⟨hw, by simp [PP.iterV], fun l hl => by
    obtain rfl := List.eq_of_mem_replicate hl
    exact setE_of (by decide) fun x hx => by cases hx⟩
  | n + 1 => roundV_good (iterV_good hw n)
theorem roundV_sub {P : PP} {has : List (List Int)} (hg : P.GoodS has) : Sub has (P.roundV has) := fun i x hx => by
  by_cases hi : i < has.length
  · exact (mem_roundV hg hi).2 (.inl hx)
  · rw [List.getD_eq_getElem?_getD, List.getElem?_eq_none (by omega)] at hx
    cases hx
/-- What a round does not change is an answer. -/
theorem closed_of_round {P : PP} {has : List (List Int)} (hg : P.GoodS has) (h : P.roundV has = has) : ClosedP P has := by
  refine ⟨fun k hk hb => ?_, fun e he hne n hn => ?_⟩
  · have ha := rule_a_in hg.1 hk
    have hnv := nodes_vars P
    have hl := hg.2.1
    have hm : (P.ruleV k (P.stAt k)).b ∈ (P.roundV has).getD (P.ruleV k (P.stAt k)).a.toNat [] := (mem_roundV hg (by omega)).2 (.inr (.inl ⟨k, hk, hb, by omega, rfl⟩))
    rwa [h] at hm
  · obtain ⟨h1, h2, h3, h4⟩ := edges0_in hg.1 hg.ok e he
    have hl := hg.2.1
    obtain ⟨i, hi⟩ := List.mem_iff_getElem?.1 (((edgesL_are hg).mem e).2 ⟨he, hne⟩)
    have hil : i < (P.edgesL has).length := by
      rcases Nat.lt_or_ge i (P.edgesL has).length with g | g
      · exact g
      · rw [List.getElem?_eq_none g] at hi; cases hi
    have hm : n ∈ (P.roundV has).getD e.2.toNat [] := (mem_roundV hg (by omega)).2 (.inr (.inr ⟨i, e, hil, hi, by omega, hn⟩))
    rwa [h] at hm
/-- A round of what lies within an answer lies within it. -/
theorem round_within {P : PP} {has ans : List (List Int)} (hg : P.GoodS has) (ga : P.GoodS ans) (hc : ClosedP P ans) (hs : Sub has ans) : Sub (P.roundV has) ans := fun i x hx => by
  by_cases hi : i < has.length
  · rcases (mem_roundV hg hi).1 hx with h | ⟨j, hj, h1, h2, h3⟩ | ⟨q, e, _, he, h2, h3⟩
    · exact hs i x h
    · have := hc.base j hj h1
      rw [h2, h3, Int.toNat_natCast] at this
      exact this
    · have h0 := ((edgesL_are hg).mem e).1 (List.mem_of_getElem? he)
      have h5 := hc.edge e (edges0_mono hs e h0.1) h0.2 x (hs _ _ h3)
      rw [h2, Int.toNat_natCast] at h5
      exact h5
  · rw [List.getD_eq_getElem?_getD, List.getElem?_eq_none (by rw [roundV_len]; omega)] at hx
    cases hx
theorem iter_within {P : PP} {ans : List (List Int)} (ga : P.GoodS ans) (hc : ClosedP P ans) : ∀ n, Sub (P.iterV n) ans
  | 0 => fun i x hx => by
    rw [List.getD_eq_getElem?_getD] at hx
    unfold PP.iterV at hx
    rw [List.getElem?_replicate] at hx
    split at hx <;> cases hx
  | n + 1 => round_within (iterV_good ga.1 n) ga hc (iter_within ga hc n)
/-- How many objects there are. -/
def total (S : List (List Int)) : Nat := (S.map List.length).sum
theorem srt_len : ∀ {a b : List Int}, Srt a → Srt b → (∀ x, x ∈ a → x ∈ b) → a.length ≤ b.length ∧ (a.length = b.length → a = b)
  | [], b, _, _, _ => ⟨Nat.zero_le _, fun h => (List.eq_nil_of_length_eq_zero h.symm).symm⟩
  | x :: a, b, ha, hb, h => by
    obtain ⟨s, t, rfl⟩ := List.append_of_mem (h x List.mem_cons_self)
    have hb' := List.pairwise_append.1 hb
    have hbt := List.pairwise_cons.1 hb'.2.1
    have ih := srt_len ha.tail hbt.2 fun e he => by
      have hlt := ha.head e he
      rcases List.mem_append.1 (h e (List.mem_cons_of_mem _ he)) with g | g
      · have := hb'.2.2 e g x List.mem_cons_self
        omega
      · rcases List.mem_cons.1 g with g | g
        · omega
        · exact g
    rw [List.length_append, List.length_cons, List.length_cons]
    refine ⟨by omega, fun hl => ?_⟩
    have hs : s = [] := List.eq_nil_of_length_eq_zero (by omega)
    subst hs
    rw [List.nil_append, ih.2 (by simp at hl; omega)]
theorem total_sub : ∀ {S T : List (List Int)}, S.length = T.length → (∀ l ∈ S, Srt l) → (∀ l ∈ T, Srt l) → (∀ i x, x ∈ S.getD i [] → x ∈ T.getD i []) → total S ≤ total T ∧ (total S = total T → S = T)
  | [], [], _, _, _, _ => ⟨Nat.le_refl _, fun _ => rfl⟩
  | [], _ :: _, h, _, _, _ => by simp at h
  | _ :: _, [], h, _, _, _ => by simp at h
  | a :: S, b :: T, h, hs, ht, hm => by
    have h1 := srt_len (hs a List.mem_cons_self) (ht b List.mem_cons_self) fun x hx => by simpa using hm 0 x (by simpa using hx)
    have h2 := total_sub (S := S) (T := T) (by simpa using h) (fun l hl => hs l (List.mem_cons_of_mem _ hl)) (fun l hl => ht l (List.mem_cons_of_mem _ hl)) fun i x hx => by simpa using hm (i + 1) x (by simpa using hx)
    have e1 : total (a :: S) = a.length + total S := by unfold total; simp
    have e2 : total (b :: T) = b.length + total T := by unfold total; simp
    rw [e1, e2]
    refine ⟨by omega, fun he => ?_⟩
    rw [h1.2 (by omega), h2.2 (by omega)]
theorem total_few : ∀ {S : List (List Int)}, (∀ l ∈ S, l.length ≤ 1000) → total S ≤ S.length * 1000
  | [], _ => Nat.le_refl _
  | a :: S, h => by
    have h1 := h a List.mem_cons_self
    have h2 := total_few (S := S) fun l hl => h l (List.mem_cons_of_mem _ hl)
    have e1 : total (a :: S) = a.length + total S := by unfold total; simp
    rw [e1, List.length_cons]
    omega
theorem good_srt {P : PP} {has : List (List Int)} (hg : P.GoodS has) : ∀ l ∈ has, Srt l := fun l hl => (chkE_zero.1 (hg.ok.ok l hl).1).2
theorem iter_grows {P : PP} (hw : P.Well) (n : Nat) (h : P.iterV (n + 1) ≠ P.iterV n) : total (P.iterV n) + 1 ≤ total (P.iterV (n + 1)) := by
  have hg := iterV_good hw n
  have hg' := iterV_good hw (n + 1)
  have h1 := total_sub (S := P.iterV n) (T := P.iterV (n + 1)) (roundV_len P _).symm (good_srt hg) (good_srt hg') (roundV_sub hg)
  rcases Nat.lt_or_ge (total (P.iterV n)) (total (P.iterV (n + 1))) with g | g
  · exact g
  · exact absurd (h1.2 (by omega)).symm h
theorem iter_few {P : PP} (hw : P.Well) (n : Nat) : total (P.iterV n) ≤ 120000 := by
  have hg := iterV_good hw n
  have h1 := total_few (S := P.iterV n) fun l hl => srt_few (hg.ok.ok l hl).1
  have h2 := hg.2.1
  have h3 := nodesV_le P hw
  omega
/-- The least answer is after n rounds. -/
structure LeastAt (P : PP) (n : Nat) (S : List (List Int)) : Prop where
  eq : S = P.iterV n
  fix : P.roundV S = S
  first : ∀ m, m < n → P.roundV (P.iterV m) ≠ P.iterV m
theorem LeastAt.uniq {P : PP} {n m : Nat} {S T : List (List Int)} (h : LeastAt P n S) (g : LeastAt P m T) : n = m ∧ S = T := by
  have hnm : n = m := by
    rcases Nat.lt_trichotomy n m with k | k | k
    · exact absurd (by rw [← h.eq]; exact h.fix) (g.first n k)
    · exact k
    · exact absurd (by rw [← g.eq]; exact g.fix) (h.first m k)
  subst hnm
  exact ⟨rfl, h.eq.trans g.eq.symm⟩
theorem LeastAt.good {P : PP} (hw : P.Well) {n : Nat} {S : List (List Int)} (h : LeastAt P n S) : P.GoodS S := by rw [h.eq]; exact iterV_good hw n
theorem LeastAt.closed {P : PP} (hw : P.Well) {n : Nat} {S : List (List Int)} (h : LeastAt P n S) : ClosedP P S := closed_of_round (h.good hw) h.fix
theorem LeastAt.within {P : PP} {n : Nat} {S ans : List (List Int)} (h : LeastAt P n S) (ga : P.GoodS ans) (hc : ClosedP P ans) : Sub S ans := by rw [h.eq]; exact iter_within ga hc n
end Go.Proofs.YtoaoienfggjepaaGreatDoor



/- Are two lists of numbers one (slices.Equal); are two lists of lists (slices.EqualFunc, fix.same); two sets joined (fix.join). -/
namespace Go.Proofs.YtoaoienfggjepaaGreatDoor
set_option linter.unusedSimpArgs false
set_option linter.unusedVariables false
open Go Go.RowKit

theorem ext_take {α : Type} {a b : List α} (hl : a.length = b.length) (h : ∀ j, j < a.length → a[j]? = b[j]?) : a = b :=
  List.ext_getElem? fun i => by
    by_cases hi : i < a.length
    · exact h i hi
    · rw [List.getElem?_eq_none (by omega), List.getElem?_eq_none (by omega)]
set_option maxRecDepth 100000 in
set_option maxHeartbeats 1600000 in
theorem equali_any (va vb : Value) (a b : List Int) (w : World) (n0 : Nat) (ha : IntsR w n0 va a) (hb : IntsR w n0 vb b) :
    Calls Tryz.prog 110 #[va, vb] w fun e w' => e = .returned (.bool (decide (a = b))) ∧ Ext w w' := by
  have hal := ha.len
  have hbl := hb.len
  have HA := hid ha
  have HB := hid hb
  obtain ⟨aa, ca, rfl, _⟩ := ha
  obtain ⟨ab, cb, rfl, _⟩ := hb
  by_cases hl : a.length = b.length
  · have Hl := hid hl
    have e0 : ((a.length : Int) != (b.length : Int)) = false := by rw [hl]; simp
    clear hl
    go_enter Tryz.func110, Tryz.ntmps110
    go_wp2
    clear e0
    go_loopw [13] (fun t13 wr => ∃ k : Nat, t13 = .int .i64 (k : Int) ∧ k ≤ a.length ∧ (∀ j, j < k → a[j]? = b[j]?) ∧ Ext w wr) (fun t13 _ => a.length - (intOf t13).toNat)
    case atStart => exact ⟨0, rfl, Nat.zero_le _, fun j h => by omega, Ext.refl _⟩
    case round =>
      obtain ⟨k, rfl, hk, hp, hx⟩ := hrel
      have Hp := hid hp
      have Hx := hid hx
      clear hp hx
      by_cases hlt : k < a.length
      · have hlt2 : k < b.length := by rw [← Hl.out]; exact hlt
        obtain ⟨ya, p, hya, hpk, hcp⟩ := (HA.out.old (Hx.out.old n0)).at hlt
        subst hya
        obtain ⟨yb, q, hyb, hqk, hcq⟩ := (HB.out.old (Hx.out.old n0)).at hlt2
        subst hyb
        have c0 : ∀ w1, Keep (fun _ => False) wr w1 → w1.cell? (ya.add k) = some (.int .i64 p) := fun w1 k => k.ext.cellx hcp
        have c1 : ∀ w1, Keep (fun _ => False) wr w1 → w1.cell? (yb.add k) = some (.int .i64 q) := fun w1 k => k.ext.cellx hcq
        have Hpk := hid hpk
        have Hqk := hid hqk
        clear hpk hqk hcp hcq
        by_cases hpq : p = q
        · subst hpq
          go_wp2
          refine wp_flowT (fun _ => False) (by kernel_rfl) (by kernel_rfl) ?_
          repeat (apply FlowT.d; (intro w1 hk; unfold does; go_simp; (try go_ints); (first | exact DetR.mk | (simp only [↓IntWalk.iteOmega, Oper.doesUpon_value]; exact DetR.mk) | (simp only [↓IntWalk.iteOmega]; go_simp; (try go_ints); exact DetR.mk))); simp only [Act.put, List.setIfInBounds_toArray, List.set_cons_zero, List.set_cons_succ])
          refine FlowT.fin fun w1 hx1 hk1 => ?_
          have Hx1 := hid (Hx.out.trans hx1)
          clear hx1 hk1 c0 c1
          go_wp2
          go_roundw
          case rel =>
            refine ⟨k + 1, by go_num, by omega, fun j hj => ?_, Hx1.out⟩
            by_cases hjk : j = k
            · subst hjk; exact Hpk.out.trans Hqk.out.symm
            · exact Hp.out j (by omega)
          case measure => simp [intOf]; omega
        · have hpq' : (p != q) = true := bne_iff_ne.2 hpq
          have Hne : Hid (decide (a = b) = false) := hid (decide_eq_false fun h => hpq (by
            have h1 := Hpk.out
            rw [h] at h1
            exact Option.some.inj (h1.symm.trans Hqk.out)))
          clear hpq
          go_wp2
          refine wp_flowT (fun _ => False) (by kernel_rfl) (by kernel_rfl) ?_
          repeat (apply FlowT.d; (intro w1 hk; unfold does; go_simp; (try go_ints); (first | exact DetR.mk | (simp only [↓IntWalk.iteOmega, Oper.doesUpon_value]; exact DetR.mk) | (simp only [↓IntWalk.iteOmega]; go_simp; (try go_ints); exact DetR.mk))); simp only [Act.put, List.setIfInBounds_toArray, List.set_cons_zero, List.set_cons_succ])
          refine FlowT.fin fun w1 hx1 hk1 => ?_
          have Hx1 := hid (Hx.out.trans hx1)
          clear hx1 hk1 c0 c1
          go_wp2
          go_ret
          exact ⟨by rw [Hne.out]; rfl, Hx1.out⟩
      · have Heq : Hid (decide (a = b) = true) := hid (decide_eq_true (ext_take Hl.out fun j hj => Hp.out j (by omega)))
        obtain rfl : k = a.length := by omega
        go_wp2
        go_ret
        exact ⟨by rw [Heq.out]; rfl, Hx.out⟩
  · have e0 : ((a.length : Int) != (b.length : Int)) = true := bne_iff_ne.2 (fun h => hl (Int.ofNat_inj.1 h))
    have Hne : Hid (decide (a = b) = false) := hid (decide_eq_false fun h => hl (by rw [h]))
    clear hl
    go_enter Tryz.func110, Tryz.ntmps110
    go_wp2
    go_ret
    exact ⟨by rw [Hne.out]; rfl, Ext.refl _⟩
set_option maxRecDepth 100000 in
set_option maxHeartbeats 1600000 in
theorem equalfs_any (va vb : Value) (A B : List (List Int)) (w : World) (n0 : Nat) (ha : SetsR w n0 va A) (hb : SetsR w n0 vb B) :
    Calls Tryz.prog 109 #[va, vb, .func (.func 110) #[] #[]] w fun e w' => e = .returned (.bool (decide (A = B))) ∧ Ext w w' := by
  have hal := ha.len
  have hbl := hb.len
  have HA := hid ha
  have HB := hid hb
  obtain ⟨aa, ca, rfl⟩ := ha.form
  obtain ⟨ab, cb, rfl⟩ := hb.form
  clear ha hb
  by_cases hl : A.length = B.length
  · have Hl := hid hl
    have e0 : ((A.length : Int) != (B.length : Int)) = false := by rw [hl]; simp
    clear hl
    go_enter Tryz.func109, Tryz.ntmps109
    go_wp2
    clear e0
    go_loopw [17] (fun t17 wr => ∃ k : Nat, t17 = .int .i64 (k : Int) ∧ k ≤ A.length ∧ (∀ j, j < k → A[j]? = B[j]?) ∧ Ext w wr) (fun t17 _ => A.length - (intOf t17).toNat)
    case atStart => exact ⟨0, rfl, Nat.zero_le _, fun j h => by omega, Ext.refl _⟩
    case round =>
      obtain ⟨k, rfl, hk, hp, hx⟩ := hrel
      have Hp := hid hp
      have Hx := hid hx
      clear hp hx
      by_cases hlt : k < A.length
      · have hlt2 : k < B.length := by rw [← Hl.out]; exact hlt
        obtain ⟨ya, l, bl, cl, hya, hpk, hcp, hI⟩ := (HA.out.ext Hx.out).at hlt
        subst hya
        obtain ⟨yb, m, bm, cm, hyb, hqk, hcq, hI'⟩ := (HB.out.ext Hx.out).at hlt2
        subst hyb
        have HC := hid (equali_any (.slice bl l.length cl) (.slice bm m.length cm) l m wr n0 hI hI')
        obtain ⟨d, hd⟩ : ∃ d, d = decide (l = m) := ⟨_, rfl⟩
        rw [← hd] at HC
        have Hd := hid hd
        have Hpk := hid hpk
        have Hqk := hid hqk
        clear hpk hqk hI hI' hd
        go_wp2_with fail
        refine HC.out.mono ?_
        intro e w1 hx
        obtain ⟨rfl, hx1⟩ := hx
        have Hx1 := hid (Hx.out.trans hx1)
        clear HC hx1 hcp hcq
        cases d with
        | true =>
          have He : Hid (l = m) := hid (of_decide_eq_true Hd.out.symm)
          go_wp2
          go_roundw
          case rel =>
            refine ⟨k + 1, by go_num, by omega, fun j hj => ?_, Hx1.out⟩
            by_cases hjk : j = k
            · subst hjk; rw [Hpk.out, Hqk.out, He.out]
            · exact Hp.out j (by omega)
          case measure => simp [intOf]; omega
        | false =>
          have Hne : Hid (decide (A = B) = false) := hid (decide_eq_false fun h => (of_decide_eq_false Hd.out.symm) (by
            have h1 := Hpk.out
            rw [h] at h1
            exact Option.some.inj (h1.symm.trans Hqk.out)))
          go_wp2
          go_ret
          exact ⟨by rw [Hne.out]; rfl, Hx1.out⟩
      · have Heq : Hid (decide (A = B) = true) := hid (decide_eq_true (ext_take Hl.out fun j hj => Hp.out j (by omega)))
        obtain rfl : k = A.length := by omega
        go_wp2
        go_ret
        exact ⟨by rw [Heq.out]; rfl, Hx.out⟩
  · have e0 : ((A.length : Int) != (B.length : Int)) = true := bne_iff_ne.2 (fun h => hl (Int.ofNat_inj.1 h))
    have Hne : Hid (decide (A = B) = false) := hid (decide_eq_false fun h => hl (by rw [h]))
    clear hl
    go_enter Tryz.func109, Tryz.ntmps109
    go_wp2
    go_ret
    exact ⟨by rw [Hne.out]; rfl, Ext.refl _⟩
theorem fixsame_any (va vb : Value) (A B : List (List Int)) (w : World) (n0 : Nat) (ha : SetsR w n0 va A) (hb : SetsR w n0 vb B) :
    Calls Tryz.prog 66 #[va, vb] w fun e w' => e = .returned (.bool (decide (A = B))) ∧ Ext w w' := by
  have HC := hid (equalfs_any va vb A B w n0 ha hb)
  obtain ⟨aa, ca, rfl⟩ := ha.form
  obtain ⟨ab, cb, rfl⟩ := hb.form
  generalize decide (A = B) = d at *
  clear ha hb
  go_enter Tryz.func66, Tryz.ntmps66
  go_wp2_with fail
  refine HC.out.mono ?_
  intro e w1 hx
  obtain ⟨rfl, hx1⟩ := hx
  have Hx1 := hid hx1
  clear HC hx1
  go_wp2
  go_ret
  exact ⟨rfl, Hx1.out⟩
set_option maxRecDepth 100000 in
set_option maxHeartbeats 800000 in
theorem fixjoin_any (va vb : Value) (a b : List Int) (w : World) (n0 : Nat) (ad : Nat → Addr) (hE : ErrS w ad) (ha : IntsR w n0 va a) (hb : IntsR w n0 vb b) (ka : chkE a = 0) (kb : chkE b = 0) :
    Calls Tryz.prog 84 #[va, vb] w fun e w' => ∃ v, e = .returned v ∧ (∃ x c, v = .slice x (sset (a ++ b)).length c) ∧ IntsT w' v (sset (a ++ b)) ∧ Ext w w' := by
  have HU := hid (setunion_any va vb a b w n0 ad hE ha hb (by have := srt_few ka; omega) (by have := srt_few kb; omega))
  have Hk := hid (bothE_zero.2 ⟨ka, kb⟩)
  obtain ⟨aa, ca, rfl, _⟩ := ha
  obtain ⟨ab, cb, rfl, _⟩ := hb
  obtain ⟨l, hl⟩ : ∃ l, l = sset (a ++ b) := ⟨_, rfl⟩
  rw [← hl] at HU ⊢
  clear hE ka kb hl
  go_enter Tryz.func84, Tryz.ntmps84
  go_wp2_with fail
  refine HU.out.mono ?_
  intro e w1 hx
  obtain ⟨t, rfl, ht, hx1⟩ := hx
  obtain ⟨v, rfl, hrow⟩ : ∃ v, t = .tuple #[v, .nilIface] ∧ IRow w.heap.size w1 v l := by
    rcases ht with ⟨_, v, h1, h2⟩ | ⟨h, _⟩
    · exact ⟨v, h1, h2⟩
    · exact absurd Hk.out h
  obtain ⟨av, cv, rfl⟩ := hrow.form
  have Hr := hid (IntsT.row hrow)
  have Hx1 := hid hx1
  clear HU ht hrow hx1
  go_wp2
  go_ret
  exact ⟨_, rfl, ⟨_, _, rfl⟩, Hr.out, Hx1.out⟩
end Go.Proofs.YtoaoienfggjepaaGreatDoor



/- A round of rules (fix.Round), of a well program and sets that are well. -/
namespace Go.Proofs.YtoaoienfggjepaaGreatDoor
set_option linter.unusedSimpArgs false
set_option linter.unusedVariables false
open Go Go.RowKit

theorem Made.put {w : World} {base g cap N : Nat} {vs : List Value} {L : List (List Int)} {n : Nat} {v : Value} {l : List Int} (hr : w.ownsRow base 22 1 (.slice (some ⟨g, 0, none⟩) N cap) N vs) (hm : Made w vs L) (hL : L.length = N) (hv : IntsT w v l) (hn : n < N) :
    (w.setCell ⟨g, n, none⟩ v).ownsRow base 22 1 (.slice (some ⟨g, 0, none⟩) N cap) N (vs.set n v) ∧ Made (w.setCell ⟨g, n, none⟩ v) (vs.set n v) (L.set n l) ∧ Keep (fun q => q = g) w (w.setCell ⟨g, n, none⟩ v) := by
  have k : Keep (fun q => q = g) w (w.setCell ⟨g, n, none⟩ v) := Keep.set (X := fun q => q = g) (Keep.refl _ _) rfl _
  have hni : ∀ b, b = g → ¬ IsInt w b := fun b e => by
    subst e
    obtain ⟨c, hc⟩ := own_ty hr (k := b) rfl
    exact notInt hc (by decide)
  have hvs := hm.1
  refine ⟨own_set hr n (by omega) v, ⟨by rw [List.length_set, List.length_set]; exact hvs, fun i u m hu hl => ?_⟩, k⟩
  by_cases hi : n = i
  · subst hi
    rw [List.getElem?_set_self (by omega)] at hu hl
    obtain rfl := Option.some.inj hu
    obtain rfl := Option.some.inj hl
    exact hv.keep k hni
  · rw [List.getElem?_set_ne hi] at hu hl
    exact (hm.2 i u m hu hl).keep k hni
/-- One of the lists of a row that was made. -/
theorem Made.one {w : World} {base g cap N : Nat} {vs : List Value} {S : List (List Int)} (hr : w.ownsRow base 22 1 (.slice (some ⟨g, 0, none⟩) N cap) N vs) (hm : Made w vs S) (hL : S.length = N) {n : Nat} (hn : n < N) : ∃ a c, w.cell? ⟨g, n, none⟩ = some (.slice a (S.getD n []).length c) ∧ IntsR w w.heap.size (.slice a (S.getD n []).length c) (S.getD n []) := by
  have hvs := hm.1
  have h1 : vs[n]? = some (vs[n]'(by omega)) := List.getElem?_eq_getElem (by omega)
  have h2 : S[n]? = some (S[n]'(by omega)) := List.getElem?_eq_getElem (by omega)
  have hT := hm.2 n _ _ h1 h2
  obtain ⟨a, c, ha⟩ := hT.form
  have e : S.getD n [] = S[n]'(by omega) := by rw [List.getD_eq_getElem?_getD, h2]; rfl
  rw [e]
  rw [ha] at h1
  exact ⟨a, c, own_get hr n h1, by rw [← ha]; exact hT.1⟩

set_option maxRecDepth 100000 in
set_option maxHeartbeats 6400000 in
theorem fixround_made (a1 a2 a3 : Option Addr) (c1 c2 c3 : Nat) (P : PP) (hv : Value) (has : List (List Int)) (w : World) (ad : Nat → Addr) (h : PW w w.heap.size ad a1 a2 a3 c1 c2 c3 P) (hS : ErrS w ad) (hh : SetsR w w.heap.size hv has) (hg : P.GoodS has) :
    Calls Tryz.prog 33 #[pval a1 a2 a3 c1 c2 c3 P, hv] w fun e w' => ∃ a c vs, e = .returned (.tuple #[.slice a has.length c, .nilIface]) ∧ w'.ownsRow w.heap.size 22 1 (.slice a has.length c) has.length vs ∧ Made w' vs (P.roundV has) ∧ (P.roundV has).length = has.length ∧ Ext w w' := by
  obtain ⟨ah, ch, rfl⟩ := hh.form
  have hhl := hh.len
  have Hg := hid hg
  obtain ⟨hf1, hf2, hf3⟩ := hg.1.few
  have hN6 : has.length ≤ 120 := by have := nodesV_le P hg.1; have := hg.2.1; omega
  obtain ⟨W, hW⟩ : ∃ W, W = w.alloc (.cells (pcells a1 a2 a3 c1 c2 c3 P) 39) := ⟨_, rfl⟩
  have HX : Hid (Ext w W) := hid (by rw [hW]; exact (Ext.refl _).alloc _)
  have HBx : Hid (Blk W w.heap.size (pcells a1 a2 a3 c1 c2 c3 P) 39) := hid (by rw [hW]; exact Blk.new _ _ _)
  have HWe : Hid (W = w.alloc (.cells #[.slice a1 P.vars.length c1, .slice a2 P.funs.length c2, .slice a3 P.stmts.length c3] 39)) := hid (by rw [hW]; rfl)
  have HE1 := hid (edges_fix a1 a2 a3 c1 c2 c3 P (.slice ah has.length ch) has W ad ((h.ext HX.out).lift HX.out.size) (hS.ext HX.out) ((hh.ext HX.out).lift HX.out.size) hg)
  have HO := fun w1 (x : Ext W w1) => hid (consof_yes a1 a2 a3 c1 c2 c3 P w1 w1.heap.size ad ((h.ext (HX.out.trans x)).lift (HX.out.trans x).size))
  have HH := hid (hh.ext HX.out)
  have HS := hid (hS.ext HX.out)
  have hEl := edgesL_len hg.1 has
  have HRA := hid (roundV_at hg)
  have HA := hid (edgesL_are hg)
  obtain ⟨EL, hEL⟩ : ∃ EL, EL = P.edgesL has := ⟨_, rfl⟩
  rw [← hEL] at HE1 hEl HRA HA
  have d0 := HBx.out.av 0 rfl
  have d1 := HBx.out.av 1 rfl
  have d2 := HBx.out.av 2 rfl
  simp only [pcells, List.getElem_toArray, List.getElem_cons_zero, List.getElem_cons_succ] at d0 d1 d2
  rw [HWe.out] at d0 d1 d2
  unfold pval at HE1 HO ⊢
  clear hW h hS hh hg hEL
  go_enter Tryz.func33, Tryz.ntmps33
  go_wp2_with fail
  rw [← HWe.out]
  refine HE1.out.mono ?_
  intro e w1 hx
  obtain ⟨ae, ce, rfl, hr, _, hx1⟩ := hx
  have Hr1 := hid hr
  have Hx1 := hid hx1
  have HO1 := HO w1 hx1
  clear HE1 HO hr hx1 d0 d1 d2
  have d0 := (HBx.out.ext Hx1.out).av 0 rfl
  have d1 := (HBx.out.ext Hx1.out).av 1 rfl
  have d2 := (HBx.out.ext Hx1.out).av 2 rfl
  simp only [pcells, List.getElem_toArray, List.getElem_cons_zero, List.getElem_cons_succ] at d0 d1 d2
  go_wp2_with fail
  refine HO1.out.mono ?_
  intro e w2 hx
  obtain ⟨v2, rs, rfl, hi, hx2⟩ := hx
  obtain ⟨bv, dv, rfl⟩ := row_form hi.row
  rw [show P.rulesV.length = P.stmts.length from P.rulesUp_len _] at hi ⊢
  have HI := hid hi
  have Hx2 := hid (Hx1.out.trans hx2)
  have HrE := hid (Hr1.out.ext hx2)
  have HH2 := hid (HH.out.ext Hx2.out)
  have HS2 := hid (HS.out.ext Hx2.out)
  have Hxw2 := hid (HX.out.trans Hx2.out)
  have Hlw : Hid (w.heap.size ≤ w2.heap.size) := hid Hxw2.out.size
  clear HO1 hi hx2 d0 d1 d2 Hr1 HH HS
  go_wp2
  go_loopw [9, 35] (fun t9 t35 wr => ∃ (k : Nat) (vs : List Value), t35 = .int .i64 (k : Int) ∧ k ≤ has.length ∧ wr.ownsRow w2.heap.size 22 1 t9 k vs ∧ Made wr vs (has.take k) ∧ Ext w2 wr) (fun _ t35 _ => has.length - (intOf t35).toNat)
  case atStart => exact ⟨0, [], rfl, Nat.zero_le _, World.ownsRow_nil _ _ _ _, ⟨rfl, fun i v l h => by cases h⟩, Ext.refl _⟩
  case round =>
    obtain ⟨k, vs, rfl, hk, hr, hm, hx⟩ := hrel
    obtain ⟨a9, c9, rfl⟩ := row_form hr
    have Hr := hid hr
    have Hm := hid hm
    have Hx := hid hx
    clear hr hm hx
    by_cases hlt : k < has.length
    · obtain ⟨y, l, b, c, hya, hl, hc, hI⟩ := (HH2.out.ext Hx.out).at hlt
      subst hya
      have hll := srt_few (Hg.out.ok.ok l (List.mem_of_getElem? hl)).1
      have HC := hid (clone_big (.slice b l.length c) l wr w.heap.size hI (by omega))
      have Hl := hid hl
      clear hl hI
      go_wp2_with fail
      refine HC.out.mono ?_
      intro e w3 hx
      obtain ⟨v3, rfl, hx3, hr3⟩ := hx
      have HT := hid (IntsT.row hr3)
      obtain ⟨a3', c3', rfl⟩ := hr3.form
      have Hx3 := hid hx3
      clear HC hr3 hx3 hc
      have hxa : Hid (Ext w2 (w3.alloc (.cells #[.slice a3' l.length c3'] 22))) := hid ((Hx.out.trans Hx3.out).alloc _)
      have hx3a : Hid (Ext wr (w3.alloc (.cells #[.slice a3' l.length c3'] 22))) := hid (Hx3.out.alloc _)
      have Hra := hid (own_ext Hr.out hx3a.out)
      have Hma := hid ((Hm.out.ext hx3a.out).snoc (HT.out.ext ((Ext.refl w3).alloc (.cells #[.slice a3' l.length c3'] 22))))
      go_wp2_with (at_builtin; refine wpList_append_el w2.heap.size hxa.out.size 44 22 (.slice none 0 0) 1 24 Tryz.underlying44 rows_info rfl (by omega) (by omega) rfl _ _ rfl (.slice a9 k c9) k vs rfl Hra.out w3.heap.size [.slice a3' l.length c3'] rfl (by simp [Value.oneCell']) rfl (Blk.new _ _ _) (by omega) ?_; intro v' w' h1 h2 h4; obtain ⟨a', c', rfl⟩ := row_form h1; have h3 := hid (Keep.new hxa.out h2 (fun k hk => (World.ownsRow.lt Hra.out k hk).1)); have hm5 := hid (Hma.out.keep h2 (fun b e => by obtain ⟨c, hc⟩ := own_ty Hra.out e; exact IsInt.not hc (by decide))); have h1 := hid h1; clear h2 h4)
      go_roundw
      case rel =>
        refine ⟨k + 1, _, by go_num, by omega, h1.out, ?_, h3.out⟩
        rw [List.take_add_one, Hl.out]
        exact hm5.out
      case measure => simp [intOf]; omega
    · obtain rfl : k = has.length := by omega
      rw [List.take_of_length_le (Nat.le_refl _)] at Hm
      obtain ⟨V, hV⟩ : ∃ V, V = wr := ⟨_, rfl⟩
      subst hV
      clear hlt hk
      go_wp2
      go_loopw [47] (fun t47 wr => ∃ (k : Nat) (vs : List Value) (S : List (List Int)), t47 = .int .i64 (k : Int) ∧ k ≤ P.stmts.length ∧ RoundAt P has EL k 0 S ∧ wr.ownsRow w2.heap.size 22 1 (.slice a9 has.length c9) has.length vs ∧ Made wr vs S ∧ Ext w2 wr) (fun t47 _ => P.stmts.length - (intOf t47).toNat)
      case atStart => exact ⟨0, vs, has, rfl, Nat.zero_le _, RoundAt.start Hg.out EL, Hr.out, Hm.out, Hx.out⟩
      case round =>
        clear Hr Hm Hx
        obtain ⟨k, vs, S, rfl, hk, hra, hr, hm, hx⟩ := hrel
        have HRd := hid hra
        have Hrow := hid hr
        have Hmd := hid hm
        have Hx := hid hx
        have HSl := hid hra.len
        clear hra hr hm hx
        by_cases hlt : k < P.stmts.length
        · obtain ⟨g, cp, hge⟩ := own_some HI.out.row (by rw [show P.rulesV.length = P.stmts.length from P.rulesUp_len _]; omega)
          simp only [Value.slice.injEq] at hge
          obtain ⟨rfl, -, rfl⟩ := hge
          obtain ⟨x, hxk, hxr⟩ := rules_at HI.out.eq hlt
          have hrow := own_ext HI.out.row Hx.out
          rw [show P.rulesV.length = P.stmts.length from P.rulesUp_len _] at hrow
          obtain ⟨q0, q1, q2, q3, q4⟩ := own_r hrow hxk
          have hT := HI.out.args x (List.mem_of_getElem? hxk)
          obtain ⟨aa, ca, hav⟩ := hT.form
          obtain ⟨r, xv⟩ := x
          simp only at hav hxr q0 q1 q2 q3 q4
          subst hav
          obtain ⟨wA, hwA⟩ : ∃ wA, wA = wr.alloc (.cells #[.string r.kind, .int .i64 r.a, .int .i64 r.b, .int .i64 r.k, .slice aa r.args.length ca] 123) := ⟨_, rfl⟩
          have hxA : Ext wr wA := by rw [hwA]; exact (Ext.refl _).alloc _
          have HwAe := hid hwA
          have HwA := hid hxA
          have HBr : Hid (Blk wA wr.heap.size #[.string r.kind, .int .i64 r.a, .int .i64 r.b, .int .i64 r.k, .slice aa r.args.length ca] 123) := hid (by rw [hwA]; exact Blk.new _ _ _)
          have hra := rule_a_in Hg.out.1 hlt
          rw [← hxr] at hra
          have hrb := fun hb => base_b_in Hg.out.1 hlt hb
          rw [← hxr] at hrb
          have hob := objects_few Hg.out.1
          have Hrr := hid hxr
          have hnv := nodes_vars P
          have hlen := Hg.out.2.1
          obtain ⟨A, hA⟩ := Int.eq_ofNat_of_zero_le hra.1
          have hAl : A < has.length := by omega
          have m0 := HBr.out.kc (X := fun _ => False) (fun e => e) 0 rfl
          have m1 := HBr.out.kc (X := fun _ => False) (fun e => e) 1 rfl
          have m2 := HBr.out.kc (X := fun _ => False) (fun e => e) 2 rfl
          simp only [List.getElem_toArray, List.getElem_cons_zero, List.getElem_cons_succ] at m0 m1 m2
          cases hkb : (r.kind.toList == [98, 97, 115, 101]) with
          | true =>
            have hkl : r.kind.toList = bBase.toList := (eq_of_beq hkb).trans (eq_of_beq bBase_list).symm
            have Hkb : Hid ((P.ruleV k (P.stAt k)).kind.toList = bBase.toList) := hid (by rw [← Hrr.out]; exact hkl)
            have hb := hrb hkl
            have Hb : Hid (0 ≤ r.b ∧ r.b < 1000) := hid (by omega)
            obtain ⟨g9, cp9, hge⟩ := own_some Hrow.out (by omega)
            simp only [Value.slice.injEq] at hge
            obtain ⟨rfl, -, rfl⟩ := hge
            obtain ⟨al, cl, hcl, hIl⟩ := Made.one Hrow.out Hmd.out HSl.out hAl
            have Hidx : Hid (A < has.length) := hid hAl
            have hlk : chkE (S.getD A []) = 0 := HRd.out.ok _ (getD_mem (by rw [HSl.out]; exact hAl))
            obtain ⟨la, hla⟩ : ∃ la, la = S.getD A [] := ⟨_, rfl⟩
            rw [← hla] at hcl hIl hlk
            obtain ⟨lj, hlj⟩ : ∃ lj, lj = sset (la ++ [r.b]) := ⟨_, rfl⟩
            have Hst := hid (RoundAt.base HRd.out Hkb.out (by rw [← Hrr.out]; exact hA) (by rw [← Hrr.out]) Hb.out hAl)
            rw [← hla, ← hlj] at Hst
            have hbk : chkE [r.b] = 0 := chkE_zero.2 ⟨fun z hz => by obtain rfl := List.mem_singleton.1 hz; exact Hb.out, List.pairwise_singleton _ _⟩
            have HJ := fun bq wa (y : Ext wA wa) (hB : Blk wa bq #[.int .i64 r.b] 3) => hid (fixjoin_any (.slice al la.length cl) (.slice (some ⟨bq, 0, none⟩) 1 1) la [r.b] wa wa.heap.size ad (HS2.out.ext (Hx.out.trans (HwA.out.trans y))) (ElR.lift (hIl.old ((HwA.out.trans y).old _)) (HwA.out.trans y).size) (IntsR.blk (l := [r.b]) hB rfl (by simp)) hlk hbk)
            rw [← hlj] at HJ
            have c0 : ∀ w1, Keep (fun _ => False) wA w1 → w1.cell? ⟨g9, A, none⟩ = some (.slice al la.length cl) := fun w1 k => (HwA.out.trans k.ext).cellx hcl
            have hll : (la.length : Int) ≤ 9223372036854775807 := by have := srt_few hlk; omega
            rw [hA] at m1
            clear hcl hIl hlk hla hlj hbk hrb hb hkl hwA hxA hxk hxr hrow hT hra hnv hlen hA
            go_wp2
            rw [← HwAe.out]
            refine wp_flowT (fun _ => False) (by kernel_rfl) (by kernel_rfl) ?_
            repeat (apply FlowT.d; (intro w1 hk; unfold does; go_simp; (try go_ints); (first | exact DetR.mk | (simp only [↓IntWalk.iteOmega, Oper.doesUpon_value]; exact DetR.mk) | (simp only [↓IntWalk.iteOmega]; go_simp; (try go_ints); exact DetR.mk))); simp only [Act.put, List.setIfInBounds_toArray, List.set_cons_zero, List.set_cons_succ])
            refine FlowT.s (fun v w' => (∃ b, v = .slice (some ⟨b, 0, none⟩) 1 1) ∧ (∀ b, v = .slice (some ⟨b, 0, none⟩) 1 1 → Blk w' b #[.int .i64 r.b] 3) ∧ Ext wA w') 10 rfl (by kernel_rfl) (fun _ _ _ ⟨h1, h2, h3⟩ y => ⟨h1, fun b e => (h2 b e).ext y, h3.trans y⟩) (fun wa hC hk2 => ?_) ?_
            · unfold does
              go_simp
              exact ⟨hk2.alloc _, ⟨_, rfl⟩, fun b e => by
                obtain rfl : wa.heap.size = b := by simpa using e
                exact Blk.new _ _ _, hC.alloc _⟩
            rintro _ ⟨_, ⟨bq, rfl⟩, _, _⟩
            simp only [Act.put, List.setIfInBounds_toArray, List.set_cons_zero, List.set_cons_succ]
            repeat (apply FlowT.d; (intro w1 hk; unfold does; go_simp; (try go_ints); (first | exact DetR.mk | (simp only [↓IntWalk.iteOmega, Oper.doesUpon_value]; exact DetR.mk) | (simp only [↓IntWalk.iteOmega]; go_simp; (try go_ints); exact DetR.mk))); simp only [Act.put, List.setIfInBounds_toArray, List.set_cons_zero, List.set_cons_succ])
            refine FlowT.s (fun v w' => (∃ x c, v = .slice x lj.length c) ∧ (∀ x c, v = .slice x lj.length c → IntsT w' (.slice x lj.length c) lj) ∧ Ext wA w') 11 rfl (by kernel_rfl) (fun _ _ _ ⟨h1, h2, h3⟩ y => ⟨h1, fun x c e => (h2 x c e).ext y, h3.trans y⟩) (fun wa hC hk2 => ?_) ?_
            · obtain ⟨_, hB, hxa⟩ := hC
              have HJa := HJ bq wa hxa (hB _ rfl)
              unfold does
              go_simp
              refine CallR.act (HJa.out.mono ?_)
              rintro e wb ⟨v, rfl, ⟨x, c, rfl⟩, hT, hx⟩
              refine ⟨_, rfl, hk2.trans (hx.keep _), ⟨x, c, rfl⟩, fun x' c' e => ?_, hxa.trans hx⟩
              rw [← e]
              exact hT
            rintro _ ⟨_, ⟨xj, cj, rfl⟩, _, _⟩
            simp only [Act.put, List.setIfInBounds_toArray, List.set_cons_zero, List.set_cons_succ]
            repeat (apply FlowT.d; (intro w1 hk; unfold does; go_simp; (try go_ints); (first | exact DetR.mk | (simp only [↓IntWalk.iteOmega, Oper.doesUpon_value]; exact DetR.mk) | (simp only [↓IntWalk.iteOmega]; go_simp; (try go_ints); exact DetR.mk))); simp only [Act.put, List.setIfInBounds_toArray, List.set_cons_zero, List.set_cons_succ])
            refine FlowT.last (fun _ w' => w'.ownsRow w2.heap.size 22 1 (.slice (some ⟨g9, 0, none⟩) has.length c9) has.length (vs.set A (.slice xj lj.length cj)) ∧ Made w' (vs.set A (.slice xj lj.length cj)) (S.set A lj) ∧ Ext w2 w') 13 rfl (by kernel_rfl) (by kernel_rfl) (fun wa hC hk2 => ?_) (fun _ w6 hR => ?_)
            · obtain ⟨_, hT, hxa⟩ := hC
              have hT := hT _ _ rfl
              have hrw := own_ext Hrow.out (HwA.out.trans hxa)
              have hmw := Hmd.out.ext (HwA.out.trans hxa)
              obtain ⟨p1, p2, p3⟩ := Made.put hrw hmw HSl.out hT Hidx.out
              obtain ⟨u, hu⟩ : ∃ u, vs[A]? = some u := ⟨_, List.getElem?_eq_getElem (by rw [Hmd.out.1, HSl.out]; exact Hidx.out)⟩
              have z0 := own_get hrw A hu
              have y0 := own_free hrw A
              have hbase := (own_blk hrw).choose_spec.2.1
              have hxx := Keep.new (Hx.out.trans (HwA.out.trans hxa)) p3 fun b e => by rw [e]; exact hbase
              clear hrw hmw hbase
              unfold does
              go_simp
              try exact ⟨p1, p2, hxx⟩
            obtain ⟨h1, h2, h3⟩ := hR
            simp only [Act.put, List.setIfInBounds_toArray, List.set_cons_zero, List.set_cons_succ]
            have Hn1 := hid h1
            have Hn2 := hid h2
            have Hn3 := hid h3
            clear h1 h2 h3
            clear m0 m1 m2 c0 HJ hkb
            go_wp2
            go_roundw
            case rel => exact ⟨k + 1, _, _, by go_num, by omega, Hst.out, Hn1.out, Hn2.out, Hn3.out⟩
            case measure => simp [intOf]; omega
          | false =>
            have Hkb : Hid ((P.ruleV k (P.stAt k)).kind.toList ≠ bBase.toList) := hid (by
              rw [← Hrr.out]
              intro h
              rw [h, bBase_list] at hkb
              cases hkb)
            have HxA := hid (Hx.out.trans HwA.out)
            have Hr2 := hid (own_ext Hrow.out HwA.out)
            have Hm2 := hid (Hmd.out.ext HwA.out)
            have m0' := HBr.out.av 0 rfl
            simp only [List.getElem_toArray, List.getElem_cons_zero, List.getElem_cons_succ] at m0'
            rw [HwAe.out] at m0'
            clear hrb hwA hxA hxk hxr hrow hT hra hnv hlen hA m0 m1 m2
            go_wp2
            rw [← HwAe.out]
            go_roundw
            case rel => exact ⟨k + 1, vs, S, by go_num, by omega, HRd.out.skip Hkb.out, Hr2.out, Hm2.out, HxA.out⟩
            case measure => simp [intOf]; omega
        · obtain rfl : k = P.stmts.length := by omega
          obtain ⟨U, hU⟩ : ∃ U, U = wr := ⟨_, rfl⟩
          subst hU
          clear hlt hk
          go_wp2
          go_loopw [70] (fun t70 wr => ∃ (m : Nat) (vs : List Value) (S : List (List Int)), t70 = .int .i64 (m : Int) ∧ m ≤ EL.length ∧ RoundAt P has EL P.stmts.length m S ∧ wr.ownsRow w2.heap.size 22 1 (.slice a9 has.length c9) has.length vs ∧ Made wr vs S ∧ Ext w2 wr) (fun t70 _ => EL.length - (intOf t70).toNat)
          case atStart => exact ⟨0, vs, S, rfl, Nat.zero_le _, HRd.out, Hrow.out, Hmd.out, Hx.out⟩
          case round =>
            clear HRd Hrow Hmd Hx HSl
            obtain ⟨m, vs, S, rfl, hm1, hra, hr, hm, hx⟩ := hrel
            have HRd := hid hra
            have Hrow := hid hr
            have Hmd := hid hm
            have Hx := hid hx
            have HSl := hid hra.len
            clear hra hr hm hx
            by_cases hlt : m < EL.length
            · obtain ⟨ge, cp, hge⟩ := own_some HrE.out (by omega)
              simp only [Value.slice.injEq] at hge
              obtain ⟨rfl, -, rfl⟩ := hge
              obtain ⟨⟨x, z⟩, hxk⟩ : ∃ x, EL[m]? = some x := ⟨_, List.getElem?_eq_getElem hlt⟩
              obtain ⟨q0, q1⟩ := own_e (own_ext HrE.out Hx.out) hxk
              have hin := edges0_in Hg.out.1 Hg.out.ok _ ((HA.out.mem _).1 (List.mem_of_getElem? hxk)).1
              unfold PP.InN at hin
              obtain ⟨i1, i2, i3, i4⟩ := hin
              simp only at i1 i2 i3 i4
              have hlen := Hg.out.2.1
              obtain ⟨A, rfl⟩ := Int.eq_ofNat_of_zero_le i1
              obtain ⟨B, rfl⟩ := Int.eq_ofNat_of_zero_le i3
              have hAl : A < has.length := by omega
              have hBl : B < has.length := by omega
              obtain ⟨wA, hwA⟩ : ∃ wA, wA = wr.alloc (.cells #[.int .i64 (A : Int), .int .i64 (B : Int)] 126) := ⟨_, rfl⟩
              have hxA : Ext wr wA := by rw [hwA]; exact (Ext.refl _).alloc _
              have HwAe := hid hwA
              have HwA := hid hxA
              have HBe : Hid (Blk wA wr.heap.size #[.int .i64 (A : Int), .int .i64 (B : Int)] 126) := hid (by rw [hwA]; exact Blk.new _ _ _)
              have m0 := HBe.out.kc (X := fun _ => False) (fun e => e) 0 rfl
              have m1 := HBe.out.kc (X := fun _ => False) (fun e => e) 1 rfl
              simp only [List.getElem_toArray, List.getElem_cons_zero, List.getElem_cons_succ] at m0 m1
              obtain ⟨y, l, bl, cl', hya, hl, hc, hI⟩ := (HH2.out.ext Hx.out).at hAl
              subst hya
              have hDl : has.getD A [] = l := by rw [List.getD_eq_getElem?_getD, hl]; rfl
              have hlk' : chkE l = 0 := (Hg.out.ok.ok l (List.mem_of_getElem? hl)).1
              obtain ⟨g9, cp9, hge⟩ := own_some Hrow.out (by omega)
              simp only [Value.slice.injEq] at hge
              obtain ⟨rfl, -, rfl⟩ := hge
              obtain ⟨al, cl, hcl, hIl⟩ := Made.one Hrow.out Hmd.out HSl.out hBl
              have Hidx : Hid (B < has.length) := hid hBl
              have hlk : chkE (S.getD B []) = 0 := HRd.out.ok _ (getD_mem (by rw [HSl.out]; exact hBl))
              obtain ⟨la, hla⟩ : ∃ la, la = S.getD B [] := ⟨_, rfl⟩
              rw [← hla] at hcl hIl hlk
              obtain ⟨lj, hlj⟩ : ∃ lj, lj = sset (la ++ l) := ⟨_, rfl⟩
              have Hst := hid (RoundAt.edge HRd.out hxk (fun l hl => (Hg.out.ok.ok l hl).1) hAl hBl)
              rw [← hla, hDl, ← hlj] at Hst
              have HJ := fun wa (y : Ext wA wa) => hid (fixjoin_any (.slice al la.length cl) (.slice bl l.length cl') la l wa wa.heap.size ad (HS2.out.ext (Hx.out.trans (HwA.out.trans y))) (ElR.lift (hIl.old ((HwA.out.trans y).old _)) (HwA.out.trans y).size) (ElR.lift (hI.old ((HwA.out.trans y).old _)) (Nat.le_trans Hlw.out (Hx.out.trans (HwA.out.trans y)).size)) hlk hlk')
              rw [← hlj] at HJ
              have c0 : ∀ w1, Keep (fun _ => False) wA w1 → w1.cell? ⟨g9, B, none⟩ = some (.slice al la.length cl) := fun w1 k => (HwA.out.trans k.ext).cellx hcl
              have c1' : ∀ w1, Keep (fun _ => False) wA w1 → w1.cell? (y.add A) = some (.slice bl l.length cl') := fun w1 k => (HwA.out.trans k.ext).cellx hc
              have hll : (la.length : Int) ≤ 9223372036854775807 := by have := srt_few hlk; omega
              have hll2 : (l.length : Int) ≤ 9223372036854775807 := by have := srt_few hlk'; omega
              clear hcl hIl hlk hla hlj hwA hxA hxk hlen hl hc hI hDl hlk' i1 i2 i3 i4
              go_wp2
              rw [← HwAe.out]
              clear q0 q1
              refine wp_flowT (fun _ => False) (by kernel_rfl) (by kernel_rfl) ?_
              repeat (apply FlowT.d; (intro w1 hk; unfold does; go_simp; (try go_ints); (first | exact DetR.mk | (simp only [↓IntWalk.iteOmega, Oper.doesUpon_value]; exact DetR.mk) | (simp only [↓IntWalk.iteOmega]; go_simp; (try go_ints); exact DetR.mk))); simp only [Act.put, List.setIfInBounds_toArray, List.set_cons_zero, List.set_cons_succ])
              refine FlowT.s (fun v w' => (∃ x c, v = .slice x lj.length c) ∧ (∀ x c, v = .slice x lj.length c → IntsT w' (.slice x lj.length c) lj) ∧ Ext wA w') 13 rfl (by kernel_rfl) (fun _ _ _ ⟨h1, h2, h3⟩ y => ⟨h1, fun x c e => (h2 x c e).ext y, h3.trans y⟩) (fun wa hC hk2 => ?_) ?_
              · have hxa : Ext wA wa := hC
                have HJa := HJ wa hxa
                unfold does
                go_simp
                refine CallR.act (HJa.out.mono ?_)
                rintro e wb ⟨v, rfl, ⟨x, c, rfl⟩, hT, hx⟩
                refine ⟨_, rfl, hk2.trans (hx.keep _), ⟨x, c, rfl⟩, fun x' c' e => ?_, hxa.trans hx⟩
                rw [← e]
                exact hT
              rintro _ ⟨_, ⟨xj, cj, rfl⟩, _, _⟩
              simp only [Act.put, List.setIfInBounds_toArray, List.set_cons_zero, List.set_cons_succ]
              repeat (apply FlowT.d; (intro w1 hk; unfold does; go_simp; (try go_ints); (first | exact DetR.mk | (simp only [↓IntWalk.iteOmega, Oper.doesUpon_value]; exact DetR.mk) | (simp only [↓IntWalk.iteOmega]; go_simp; (try go_ints); exact DetR.mk))); simp only [Act.put, List.setIfInBounds_toArray, List.set_cons_zero, List.set_cons_succ])
              refine FlowT.last (fun _ w' => w'.ownsRow w2.heap.size 22 1 (.slice (some ⟨g9, 0, none⟩) has.length c9) has.length (vs.set B (.slice xj lj.length cj)) ∧ Made w' (vs.set B (.slice xj lj.length cj)) (S.set B lj) ∧ Ext w2 w') 15 rfl (by kernel_rfl) (by kernel_rfl) (fun wa hC hk2 => ?_) (fun _ w6 hR => ?_)
              · obtain ⟨_, hT, hxa⟩ := hC
                have hT := hT _ _ rfl
                have hrw := own_ext Hrow.out (HwA.out.trans hxa)
                have hmw := Hmd.out.ext (HwA.out.trans hxa)
                obtain ⟨p1, p2, p3⟩ := Made.put hrw hmw HSl.out hT Hidx.out
                obtain ⟨u, hu⟩ : ∃ u, vs[B]? = some u := ⟨_, List.getElem?_eq_getElem (by rw [Hmd.out.1, HSl.out]; exact Hidx.out)⟩
                have z0 := own_get hrw B hu
                have y0 := own_free hrw B
                have hbase := (own_blk hrw).choose_spec.2.1
                have hxx := Keep.new (Hx.out.trans (HwA.out.trans hxa)) p3 fun b e => by rw [e]; exact hbase
                clear hrw hmw hbase
                unfold does
                go_simp
                try exact ⟨p1, p2, hxx⟩
              obtain ⟨h1, h2, h3⟩ := hR
              simp only [Act.put, List.setIfInBounds_toArray, List.set_cons_zero, List.set_cons_succ]
              have Hn1 := hid h1
              have Hn2 := hid h2
              have Hn3 := hid h3
              clear h1 h2 h3
              clear m0 m1 c0 c1' HJ
              go_wp2
              go_roundw
              case rel => exact ⟨m + 1, _, _, by go_num, by omega, Hst.out, Hn1.out, Hn2.out, Hn3.out⟩
              case measure => simp [intOf]; omega
            · obtain rfl : m = EL.length := by omega
              have He : Hid (S = P.roundV has) := hid (HRd.out.uniq HRA.out)
              have HF : Hid (Made wr vs (P.roundV has)) := hid (by rw [← He.out]; exact Hmd.out)
              have HFl : Hid ((P.roundV has).length = has.length) := hid (by rw [← He.out]; exact HSl.out)
              go_wp2
              go_ret2
              exact ⟨_, _, vs, rfl, own_low Hrow.out Hlw.out, HF.out, HFl.out, Hxw2.out.trans Hx.out⟩
theorem fixround_ok (a1 a2 a3 : Option Addr) (c1 c2 c3 : Nat) (P : PP) (hv : Value) (has : List (List Int)) (w : World) (ad : Nat → Addr) (h : PW w w.heap.size ad a1 a2 a3 c1 c2 c3 P) (hS : ErrS w ad) (hh : SetsR w w.heap.size hv has) (hg : P.GoodS has) :
    Calls Tryz.prog 33 #[pval a1 a2 a3 c1 c2 c3 P, hv] w fun e w' => ∃ a c, e = .returned (.tuple #[.slice a has.length c, .nilIface]) ∧ SetsR w' w'.heap.size (.slice a has.length c) (P.roundV has) ∧ Ext w w' :=
  (fixround_made a1 a2 a3 c1 c2 c3 P hv has w ad h hS hh hg).mono fun e w' ⟨a, c, vs, he, hr, hm, hl, hx⟩ => by
    refine ⟨a, c, he, ?_, hx⟩
    have := SetsR.made (v := .slice a has.length c) (L := P.roundV has) (by rw [hl]; exact hr) hm
    exact this
end Go.Proofs.YtoaoienfggjepaaGreatDoor



/- The reference's round, walked. -/
namespace Go.Proofs.YtoaoienfggjepaaGreatDoor
set_option linter.unusedSimpArgs false
set_option linter.unusedVariables false
open Go Go.RowKit

theorem own_not {w : World} {base : Nat} {e : TypeId} {size : Nat} {v : Value} {n : Nat} {xs : List Value} (h : w.ownsRow base e size v n xs) {B : Nat} {c : Array Value} {t : TypeId} (hB : Blk w B c t) (hne : e ≠ t) : ¬ v.ownBlock = some B := fun e => by
  obtain ⟨c', hc'⟩ := own_ty h e
  exact Blk.ty_ne hc' hB hne rfl
theorem does_append_src4 {ops : Array Oper} {o : Oper} {a : Act} {w : World} {R : Value → World → Prop} (base : Nat) (hbase : base ≤ w.heap.size) (t e : TypeId) (z : Value) (size bytes : Nat) (ht : Tryz.prog.underlying t = some (.slice e)) (hinf : (Tryz.prog.info? e).map (fun i => (i.zero, i.size, i.bytes)) = some (some z, size, bytes)) (hz1 : z.cells.size = size) (hsz : 0 < size)
    (hb8 : bytes ≤ 64) (hg : o.guard = none) (s x : Operand) (ho : o.op = .call { callee := .builtin .append, args := #[s, x], argTypes := #[t, t] })
    (v : Value) (n : Nat) (xs : List Value) (hs : a.eval s = v) (hown : w.ownsRow base e size v n xs) (ad : Option Addr) (m c : Nat) (us : List Value) (hx : a.eval x = .slice ad m c) (hsrc : Src w ad m size us) (hl : n + m ≤ 1000000)
    (h : ∀ v' w', w'.ownsRow base e size v' (n + m) (xs ++ us) → Keep (fun k => v.ownBlock = some k) w w' → (∀ k, v'.ownBlock = some k → v.ownBlock = some k ∨ w.heap.size ≤ k) → R v' w') : does Tryz.prog ops o a w R := by
  obtain ⟨v', w', hr, h2, h3, h4⟩ := run_append_src w base hbase t e z size bytes ht hinf hz1 hsz hb8 o.type v n xs hown ad m c us hsrc hl
  exact does_of_run hg (run_exec_append s x t ho hs hx hr) (h v' w' h2 h3 h4)
theorem BagAt.inr {P : PP} {has : List (List Int)} {EL : List (Int × Int)} {k m : Nat} {B : List (List Int)} (h : BagAt P has EL k m B) {l : List Int} (hl : l ∈ B) : InR l := fun x hx => by
  obtain ⟨S, h1, h2, h3⟩ := h.set
  obtain ⟨i, hi, rfl⟩ := List.getElem_of_mem hl
  have hx' : x ∈ B.getD i [] := by rw [List.getD_eq_getElem?_getD, List.getElem?_eq_getElem hi]; exact hx
  exact (chkE_zero.1 (h1.ok _ (getD_mem (by rw [← h2]; exact hi)))).1 x ((h3 i x).1 hx')
theorem own_pos {w : World} {base g : Nat} {e : TypeId} {size n cap : Nat} {xs : List Value} (h : w.ownsRow base e size (.slice (some ⟨g, 0, none⟩) n cap) n xs) : ∃ c, Blk w g c e ∧ base ≤ g := by
  obtain ⟨c, h1, h2, _⟩ := own_blk h
  exact ⟨c, h1, h2⟩
set_option maxRecDepth 100000 in
set_option maxHeartbeats 6400000 in
theorem rroundof_any (a1 a2 a3 : Option Addr) (c1 c2 c3 : Nat) (P : PP) (hv : Value) (has : List (List Int)) (w : World) (n0 : Nat) (h : ProgR w n0 (.slice a1 P.vars.length c1) (.slice a2 P.funs.length c2) (.slice a3 P.stmts.length c3) P) (hg : P.GoodS has) (hh : SetsR w n0 hv has) (hn0 : n0 ≤ w.heap.size) :
    Calls Tryz.prog 39 #[pval a1 a2 a3 c1 c2 c3 P, hv] w fun e w' => ∃ a c, e = .returned (.slice a has.length c) ∧ SetsR w' w'.heap.size (.slice a has.length c) (P.roundV has) ∧ Ext w w' := by
  obtain ⟨ah, ch, rfl⟩ := hh.form
  have hhl := hh.len
  have Hg := hid hg
  have HA := hid (edgesL_are hg)
  have hEl := edgesL_len hg.1 has
  obtain ⟨hf1, hf2, hf3⟩ := hg.1.few
  have hN6 : has.length ≤ 120 := by have := nodesV_le P hg.1; have := hg.2.1; omega
  obtain ⟨W, hW⟩ : ∃ W, W = w.alloc (.cells (pcells a1 a2 a3 c1 c2 c3 P) 39) := ⟨_, rfl⟩
  have HX : Hid (Ext w W) := hid (by rw [hW]; exact (Ext.refl _).alloc _)
  have HBx : Hid (Blk W w.heap.size (pcells a1 a2 a3 c1 c2 c3 P) 39) := hid (by rw [hW]; exact Blk.new _ _ _)
  have HWe : Hid (W = w.alloc (.cells #[.slice a1 P.vars.length c1, .slice a2 P.funs.length c2, .slice a3 P.stmts.length c3] 39)) := hid (by rw [hW]; rfl)
  have HRu := fun k (hk : k < P.stmts.length) w1 (x : Ext w w1) => hid (rruleof_any a1 a2 a3 c1 c2 c3 P k _ (stAt_some hk) w1 n0 (h.ext x) hg.1)
  have HEo := fun w1 (x : Ext w w1) => hid (redgesof_any a1 a2 a3 c1 c2 c3 P (.slice ah has.length ch) has w1 n0 (h.ext x) hg.1 (hh.ext x) hg.2.1 (Nat.le_trans hn0 x.size))
  have HH := hid (hh.ext HX.out)
  have Hn0 := hid hn0
  obtain ⟨EL, hEL⟩ : ∃ EL, EL = P.edgesL has := ⟨_, rfl⟩
  have hEL' : P.refE has P.nodesV = EL := hEL.symm
  rw [hEL'] at HEo
  have Hel := hid hEL
  rw [← hEL] at HA hEl
  have Hvn := hid (nodes_vars P)
  unfold pval at HRu HEo ⊢
  clear h hg hh hW hn0 hEL hEL'
  go_enter Tryz.func39, Tryz.ntmps39
  go_wp2
  rw [← HWe.out]
  go_loopw [5, 6] (fun t5 t6 wr => ∃ (k : Nat) (vs : List Value), t6 = .int .i64 (k : Int) ∧ k ≤ has.length ∧ wr.ownsRow W.heap.size 22 1 t5 k vs ∧ Bags wr W.heap.size vs (has.take k) ∧ Ext W wr) (fun _ t6 _ => has.length - (intOf t6).toNat)
  case atStart => exact ⟨0, [], rfl, Nat.zero_le _, World.ownsRow_nil _ _ _ _, Bags.nil _ _, Ext.refl _⟩
  case round =>
    obtain ⟨k, vs, rfl, hk, hr, hb, hx⟩ := hrel
    obtain ⟨a5, c5, rfl⟩ := row_form hr
    have Hr := hid hr
    have Hb := hid hb
    have Hx := hid hx
    clear hr hb hx
    by_cases hlt : k < has.length
    · obtain ⟨y, l, bl, cl, hya, hl, hc, hI⟩ := (HH.out.ext Hx.out).at hlt
      subst hya
      have hlk := (Hg.out.ok.ok l (List.mem_of_getElem? hl)).1
      have hll := srt_few hlk
      have HIn := hid (hI.ints (fun i => by
        by_cases hi : i < l.length
        · have := (chkE_zero.1 hlk).1 (l.getD i 0) (by rw [List.getD_eq_getElem?_getD, List.getElem?_eq_getElem hi]; exact List.getElem_mem hi)
          omega
        · rw [List.getD_eq_getElem?_getD, List.getElem?_eq_none (by omega)]; decide))
      have Hl := hid hl
      clear hl hI hlk
      go_wp2_with (at_builtin; first
        | (refine wpList_append_ints wr.heap.size (Nat.le_refl _) rfl _ _ rfl (.slice none 0 0) [] rfl (World.ownsRow_nil _ _ _ _) bl l.length cl l rfl HIn.out (by simp; omega) ?_; intro v3 w3 h1 h2; have hx3 := grown_ext (Ext.refl wr) (World.ownsRow_nil wr wr.heap.size 3 1) h2; rw [List.nil_append] at h1; obtain ⟨a3', c3', rfl⟩ := h1.form; have Hx3 := hid hx3; have Hr3 := hid h1; have hxa : Hid (Ext W (w3.alloc (.cells #[.slice a3' l.length c3'] 22))) := hid ((Hx.out.trans Hx3.out).alloc _); have hx3a : Hid (Ext wr (w3.alloc (.cells #[.slice a3' l.length c3'] 22))) := hid (Hx3.out.alloc _); have Hra := hid (own_ext Hr.out hx3a.out); have Hba := hid ((Hb.out.push Hx3.out (own_low Hr3.out Hx.out.size) (fun b e => (World.ownsRow.lt Hr3.out b e).1)).ext ((Ext.refl w3).alloc (.cells #[.slice a3' l.length c3'] 22))); clear h1 h2 hx3)
        | (refine wpList_append_el W.heap.size hxa.out.size 44 22 (.slice none 0 0) 1 24 Tryz.underlying44 rows_info rfl (by omega) (by omega) rfl _ _ rfl (.slice a5 k c5) k vs rfl Hra.out w3.heap.size [.slice a3' l.length c3'] rfl (by simp [Value.oneCell']) rfl (Blk.new _ _ _) (by omega) ?_; intro v' w' h1 h2 h4; obtain ⟨a', c', rfl⟩ := row_form h1; have h3 := hid (Keep.new hxa.out h2 (fun k hk => (World.ownsRow.lt Hra.out k hk).1)); have hm5 := hid (Hba.out.keep h2 (fun b e => by obtain ⟨c, hc⟩ := own_ty Hra.out e; exact IsInt.not hc (by decide))); have h1 := hid h1; clear h2 h4))
      go_roundw
      case rel =>
        refine ⟨k + 1, _, by go_num, by omega, h1.out, ?_, h3.out⟩
        rw [List.take_add_one, Hl.out]
        exact hm5.out
      case measure => simp [intOf]; omega
    · obtain rfl : k = has.length := by omega
      rw [List.take_of_length_le (Nat.le_refl _)] at Hb
      clear hlt hk
      go_wp2
      go_loopw [8] (fun t8 wr => ∃ (k : Nat) (vs : List Value) (B : List (List Int)), t8 = .int .i64 (k : Int) ∧ k ≤ P.stmts.length ∧ BagAt P has EL k 0 B ∧ wr.ownsRow W.heap.size 22 1 (.slice a5 has.length c5) has.length vs ∧ Bags wr W.heap.size vs B ∧ Ext W wr) (fun t8 _ => P.stmts.length - (intOf t8).toNat)
      case atStart => exact ⟨0, vs, has, rfl, Nat.zero_le _, BagAt.start Hg.out EL, Hr.out, Hb.out, Hx.out⟩
      case round =>
        clear Hr Hb Hx
        obtain ⟨k, vs, B, rfl, hk, hba, hr, hb, hx⟩ := hrel
        have HBa := hid hba
        have Hr := hid hr
        have Hb := hid hb
        have Hx := hid hx
        have HBl := hid hba.len
        clear hba hr hb hx
        have d0 := (HBx.out.ext Hx.out).av 0 rfl
        have d1 := (HBx.out.ext Hx.out).av 1 rfl
        have d2 := (HBx.out.ext Hx.out).av 2 rfl
        simp only [pcells, List.getElem_toArray, List.getElem_cons_zero, List.getElem_cons_succ] at d0 d1 d2
        by_cases hlt : k < P.stmts.length
        · have HC := HRu k hlt wr (HX.out.trans Hx.out)
          obtain ⟨s1, s2, s3, _, _, _⟩ := rule_same (Hg.out.1.2 k (P.stAt k) hlt (stAt_some hlt)) k
          have hra := rule_a_in Hg.out.1 hlt
          rw [← s2] at hra
          have hrb := fun hb => base_b_in Hg.out.1 hlt hb
          rw [← s1, ← s3] at hrb
          have hob := objects_few Hg.out.1
          obtain ⟨r, hr⟩ : ∃ r, r = P.ruleR k (P.stAt k) := ⟨_, rfl⟩
          rw [← hr] at HC s1 s2 s3 hra hrb
          have Hs := hid (And.intro s1 (And.intro s2 s3))
          have Hra := hid hra
          have Hrb := hid hrb
          clear hr s1 s2 s3 hra hrb
          go_wp2_with fail
          refine HC.out.mono ?_
          intro e w2 hx
          obtain ⟨av, rfl, hI, hx2⟩ := hx
          obtain ⟨aa, ca, hav, _⟩ := id hI
          subst hav
          unfold RV.val
          obtain ⟨V, hV⟩ : ∃ V, V = w2.alloc (.cells #[.string r.kind, .int .i64 r.a, .int .i64 r.b, .int .i64 r.k, .slice aa r.args.length ca] 130) := ⟨_, rfl⟩
          have hxV : Ext w2 V := by rw [hV]; exact (Ext.refl _).alloc _
          have HBr : Hid (Blk V w2.heap.size #[.string r.kind, .int .i64 r.a, .int .i64 r.b, .int .i64 r.k, .slice aa r.args.length ca] 130) := hid (by rw [hV]; exact Blk.new _ _ _)
          have HVe := hid hV
          have HrV := hid (hx2.trans hxV)
          have HxV := hid (Hx.out.trans (hx2.trans hxV))
          clear HC hI hx2 hxV hV d0 d1 d2
          cases hkb : (r.kind.toList == [98, 97, 115, 101]) with
          | true =>
            have hkl : r.kind.toList = bBase.toList := (eq_of_beq hkb).trans (eq_of_beq bBase_list).symm
            have Hkb : Hid ((P.ruleV k (P.stAt k)).kind.toList = bBase.toList) := hid (by rw [← Hs.out.1]; exact hkl)
            have Hb01 : Hid (0 ≤ r.b ∧ r.b < 1000) := hid (by have := Hrb.out hkl; omega)
            obtain ⟨A, hA⟩ := Int.eq_ofNat_of_zero_le Hra.out.1
            have hAl : A < has.length := by have := Hra.out.2; have := Hvn.out; have := Hg.out.2.1; omega
            have hAB : A < B.length := by rw [HBl.out]; exact hAl
            have hAv : A < vs.length := by rw [Hb.out.len]; exact hAB
            obtain ⟨vA, hvA⟩ : ∃ vA, vs[A]? = some vA := ⟨_, List.getElem?_eq_getElem hAv⟩
            obtain ⟨lA, hlA⟩ : ∃ lA, lA = B.getD A [] := ⟨_, rfl⟩
            have hBA : B[A]? = some lA := by rw [hlA, List.getD_eq_getElem?_getD, List.getElem?_eq_getElem hAB]; rfl
            have hRowA := (Hb.out.ext HrV.out).row A vA lA hvA hBA
            obtain ⟨aA, cA, rfl⟩ := hRowA.form
            obtain ⟨g5, cp5, hge⟩ := own_some Hr.out (by omega)
            simp only [Value.slice.injEq] at hge
            obtain ⟨rfl, -, rfl⟩ := hge
            have hrV := own_ext Hr.out HrV.out
            obtain ⟨cc5, hb5, hg5⟩ := own_pos hrV
            have HfA : Hid (lA.length ≤ 500000) := hid (by have h1 := HBa.out.few A; rw [← hlA, cntE_zero] at h1; omega)
            have hn5 := own_not hRowA hb5 (by decide)
            have c0 : ∀ w1, Keep (fun q => (Value.slice aA lA.length cA).ownBlock = some q) V w1 → w1.cell? ⟨g5, A, none⟩ = some (.slice aA lA.length cA) := fun w1 k => k.cellx (own_get hrV A hvA) hn5
            have m1 := HBr.out.kc (X := fun q => (Value.slice aA lA.length cA).ownBlock = some q) (own_not hRowA HBr.out (by decide)) 1 rfl
            have m2 := HBr.out.kc (X := fun q => (Value.slice aA lA.length cA).ownBlock = some q) (own_not hRowA HBr.out (by decide)) 2 rfl
            have m0 := HBr.out.av 0 rfl
            simp only [List.getElem_toArray, List.getElem_cons_zero, List.getElem_cons_succ] at m0 m1 m2
            rw [HVe.out] at m0
            rw [hA] at m1
            have Hst := hid (BagAt.base HBa.out Hkb.out (by rw [← Hs.out.2.1]; exact hA) (by rw [← Hs.out.2.2]) Hb01.out hAl)
            obtain ⟨lB, hlB⟩ : ∃ lB, lB = lA ++ [r.b] := ⟨_, rfl⟩
            rw [← hlA, ← hlB] at Hst
            have HlB := hid hlB
            have HRowA := hid hRowA
            have HvA := hid hvA
            have HAv := hid hAv
            have Hn5 := hid hn5
            have HrowV := hid hrV
            have Hb5 := hid hb5
            have Hg5 := hid hg5
            clear hkl hA hvA hlA hBA hRowA hrV hb5 hg5 hn5 hlB
            go_wp2
            rw [← HVe.out]
            clear m0
            refine wp_flowT (fun q => (Value.slice aA lA.length cA).ownBlock = some q) (by kernel_rfl) (by kernel_rfl) ?_
            repeat (apply FlowT.d; (intro w1 hk; unfold does; go_simp; (try go_ints); (first | exact DetR.mk | (simp only [↓IntWalk.iteOmega, Oper.doesUpon_value]; exact DetR.mk) | (simp only [↓IntWalk.iteOmega]; go_simp; (try go_ints); exact DetR.mk))); simp only [Act.put, List.setIfInBounds_toArray, List.set_cons_zero, List.set_cons_succ])
            refine FlowT.s (fun v w' => (∃ b, v = .slice (some ⟨b, 0, none⟩) 1 1) ∧ (∀ b, v = .slice (some ⟨b, 0, none⟩) 1 1 → Blk w' b #[.int .i64 r.b] 3) ∧ Ext V w') 7 rfl (by kernel_rfl) (fun _ _ _ ⟨h1, h2, h3⟩ y => ⟨h1, fun b e => (h2 b e).ext y, h3.trans y⟩) (fun wa hC hk2 => ?_) ?_
            · unfold does
              go_simp
              exact ⟨hk2.alloc _, ⟨_, rfl⟩, fun b e => by
                obtain rfl : wa.heap.size = b := by simpa using e
                exact Blk.new _ _ _, hC.alloc _⟩
            rintro _ ⟨_, ⟨bq, rfl⟩, _, _⟩
            simp only [Act.put, List.setIfInBounds_toArray, List.set_cons_zero, List.set_cons_succ]
            refine FlowT.s (fun v w' => IRow W.heap.size w' v lB ∧ (∀ q, v.ownBlock = some q → (Value.slice aA lA.length cA).ownBlock = some q ∨ V.heap.size ≤ q)) 8 rfl (by kernel_rfl) (fun _ _ _ ⟨h1, h2⟩ y => ⟨own_ext h1 y, h2⟩) (fun wa hC hk2 => ?_) ?_
            · obtain ⟨_, hB, hxa⟩ := hC
              refine does_append_el W.heap.size (Nat.le_trans HxV.out.size hxa.size) 22 3 (.int .i64 0) 1 8 Tryz.underlying22 ints_info rfl (by omega) (by omega) rfl _ _ rfl (.slice aA lA.length cA) lA.length (icells lA) rfl (own_ext HRowA.out hxa) bq [.int .i64 r.b] rfl (by simp [Value.oneCell']) rfl (hB bq rfl) (by have := HfA.out; omega) (fun v' w' h1 h2 h4 => ?_)
              refine ⟨(hxa.keep _).trans h2, ?_, fun q hq => ?_⟩
              · rw [HlB.out]
                unfold IRow
                rw [List.length_append, icells_append]
                exact h1
              · rcases h4 with h | h
                · exact .inl (h ▸ hq)
                · rw [h] at hq
                  obtain rfl := Option.some.inj hq
                  exact .inr hxa.size
            rintro v3 ⟨w3', h3, _⟩
            obtain ⟨a3, c3, rfl⟩ := h3.form
            clear h3
            simp only [Act.put, List.setIfInBounds_toArray, List.set_cons_zero, List.set_cons_succ]
            repeat (apply FlowT.d; (intro w1 hk; unfold does; go_simp; (try go_ints); (first | exact DetR.mk | (simp only [↓IntWalk.iteOmega, Oper.doesUpon_value]; exact DetR.mk) | (simp only [↓IntWalk.iteOmega]; go_simp; (try go_ints); exact DetR.mk))); simp only [Act.put, List.setIfInBounds_toArray, List.set_cons_zero, List.set_cons_succ])
            refine FlowT.fin fun w6 hC hk6 => ?_
            obtain ⟨hr3, ho3⟩ := hC
            have hrow6 := row_keep HrowV.out hk6 (fun i hi => by obtain rfl := Option.some.inj hi; exact Hn5.out)
            obtain ⟨cc6, hb6, _⟩ := own_pos hrow6
            have z0 := c0 w6 hk6
            have f0 := own_free hrow6 A
            have n1 := m1 w6 hk6
            have Hbags := hid ((Hb.out.ext HrV.out).app HAv.out HvA.out hr3 hk6 ho3)
            have Hset := hid (own_set hrow6 A HAv.out (.slice a3 lB.length c3))
            have Hbs := hid (Hbags.out.keep (Keep.set (X := fun q => q = g5) (p := ⟨g5, A, none⟩) (Keep.refl _ w6) rfl (.slice a3 lB.length c3)) (fun b e => by rw [e]; exact IsInt.not hb6 (by decide)))
            have Hx6 : Hid (Ext W (w6.setCell ⟨g5, A, none⟩ (.slice a3 lB.length c3))) := hid (Keep.new HxV.out ((hk6.mono (Y := fun q => q = g5 ∨ (Value.slice aA lA.length cA).ownBlock = some q) fun _ _ h => .inr h).set (.inl rfl) _) (fun q h => by
              rcases h with h | h
              · rw [h]; exact Hg5.out
              · exact (World.ownsRow.lt HRowA.out q h).1))
            clear hr3 ho3 hrow6 hb6 hk6 c0 m1 m2 hkb
            go_wp2
            go_roundw
            case rel => exact ⟨k + 1, _, _, by go_num, by omega, Hst.out, Hset.out, Hbs.out, Hx6.out⟩
            case measure => simp [intOf]; omega
          | false =>
            have Hkb : Hid ((P.ruleV k (P.stAt k)).kind.toList ≠ bBase.toList) := hid (by
              rw [← Hs.out.1]
              intro h
              rw [h, bBase_list] at hkb
              cases hkb)
            have m0 := HBr.out.av 0 rfl
            simp only [List.getElem_toArray, List.getElem_cons_zero, List.getElem_cons_succ] at m0
            rw [HVe.out] at m0
            go_wp2
            rw [← HVe.out]
            go_roundw
            case rel => exact ⟨k + 1, vs, B, by go_num, by omega, HBa.out.skip Hkb.out, own_ext Hr.out HrV.out, Hb.out.ext HrV.out, HxV.out⟩
            case measure => simp [intOf]; omega
        · obtain rfl : k = P.stmts.length := by omega
          have HC := HEo wr (HX.out.trans Hx.out)
          clear HRu HEo
          go_wp2_with fail
          refine HC.out.mono ?_
          intro e w2 hx
          obtain ⟨v, rfl, hr, hx2⟩ := hx
          unfold RERow at hr
          obtain ⟨av, cv, rfl⟩ := row_form hr
          have HrE := hid (own_low hr (Nat.zero_le _))
          have HxB := hid (Hx.out.trans hx2)
          have HrB := hid (own_ext Hr.out hx2)
          have HbB := hid (Hb.out.ext hx2)
          have HHn := hid (show n0 ≤ W.heap.size from Nat.le_trans Hn0.out HX.out.size)
          clear HC hr hx2 d0 d1 d2 hlt hk
          go_wp2
          go_loopw [12] (fun t12 wr => ∃ (i : Nat) (vs : List Value) (B : List (List Int)), t12 = .int .i64 (i : Int) ∧ i ≤ EL.length ∧ BagAt P has EL P.stmts.length i B ∧ wr.ownsRow W.heap.size 22 1 (.slice a5 has.length c5) has.length vs ∧ Bags wr W.heap.size vs B ∧ wr.ownsRow 0 134 2 (.slice av EL.length cv) EL.length (EL.flatMap eCells) ∧ Ext W wr) (fun t12 _ => EL.length - (intOf t12).toNat)
          case atStart => exact ⟨0, vs, B, rfl, Nat.zero_le _, HBa.out, HrB.out, HbB.out, HrE.out, HxB.out⟩
          case round =>
            clear HrE HxB HrB HbB HBa Hr Hb Hx HBl
            obtain ⟨i, vs, B, rfl, hi, hba, hr, hb, hre, hx⟩ := hrel
            have HBa := hid hba
            have Hr := hid hr
            have Hb := hid hb
            have Hre := hid hre
            have Hx := hid hx
            have HBl := hid hba.len
            clear hba hr hb hre hx
            by_cases hil : i < EL.length
            · obtain ⟨g, cp, hge⟩ := own_some Hre.out (by omega)
              simp only [Value.slice.injEq] at hge
              obtain ⟨rfl, -, rfl⟩ := hge
              obtain ⟨⟨x, z⟩, hxk⟩ : ∃ x, EL[i]? = some x := ⟨_, List.getElem?_eq_getElem hil⟩
              obtain ⟨q0, q1⟩ := own_e2 Hre.out hxk
              have hin := edges0_in Hg.out.1 Hg.out.ok _ ((HA.out.mem _).1 (List.mem_of_getElem? hxk)).1
              unfold PP.InN at hin
              obtain ⟨i1, i2, i3, i4⟩ := hin
              simp only at i1 i2 i3 i4
              obtain ⟨A, rfl⟩ := Int.eq_ofNat_of_zero_le i1
              obtain ⟨Z, rfl⟩ := Int.eq_ofNat_of_zero_le i3
              have hAl : A < has.length := by have := Hg.out.2.1; omega
              have hZl : Z < has.length := by have := Hg.out.2.1; omega
              obtain ⟨y, l, bl, cl, hya, hl, hc, hI⟩ := HH.out.at hAl
              subst hya
              have hZB : Z < B.length := by rw [HBl.out]; exact hZl
              have hZv : Z < vs.length := by rw [Hb.out.len]; exact hZB
              obtain ⟨vZ, hvZ⟩ : ∃ vZ, vs[Z]? = some vZ := ⟨_, List.getElem?_eq_getElem hZv⟩
              obtain ⟨lZ, hlZ⟩ : ∃ lZ, lZ = B.getD Z [] := ⟨_, rfl⟩
              have hBZ : B[Z]? = some lZ := by rw [hlZ, List.getD_eq_getElem?_getD, List.getElem?_eq_getElem hZB]; rfl
              have hRowZ := Hb.out.row Z vZ lZ hvZ hBZ
              obtain ⟨aZ, cZ, rfl⟩ := hRowZ.form
              obtain ⟨g5, cp5, hge⟩ := own_some Hr.out (by omega)
              simp only [Value.slice.injEq] at hge
              obtain ⟨rfl, -, rfl⟩ := hge
              obtain ⟨cc5, hb5, hg5⟩ := own_pos Hr.out
              obtain ⟨cce, hbe, _⟩ := own_pos Hre.out
              have hn5 := own_not hRowZ hb5 (by decide)
              have hne := own_not hRowZ hbe (by decide)
              have hlow : ∀ q, (Value.slice aZ lZ.length cZ).ownBlock = some q → W.heap.size ≤ q := fun q e => (World.ownsRow.lt hRowZ q e).1
              have hlk := (Hg.out.ok.ok l (List.mem_of_getElem? hl)).1
              have hll := srt_few hlk
              have HfZ : Hid (lZ.length ≤ 500000) := hid (by
                have h1 := HBa.out.few Z
                have h2 := cntE_few (N := P.nodesV) HA.out.srt (fun e he => by
                  have := edges0_in Hg.out.1 Hg.out.ok _ ((HA.out.mem _).1 he).1
                  exact ⟨this.1, this.2.1⟩) i Z
                have h3 := nodesV_le P Hg.out.1
                rw [← hlZ] at h1
                omega)
              have c0 : ∀ w1, Keep (fun q => (Value.slice aZ lZ.length cZ).ownBlock = some q) wr w1 → w1.cell? ⟨g5, Z, none⟩ = some (.slice aZ lZ.length cZ) := fun w1 k => k.cellx (own_get Hr.out Z hvZ) hn5
              have j0 : ∀ w1, Keep (fun q => (Value.slice aZ lZ.length cZ).ownBlock = some q) wr w1 → w1.cell? ⟨g, i * 2, none⟩ = some (.int .i64 (A : Int)) := fun w1 k => k.cellx q0 hne
              have j1 : ∀ w1, Keep (fun q => (Value.slice aZ lZ.length cZ).ownBlock = some q) wr w1 → w1.cell? ⟨g, i * 2 + 1, none⟩ = some (.int .i64 (Z : Int)) := fun w1 k => k.cellx q1 hne
              have s0 : ∀ w1, Keep (fun q => (Value.slice aZ lZ.length cZ).ownBlock = some q) wr w1 → w1.cell? (y.add A) = some (.slice bl l.length cl) := fun w1 k => k.cellx (Hx.out.cellx hc) (fun e => by
                have h1 := cell_lt hc
                have h2 := hlow _ e
                omega)
              have HSrc : Hid (∀ w1, Keep (fun q => (Value.slice aZ lZ.length cZ).ownBlock = some q) wr w1 → Src w1 bl l.length 1 (icells l)) := hid fun w1 k => (hI.old ((Hx.out.old n0).trans (k.mono fun q _ e => Nat.le_trans HHn.out (hlow q e)))).src
              have HD1 : has.getD A [] = l := by rw [List.getD_eq_getElem?_getD, hl]; rfl
              obtain ⟨lB, hlB⟩ : ∃ lB, lB = lZ ++ l := ⟨_, rfl⟩
              have Hst := hid (BagAt.edge HBa.out hxk (fun l hl => (Hg.out.ok.ok l hl).1) hAl hZl)
              rw [← hlZ, HD1, ← hlB] at Hst
              have HlB := hid hlB
              have HRowZ := hid hRowZ
              have HvZ := hid hvZ
              have HZv := hid hZv
              have Hn5 := hid hn5
              have Hne := hid hne
              have Hg5 := hid hg5
              have Hlow := hid hlow
              clear hxk q0 q1 i1 i2 i3 i4 hl hc hI hZB hvZ hlZ hBZ hRowZ hb5 hg5 hbe hn5 hne hlow hlk HD1 hlB
              go_wp2
              refine wp_flowT (fun q => (Value.slice aZ lZ.length cZ).ownBlock = some q) (by kernel_rfl) (by kernel_rfl) ?_
              repeat (apply FlowT.d; (intro w1 hk; unfold does; go_simp; (try go_ints); (first | exact DetR.mk | (simp only [↓IntWalk.iteOmega, Oper.doesUpon_value]; exact DetR.mk) | (simp only [↓IntWalk.iteOmega]; go_simp; (try go_ints); exact DetR.mk))); simp only [Act.put, List.setIfInBounds_toArray, List.set_cons_zero, List.set_cons_succ])
              refine FlowT.s (fun v w' => IRow W.heap.size w' v lB ∧ (∀ q, v.ownBlock = some q → (Value.slice aZ lZ.length cZ).ownBlock = some q ∨ wr.heap.size ≤ q)) 16 rfl (by kernel_rfl) (fun _ _ _ ⟨h1, h2⟩ y => ⟨own_ext h1 y, h2⟩) (fun wa hC hk2 => ?_) ?_
              · refine does_append_src4 W.heap.size (Nat.le_trans Hx.out.size hk2.size) 22 3 (.int .i64 0) 1 8 Tryz.underlying22 ints_info rfl (by omega) (by omega) rfl _ _ rfl (.slice aZ lZ.length cZ) lZ.length (icells lZ) rfl (own_ext HRowZ.out hC) bl l.length cl (icells l) rfl (HSrc.out wa hk2) (by have := HfZ.out; omega) (fun v' w' h1 h2 h4 => ?_)
                refine ⟨hk2.trans h2, ?_, fun q hq => ?_⟩
                · rw [HlB.out]
                  unfold IRow
                  rw [List.length_append, icells_append]
                  exact h1
                · rcases h4 q hq with h | h
                  · exact .inl h
                  · exact .inr (Nat.le_trans hk2.size h)
              rintro v3 ⟨w3', h3, _⟩
              obtain ⟨a3, c3, rfl⟩ := h3.form
              clear h3
              simp only [Act.put, List.setIfInBounds_toArray, List.set_cons_zero, List.set_cons_succ]
              repeat (apply FlowT.d; (intro w1 hk; unfold does; go_simp; (try go_ints); (first | exact DetR.mk | (simp only [↓IntWalk.iteOmega, Oper.doesUpon_value]; exact DetR.mk) | (simp only [↓IntWalk.iteOmega]; go_simp; (try go_ints); exact DetR.mk))); simp only [Act.put, List.setIfInBounds_toArray, List.set_cons_zero, List.set_cons_succ])
              refine FlowT.fin fun w6 hC hk6 => ?_
              obtain ⟨hr3, ho3⟩ := hC
              have hrow6 := row_keep Hr.out hk6 (fun i hi => by obtain rfl := Option.some.inj hi; exact Hn5.out)
              have hre6 := row_keep Hre.out hk6 (fun i hi => by obtain rfl := Option.some.inj hi; exact Hne.out)
              obtain ⟨cc6, hb6, _⟩ := own_pos hrow6
              have z0 := c0 w6 hk6
              have f0 := own_free hrow6 Z
              have n0' := j0 w6 hk6
              have n1 := j1 w6 hk6
              have Hbags := hid (Hb.out.app HZv.out HvZ.out hr3 hk6 ho3)
              have Hset := hid (own_set hrow6 Z HZv.out (.slice a3 lB.length c3))
              have Hbs := hid (Hbags.out.keep (Keep.set (X := fun q => q = g5) (p := ⟨g5, Z, none⟩) (Keep.refl _ w6) rfl (.slice a3 lB.length c3)) (fun b e => by rw [e]; exact IsInt.not hb6 (by decide)))
              have Hre7 := hid (row_keep hre6 (Keep.set (X := fun q => q = g5) (p := ⟨g5, Z, none⟩) (Keep.refl _ w6) rfl (.slice a3 lB.length c3)) (fun q hq e => own_not hre6 hb6 (by decide) (by rw [hq, e])))
              have Hx6 : Hid (Ext W (w6.setCell ⟨g5, Z, none⟩ (.slice a3 lB.length c3))) := hid (Keep.new Hx.out ((hk6.mono (Y := fun q => q = g5 ∨ (Value.slice aZ lZ.length cZ).ownBlock = some q) fun _ _ h => .inr h).set (.inl rfl) _) (fun q h => by
                rcases h with h | h
                · rw [h]; exact Hg5.out
                · exact Hlow.out q h))
              clear hr3 ho3 hrow6 hre6 hb6 hk6 c0 j0 j1 s0
              go_wp2
              go_roundw
              case rel => exact ⟨i + 1, _, _, by go_num, by omega, Hst.out, Hset.out, Hbs.out, Hre7.out, Hx6.out⟩
              case measure => simp [intOf]; omega
            · obtain rfl : i = EL.length := by omega
              have HDone := hid (BagAt.done Hg.out (B := B) (by rw [← Hel.out]; exact HBa.out))
              have HInr : Hid (∀ l ∈ B, InR l) := hid fun l hl => HBa.out.inr hl
              have HMd := hid Hb.out.made
              clear hil hi
              go_wp2
              go_loopw [14] (fun t14 wr => ∃ (i : Nat) (vs : List Value) (L : List (List Int)), t14 = .int .i64 (i : Int) ∧ i ≤ has.length ∧ L.length = has.length ∧ (∀ j, j < i → L[j]? = (B.map sset)[j]?) ∧ (∀ j, i ≤ j → L[j]? = B[j]?) ∧ wr.ownsRow W.heap.size 22 1 (.slice a5 has.length c5) has.length vs ∧ Made wr vs L ∧ Ext W wr) (fun t14 _ => has.length - (intOf t14).toNat)
              case atStart => exact ⟨0, vs, B, rfl, Nat.zero_le _, HBl.out, fun j h => by omega, fun _ _ => rfl, Hr.out, HMd.out, Hx.out⟩
              case round =>
                clear Hr Hb Hre Hx HMd
                obtain ⟨i, vs, L, rfl, hi, hL, h1, h2, hr, hm, hx⟩ := hrel
                have HL := hid hL
                have H1 := hid h1
                have H2 := hid h2
                have Hr := hid hr
                have Hm := hid hm
                have Hx := hid hx
                clear hL h1 h2 hr hm hx
                by_cases hil : i < has.length
                · obtain ⟨g5, cp5, hge⟩ := own_some Hr.out (by omega)
                  simp only [Value.slice.injEq] at hge
                  obtain ⟨rfl, -, rfl⟩ := hge
                  obtain ⟨al, cl, hcl, hIl⟩ := Made.one Hr.out Hm.out HL.out hil
                  obtain ⟨l, hl⟩ : ∃ l, l = L.getD i [] := ⟨_, rfl⟩
                  rw [← hl] at hcl hIl
                  have hBi : B[i]? = some l := by
                    rw [← H2.out i (Nat.le_refl _), hl, List.getD_eq_getElem?_getD, List.getElem?_eq_getElem (by rw [HL.out]; exact hil)]
                    rfl
                  obtain ⟨lS, hlS⟩ : ∃ lS, lS = sset l := ⟨_, rfl⟩
                  have HC := hid (rsetof_any (.slice al l.length cl) l wr wr.heap.size hIl (HInr.out l (List.mem_of_getElem? hBi)))
                  rw [← hlS] at HC
                  have HBi := hid hBi
                  have HlS := hid hlS
                  clear hl hIl hBi hlS
                  go_wp2_with fail
                  refine HC.out.mono ?_
                  intro e w2 hx
                  obtain ⟨v', rfl, hx2, hr2⟩ := hx
                  obtain ⟨a3, c3, rfl⟩ := hr2.form
                  have hrow := own_ext Hr.out hx2
                  obtain ⟨p1, p2, p3⟩ := Made.put hrow (Hm.out.ext hx2) HL.out (IntsT.row hr2) hil
                  obtain ⟨u, hu⟩ : ∃ u, vs[i]? = some u := ⟨_, List.getElem?_eq_getElem (by rw [Hm.out.1, HL.out]; exact hil)⟩
                  have z0 := own_get hrow i hu
                  have f0 := own_free hrow i
                  obtain ⟨_, _, hbase⟩ := own_pos hrow
                  have P1 := hid p1
                  have P2 := hid p2
                  have Hxx := hid (Keep.new (Hx.out.trans hx2) p3 fun b e => by rw [e]; exact hbase)
                  clear HC hx2 hr2 hrow p1 p2 p3 hu hbase hcl
                  go_wp2
                  go_roundw
                  case rel =>
                    refine ⟨i + 1, _, L.set i lS, by go_num, by omega, by rw [List.length_set]; exact HL.out, fun j hj => ?_, fun j hj => ?_, P1.out, P2.out, Hxx.out⟩
                    · by_cases hji : i = j
                      · subst hji
                        rw [List.getElem?_set_self (by rw [HL.out]; exact hil), List.getElem?_map, HBi.out, HlS.out]
                        rfl
                      · rw [List.getElem?_set_ne hji]
                        exact H1.out j (by omega)
                    · rw [List.getElem?_set_ne (by omega)]
                      exact H2.out j (by omega)
                  case measure => simp [intOf]; omega
                · obtain rfl : i = has.length := by omega
                  have hLr : L = P.roundV has := by
                    rw [← HDone.out]
                    refine List.ext_getElem? fun j => ?_
                    by_cases hj : j < has.length
                    · exact H1.out j hj
                    · rw [List.getElem?_eq_none (by rw [HL.out]; omega), List.getElem?_eq_none (by rw [List.length_map, HBl.out]; omega)]
                  have hs := SetsR.made (L := P.roundV has) (by rw [roundV_len]; exact Hr.out) (by rw [← hLr]; exact Hm.out)
                  have Hs := hid hs
                  clear hs hLr hil hi
                  go_wp2
                  go_ret
                  exact ⟨_, _, rfl, Hs.out, HX.out.trans Hx.out⟩
end Go.Proofs.YtoaoienfggjepaaGreatDoor

