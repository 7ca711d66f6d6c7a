/- ShardAlone: whatever the program and the numbers, the law returns true, and its arguments read as they did: as the given card of that statement says it, with no further condition. -/
import Derived.Test.YtihdpijgngooaaaGreatDoorHHA02
import Derived.Test.YtihdpijgngooaaaGreatDoorHHA06
import Derived.Test.YtihdpijgngooaaaGreatDoorHHA08
import Derived.Test.YtihdpijgngooaaaGreatDoorHHA09
import Derived.Test.YtihdpijgngooaaaGreatDoorHHA18
import Derived.Test.YtihdpijgngooaaaGreatDoorHHA19
import Derived.Test.YtihdpijgngooaaaGreatDoorCards
import Derived.Test.YtihdpijgngooaaaGreatDoorTie
import Derived.ProofKit
import Derived.LaidMore
import Derived.OpenShut
import Derived.Below
import Derived.Stop.Joined
import Derived.SevenTiedAt
import Derived.Lib.SmallJoins
import Derived.Lay
import Derived.MakeChecks
import Derived.Test.YtihdpijgngooaaaGreatDoorHHA01
set_option linter.unusedSimpArgs false
set_option linter.unusedVariables false
namespace Go.Proofs.YtihdpijgngooaaaGreatDoor
open Go Go.RowKit
section
variable {P : Program} {ops : Array Oper} {X : Nat → Prop} {w0 : World} {Q : Act → World → Prop} {L : List Nat}
end
def IntsNew (W : World) (l : List Int) (v : Value) (w : World) : Prop := (∃ a n c, v = .slice a n c) ∧ IntsR w w.heap.size v l ∧ Ext W w
theorem IntsNew.ext {W w w' : World} {l : List Int} {v : Value} (h : IntsNew W l v w) (x : Ext w w') : IntsNew W l v w' := ⟨h.1, ElR.lift (h.2.1.old (x.old _)) x.size, h.2.2.trans x⟩
def RunNew (W : World) (P : PP) (l : List Int) (t : Value) (w : World) : Prop := (∃ a1 n1 c1 a2 n2 c2 a3 n3 c3 ev, t = .tuple #[.agg #[.slice a1 n1 c1, .slice a2 n2 c2, .slice a3 n3 c3], ev] ∧ RunOut P l W.heap.size w (.agg #[.slice a1 n1 c1, .slice a2 n2 c2, .slice a3 n3 c3]) ev) ∧ Ext W w
theorem RunNew.ext {W w w' : World} {P : PP} {l : List Int} {t : Value} (h : RunNew W P l t w) (x : Ext w w') : RunNew W P l t w' := by
  obtain ⟨⟨a1, n1, c1, a2, n2, c2, a3, n3, c3, ev, h1, h2⟩, h3⟩ := h
  exact ⟨⟨a1, n1, c1, a2, n2, c2, a3, n3, c3, ev, h1, h2.ext x⟩, h3.trans x⟩
def tup0 : Value → Value
  | .tuple cs => cs.getD 0 undef
  | _ => undef
def tup1 : Value → Value
  | .tuple cs => cs.getD 1 undef
  | _ => undef
def IsTup (t : Value) : Prop := ∃ u v, t = .tuple #[u, v]
theorem ErrIs.ext {ad : Nat → Addr} {P : PP} {w w' : World} {v : Value} (h : ErrIs ad P w v) (x : Ext w w') : ErrIs ad P w' v := by
  rcases h with h | h | ⟨h1, i, s, b, h2, h3, h4⟩
  · exact .inl h
  · exact .inr (.inl h)
  · exact .inr (.inr ⟨h1, i, s, b, h2, h3, h4.ext x⟩)
theorem RunNo.ext {ad : Nat → Addr} {P : PP} {l : List Int} {w w' : World} {v : Value} (h : RunNo ad P l w v) (x : Ext w w') : RunNo ad P l w' v := by
  rcases h with ⟨h1, h2⟩ | h | ⟨h1, h2, h3, i, b, h4, h5, h6⟩
  · exact .inl ⟨h1, h2.ext x⟩
  · exact .inr (.inl h)
  · exact .inr (.inr ⟨h1, h2, h3, i, b, h4, h5, h6.ext x⟩)
theorem FaultIs.zero {P : PP} {p : Int} (h : FaultIs P 0 p) : P.err1 = 0 ∧ P.allWell ∧ p = -1 := by
  rcases h with ⟨h1, h2, _⟩ | ⟨h1, h2, _, h4⟩ | ⟨h1, i, s, h2, h3, _⟩
  · exact absurd h2.symm h1
  · exact ⟨h1, h2, h4⟩
  · exact absurd h3.symm h2.2.1
theorem FaultIs.pos {P : PP} {c : Nat} {p : Int} (h : FaultIs P c p) (hc : c ≠ 0) : ¬ (P.err1 = 0 ∧ P.allWell) := fun g => by
  rcases h with ⟨h1, _, _⟩ | ⟨_, _, h3, _⟩ | ⟨_, i, s, h2, _, _⟩
  · exact h1 g.1
  · exact hc h3
  · exact h2.not g.2
theorem any_noU {α : Type} {l : List α} {p : α → Bool} (h : ∀ j f, j < l.length → l[j]? = some f → p f = false) : l.any p = false := List.any_eq_false.2 fun f hf => by
  obtain ⟨j, hj, e⟩ := List.mem_iff_getElem.1 hf
  rw [h j f hj (by rw [List.getElem?_eq_getElem hj, e])]
  decide
theorem StrsR.atU {w : World} {n0 : Nat} {a : Option Addr} {n cap : Nat} {l : List ByteArray} (h : StrsR w n0 (.slice a n cap) l) {k : Nat} (hk : k < l.length) : ∃ y q, a = some y ∧ l[k]? = some q ∧ w.cell? (y.add k) = some (.string q) := by
  obtain ⟨a', cap', h1, h2, h3, h4, h5⟩ := h
  obtain ⟨rfl, rfl, rfl⟩ : a = a' ∧ n = l.length ∧ cap = cap' := by simpa using h1
  obtain ⟨y, rfl⟩ := h4 (by omega)
  have hx : l[k]? = some (l[k]'hk) := List.getElem?_eq_getElem hk
  exact ⟨y, _, rfl, hx, (h5 y rfl (by omega)).2 k hk _ hx⟩
set_option maxRecDepth 100000 in
set_option maxHeartbeats 25600000 in
theorem rfprog_big (a1 a2 a3 : Option Addr) (c1 c2 c3 : Nat) (P : PP) (w : World) (h : ProgR w w.heap.size (.slice a1 P.vars.length c1) (.slice a2 P.funs.length c2) (.slice a3 P.stmts.length c3) P)
    (hz1 : ∀ s ∈ P.vars, s.size ≤ 1000000) (hz2 : ∀ s ∈ P.names, s.size ≤ 1000000) (hb : P.big = true) :
    Calls Tryz.prog 9 #[pval a1 a2 a3 c1 c2 c3 P] w fun e w' => Ext w w' ∧ ∃ (c : Nat) (p : Int), e = .returned (.agg #[.int .i64 (c : Int), .int .i64 p]) ∧ FaultIs P c p := by
  have HP0 := hid h
  have Hz1 := hid hz1
  have Hz2 := hid hz2
  have hml1 : (P.vars.length : Int) ≤ 9223372036854775807 := by
    obtain ⟨_, _, _, h2, h3, _⟩ := h.vars
    omega
  have hml2 := h.funs.len
  have hml3 := h.stmts.len
  obtain ⟨W2, hW2⟩ : ∃ W2, W2 = (w.alloc (.cells (pcells a1 a2 a3 c1 c2 c3 P) 26)).alloc (.cells #[.int .i64 0, .int .i64 0] 30) := ⟨_, rfl⟩
  have HW2 : Hid (Ext w W2) := hid (by rw [hW2]; exact ((Ext.refl _).alloc _).alloc _)
  have HB1 : Hid (Blk W2 w.heap.size (pcells a1 a2 a3 c1 c2 c3 P) 26) := hid (by rw [hW2]; exact (Blk.new _ _ _).alloc _)
  have HB2 : Hid (Blk W2 (w.heap.size + 1) #[.int .i64 0, .int .i64 0] 30) := hid (by
    rw [hW2]
    have := Blk.new (w.alloc (.cells (pcells a1 a2 a3 c1 c2 c3 P) 26)) #[.int .i64 0, .int .i64 0] 30
    rwa [heap_size_alloc] at this)
  have HP := hid (h.ext HW2.out)
  have HBa := fun (c : Nat) w1 => hid (rbare_any (c : Int) w1)
  unfold pcells at hW2
  have HWe := hid hW2
  clear h hW2 hz1 hz2
  unfold pval
  go_enter Tryz.func9, Tryz.ntmps9
  have Hf : Hid (FaultIs P 8 (-1)) := hid (by
    have h : P.err1 = 8 := by unfold PP.err1; rw [hb]; rfl
    exact .inl ⟨by rw [h]; decide, h.symm, rfl⟩)
  have hbb := hb
  unfold PP.big at hbb
  simp only [Bool.or_eq_true, decide_eq_true_eq] at hbb
  clear hb
  by_cases b1 : 40 < P.vars.length
  · clear hbb
    go_wp2_with fail
    rw [← HWe.out]
    refine (HBa 8 _).out.mono ?_
    intro e w8 hx8
    obtain ⟨rfl, hx8⟩ := hx8
    have HB8 := HB2.out.ext hx8
    have z0 := HB8.av 0 rfl
    have z1 := HB8.av 1 rfl
    have f0 := HB8.free 0
    have f1 := HB8.free 1
    have HBz := hid (two (v0 := (.int .i64 ((8 : Nat) : Int))) (v1 := (.int .i64 (-1))) HB8)
    have HKz := hid (two_keep w8 (w.heap.size + 1) (.int .i64 ((8 : Nat) : Int)) (.int .i64 (-1)))
    have hE := hid (Keep.new (HW2.out.trans hx8) HKz.out fun b hb => by omega)
    clear HB8
    go_wp2
    have c0 := HBz.out.av 0 rfl
    have c1' := HBz.out.av 1 rfl
    generalize ((w8.setCell ⟨w.heap.size + 1, 0, none⟩ (.int .i64 ((8 : Nat) : Int))).setCell ⟨w.heap.size + 1, 1, none⟩ (.int .i64 (-1))) = W10 at *
    exact bodyPost_ret (v := .agg #[(.int .i64 ((8 : Nat) : Int)), (.int .i64 (-1))]) (by simp [results, Tryz.results9, go_sem, c0, c1']) rfl ⟨hE.out, _, _, rfl, Hf.out⟩
  · by_cases b2 : 6 < P.funs.length
    · clear hbb
      go_wp2_with fail
      rw [← HWe.out]
      refine (HBa 8 _).out.mono ?_
      intro e w8 hx8
      obtain ⟨rfl, hx8⟩ := hx8
      have HB8 := HB2.out.ext hx8
      have z0 := HB8.av 0 rfl
      have z1 := HB8.av 1 rfl
      have f0 := HB8.free 0
      have f1 := HB8.free 1
      have HBz := hid (two (v0 := (.int .i64 ((8 : Nat) : Int))) (v1 := (.int .i64 (-1))) HB8)
      have HKz := hid (two_keep w8 (w.heap.size + 1) (.int .i64 ((8 : Nat) : Int)) (.int .i64 (-1)))
      have hE := hid (Keep.new (HW2.out.trans hx8) HKz.out fun b hb => by omega)
      clear HB8
      go_wp2
      have c0 := HBz.out.av 0 rfl
      have c1' := HBz.out.av 1 rfl
      generalize ((w8.setCell ⟨w.heap.size + 1, 0, none⟩ (.int .i64 ((8 : Nat) : Int))).setCell ⟨w.heap.size + 1, 1, none⟩ (.int .i64 (-1))) = W10 at *
      exact bodyPost_ret (v := .agg #[(.int .i64 ((8 : Nat) : Int)), (.int .i64 (-1))]) (by simp [results, Tryz.results9, go_sem, c0, c1']) rfl ⟨hE.out, _, _, rfl, Hf.out⟩
    · have b3 : 80 < P.stmts.length := by omega
      clear hbb
      go_wp2_with fail
      rw [← HWe.out]
      refine (HBa 8 _).out.mono ?_
      intro e w8 hx8
      obtain ⟨rfl, hx8⟩ := hx8
      have HB8 := HB2.out.ext hx8
      have z0 := HB8.av 0 rfl
      have z1 := HB8.av 1 rfl
      have f0 := HB8.free 0
      have f1 := HB8.free 1
      have HBz := hid (two (v0 := (.int .i64 ((8 : Nat) : Int))) (v1 := (.int .i64 (-1))) HB8)
      have HKz := hid (two_keep w8 (w.heap.size + 1) (.int .i64 ((8 : Nat) : Int)) (.int .i64 (-1)))
      have hE := hid (Keep.new (HW2.out.trans hx8) HKz.out fun b hb => by omega)
      clear HB8
      go_wp2
      have c0 := HBz.out.av 0 rfl
      have c1' := HBz.out.av 1 rfl
      generalize ((w8.setCell ⟨w.heap.size + 1, 0, none⟩ (.int .i64 ((8 : Nat) : Int))).setCell ⟨w.heap.size + 1, 1, none⟩ (.int .i64 (-1))) = W10 at *
      exact bodyPost_ret (v := .agg #[(.int .i64 ((8 : Nat) : Int)), (.int .i64 (-1))]) (by simp [results, Tryz.results9, go_sem, c0, c1']) rfl ⟨hE.out, _, _, rfl, Hf.out⟩
set_option maxRecDepth 100000 in
set_option maxHeartbeats 25600000 in
theorem rfprog_no (a1 a2 a3 : Option Addr) (c1 c2 c3 : Nat) (P : PP) (w : World) (h : ProgR w w.heap.size (.slice a1 P.vars.length c1) (.slice a2 P.funs.length c2) (.slice a3 P.stmts.length c3) P)
    (hz1 : ∀ s ∈ P.vars, s.size ≤ 1000000) (hz2 : ∀ s ∈ P.names, s.size ≤ 1000000) (hb : P.big = false) :
    Calls Tryz.prog 9 #[pval a1 a2 a3 c1 c2 c3 P] w fun e w' => Ext w w' ∧ ∃ (c : Nat) (p : Int), e = .returned (.agg #[.int .i64 (c : Int), .int .i64 p]) ∧ FaultIs P c p := by
  have HP0 := hid h
  have Hz1 := hid hz1
  have Hz2 := hid hz2
  have hml1 : (P.vars.length : Int) ≤ 9223372036854775807 := by
    obtain ⟨_, _, _, h2, h3, _⟩ := h.vars
    omega
  have hml2 := h.funs.len
  have hml3 := h.stmts.len
  obtain ⟨W2, hW2⟩ : ∃ W2, W2 = (w.alloc (.cells (pcells a1 a2 a3 c1 c2 c3 P) 26)).alloc (.cells #[.int .i64 0, .int .i64 0] 30) := ⟨_, rfl⟩
  have HW2 : Hid (Ext w W2) := hid (by rw [hW2]; exact ((Ext.refl _).alloc _).alloc _)
  have HB1 : Hid (Blk W2 w.heap.size (pcells a1 a2 a3 c1 c2 c3 P) 26) := hid (by rw [hW2]; exact (Blk.new _ _ _).alloc _)
  have HB2 : Hid (Blk W2 (w.heap.size + 1) #[.int .i64 0, .int .i64 0] 30) := hid (by
    rw [hW2]
    have := Blk.new (w.alloc (.cells (pcells a1 a2 a3 c1 c2 c3 P) 26)) #[.int .i64 0, .int .i64 0] 30
    rwa [heap_size_alloc] at this)
  have HP := hid (h.ext HW2.out)
  have HBa := fun (c : Nat) w1 => hid (rbare_any (c : Int) w1)
  unfold pcells at hW2
  have HWe := hid hW2
  clear h hW2 hz1 hz2
  unfold pval
  go_enter Tryz.func9, Tryz.ntmps9
  have HBig := hid hb
  have hbb := hb
  unfold PP.big at hbb
  simp only [Bool.or_eq_false_iff, decide_eq_false_iff_not] at hbb
  obtain ⟨⟨b1, b2⟩, b3⟩ := hbb
  clear hb
  go_wp2
  rw [← HWe.out]
  go_loopw [3] (fun t3 wr => ∃ k : Nat, t3 = .int .i64 (k : Int) ∧ k ≤ P.vars.length ∧ (∀ j s, j < k → P.vars[j]? = some s → nameOk s = true) ∧ Ext W2 wr) (fun t3 _ => P.vars.length - (intOf t3).toNat)
  case atStart => exact ⟨0, rfl, Nat.zero_le _, fun j s h => by omega, Ext.refl _⟩
  case round =>
    obtain ⟨k, rfl, hk, hp, hx⟩ := hrel
    have Hp := hid hp
    have Hx := hid hx
    clear hp hx
    have HBr := hid (HB1.out.ext Hx.out)
    have d0 := HBr.out.av 0 rfl
    have d1 := HBr.out.av 1 rfl
    have d2 := HBr.out.av 2 rfl
    simp only [pcells, qA0, qA1, qA2] at d0 d1 d2
    by_cases hlt : k < P.vars.length
    · obtain ⟨y, q, rfl, hq, hc⟩ := (HP.out.ext Hx.out).vars.atU hlt
      have HN := hid (risname_any q wr (by have := Hz1.out q (List.mem_of_getElem? hq); omega))
      have Hq := hid hq
      clear hq
      go_wp2_with fail
      refine HN.out.mono ?_
      intro e w1 hx1
      obtain ⟨rfl, rfl⟩ := hx1
      clear HN
      cases hn : nameOk q with
      | false =>
        have Hbad := hid (anyBad_of Hq.out hn)
        clear hn
        have Hf : Hid (FaultIs P 5 (-1)) := hid (by
          have h : P.err1 = 5 := by unfold PP.err1 namesErr; rw [HBig.out, Hbad.out]; simp
          exact .inl ⟨by rw [h]; decide, h.symm, rfl⟩)
        go_wp2_with fail
        refine (HBa 5 _).out.mono ?_
        intro e w8 hx8
        obtain ⟨rfl, hx8⟩ := hx8
        have HB8 := HB2.out.ext ((Hx.out).trans hx8)
        have z0 := HB8.av 0 rfl
        have z1 := HB8.av 1 rfl
        have f0 := HB8.free 0
        have f1 := HB8.free 1
        have HBz := hid (two (v0 := (.int .i64 ((5 : Nat) : Int))) (v1 := (.int .i64 (-1))) HB8)
        have HKz := hid (two_keep w8 (w.heap.size + 1) (.int .i64 ((5 : Nat) : Int)) (.int .i64 (-1)))
        have hE := hid (Keep.new (HW2.out.trans ((Hx.out).trans hx8)) HKz.out fun b hb => by omega)
        clear HB8
        go_wp2
        have c0 := HBz.out.av 0 rfl
        have c1' := HBz.out.av 1 rfl
        generalize ((w8.setCell ⟨w.heap.size + 1, 0, none⟩ (.int .i64 ((5 : Nat) : Int))).setCell ⟨w.heap.size + 1, 1, none⟩ (.int .i64 (-1))) = W10 at *
        exact bodyPost_ret (v := .agg #[(.int .i64 ((5 : Nat) : Int)), (.int .i64 (-1))]) (by simp [results, Tryz.results9, go_sem, c0, c1']) rfl ⟨hE.out, _, _, rfl, Hf.out⟩
      | true =>
        have Hn := hid hn
        clear hn
        go_wp2
        go_roundw
        case rel =>
          refine ⟨k + 1, by go_num, by omega, fun j s hj hs => ?_, Hx.out⟩
          by_cases hjk : j = k
          · subst hjk
            obtain rfl := Option.some.inj (Hq.out.symm.trans hs)
            exact Hn.out
          · exact Hp.out j s (by omega) hs
        case measure => simp [intOf]; omega
    · obtain rfl : k = P.vars.length := by omega
      have HV := hid (anyBad_no Hp.out)
      clear Hp
      go_wp2
      clear d0 d1 d2 HBr
      go_loopw [5] (fun t5 wr => ∃ k : Nat, t5 = .int .i64 (k : Int) ∧ k ≤ P.funs.length ∧ (∀ j s, j < k → P.names[j]? = some s → nameOk s = true) ∧ Ext W2 wr) (fun t5 _ => P.funs.length - (intOf t5).toNat)
      case atStart => exact ⟨0, rfl, Nat.zero_le _, fun j s h => by omega, Hx.out⟩
      case round =>
        clear Hx
        obtain ⟨k, rfl, hk, hp, hx⟩ := hrel
        have Hp := hid hp
        have Hx := hid hx
        clear hp hx
        have HBr := hid (HB1.out.ext Hx.out)
        have d0 := HBr.out.av 0 rfl
        have d1 := HBr.out.av 1 rfl
        have d2 := HBr.out.av 2 rfl
        simp only [pcells, qA0, qA1, qA2] at d0 d1 d2
        by_cases hlt : k < P.funs.length
        · obtain ⟨y, f, av, cv, rfl, hq, e0, e1, e2, _⟩ := (HP.out.ext Hx.out).funs.at hlt
          have hqn : P.names[k]? = some f.name := by unfold PP.names; rw [List.getElem?_map, hq]; rfl
          have HN := hid (risname_any f.name wr (by have := Hz2.out f.name (List.mem_of_getElem? hqn); omega))
          have Hq := hid hqn
          clear hq hqn e1 e2
          go_wp2_with fail
          refine HN.out.mono ?_
          intro e w1 hx1
          obtain ⟨rfl, rfl⟩ := hx1
          clear HN
          cases hn : nameOk f.name with
          | false =>
            have Hbad := hid (anyBad_of Hq.out hn)
            clear hn
            have Hf : Hid (FaultIs P 5 (-1)) := hid (by
              have h : P.err1 = 5 := by unfold PP.err1 namesErr; rw [HBig.out, HV.out, Hbad.out]; simp
              exact .inl ⟨by rw [h]; decide, h.symm, rfl⟩)
            go_wp2_with fail
            refine (HBa 5 _).out.mono ?_
            intro e w8 hx8
            obtain ⟨rfl, hx8⟩ := hx8
            have HB8 := HB2.out.ext ((Hx.out).trans hx8)
            have z0 := HB8.av 0 rfl
            have z1 := HB8.av 1 rfl
            have f0 := HB8.free 0
            have f1 := HB8.free 1
            have HBz := hid (two (v0 := (.int .i64 ((5 : Nat) : Int))) (v1 := (.int .i64 (-1))) HB8)
            have HKz := hid (two_keep w8 (w.heap.size + 1) (.int .i64 ((5 : Nat) : Int)) (.int .i64 (-1)))
            have hE := hid (Keep.new (HW2.out.trans ((Hx.out).trans hx8)) HKz.out fun b hb => by omega)
            clear HB8
            go_wp2
            have c0 := HBz.out.av 0 rfl
            have c1' := HBz.out.av 1 rfl
            generalize ((w8.setCell ⟨w.heap.size + 1, 0, none⟩ (.int .i64 ((5 : Nat) : Int))).setCell ⟨w.heap.size + 1, 1, none⟩ (.int .i64 (-1))) = W10 at *
            exact bodyPost_ret (v := .agg #[(.int .i64 ((5 : Nat) : Int)), (.int .i64 (-1))]) (by simp [results, Tryz.results9, go_sem, c0, c1']) rfl ⟨hE.out, _, _, rfl, Hf.out⟩
          | true =>
            have Hn := hid hn
            clear hn
            go_wp2
            go_roundw
            case rel =>
              refine ⟨k + 1, by go_num, by omega, fun j s hj hs => ?_, Hx.out⟩
              by_cases hjk : j = k
              · subst hjk
                obtain rfl := Option.some.inj (Hq.out.symm.trans hs)
                exact Hn.out
              · exact Hp.out j s (by omega) hs
            case measure => simp [intOf]; omega
        · obtain rfl : k = P.funs.length := by omega
          have HF := hid (anyBad_no (l := P.names) (fun j s hj hs => Hp.out j s (by simpa [PP.names] using hj) hs))
          clear Hp
          go_wp2
          clear d0 d1 d2 HBr
          go_loopw [7] (fun t7 wr => ∃ i : Nat, t7 = .int .i64 (i : Int) ∧ i ≤ P.vars.length ∧ (∀ (a b : Nat) (s t : ByteArray), a < i → b < a → P.vars[a]? = some s → P.vars[b]? = some t → eqB s t = false) ∧ Ext W2 wr) (fun t7 _ => P.vars.length - (intOf t7).toNat)
          case atStart => exact ⟨0, rfl, Nat.zero_le _, fun a b s t h => by omega, Hx.out⟩
          case round =>
            clear Hx
            obtain ⟨i, rfl, hi, hp, hx⟩ := hrel
            have Hp := hid hp
            have Hx := hid hx
            clear hp hx
            have HBr := hid (HB1.out.ext Hx.out)
            have d0 := HBr.out.av 0 rfl
            have d1 := HBr.out.av 1 rfl
            have d2 := HBr.out.av 2 rfl
            simp only [pcells, qA0, qA1, qA2] at d0 d1 d2
            by_cases hli : i < P.vars.length
            · obtain ⟨yi, qi, rfl, hqi, _⟩ := (HP.out.ext Hx.out).vars.atU hli
              have Hqi := hid hqi
              clear hqi
              go_wp2
              clear d0 d1 d2 HBr
              go_loopw [8] (fun t8 wr => ∃ k : Nat, t8 = .int .i64 (k : Int) ∧ k ≤ i ∧ (∀ (b : Nat) (t : ByteArray), b < k → P.vars[b]? = some t → eqB qi t = false) ∧ Ext W2 wr) (fun t8 _ => i - (intOf t8).toNat)
              case atStart => exact ⟨0, rfl, Nat.zero_le _, fun b t h => by omega, Hx.out⟩
              case round =>
                clear Hx
                obtain ⟨k, rfl, hk, hpk, hx⟩ := hrel
                have Hpk := hid hpk
                have Hx := hid hx
                clear hpk hx
                by_cases hlt : k < i
                · obtain ⟨y, q, hy, hq, hc⟩ := (HP.out.ext Hx.out).vars.atU (show k < P.vars.length by omega)
                  obtain rfl := Option.some.inj hy
                  obtain ⟨y2, q2, hy2, hq2, hc2⟩ := (HP.out.ext Hx.out).vars.atU hli
                  obtain rfl := Option.some.inj hy2
                  obtain rfl : q2 = qi := Option.some.inj (hq2.symm.trans Hqi.out)
                  have hcK : ∀ w1, Keep (fun _ => False) wr w1 → w1.cell? (yi.add k) = some (.string q) := fun w1 k => k.ext.cellx hc
                  have hcI : ∀ w1, Keep (fun _ => False) wr w1 → w1.cell? (yi.add i) = some (.string q2) := fun w1 k => k.ext.cellx hc2
                  have dk := (HB1.out.ext Hx.out).kc (X := fun _ => False) (fun e => e) 0 rfl
                  simp only [pcells, qA0, qA1, qA2] at dk
                  have Hq := hid hq
                  clear hq hc hc2 hq2 hy hy2
                  cases he : eqB q2 q with
                  | true =>
                    have Hd := hid (dupS_of hlt Hqi.out Hq.out he)
                    rw [eqB_comm] at he
                    go_wp2
                    refine wp_flowT (fun _ => False) (by kernel_rfl) (by kernel_rfl) ?_
                    repeat (apply FlowT.d; (intro w1 hk; unfold does; go_simp; (try go_ints); (first | exact DetR.mk | (simp only [↓IntWalk.iteOmega, Oper.doesUpon_value]; exact DetR.mk) | (simp only [↓IntWalk.iteOmega]; go_simp; (try go_ints); exact DetR.mk))); simp only [Act.put, qS0, qS1, qS2])
                    refine FlowT.fin fun w7 hx7 hk7 => ?_
                    have Hx7 := hid (Hx.out.trans hx7)
                    clear hx7 hk7 hcK hcI dk he
                    have Hf : Hid (FaultIs P 7 (-1)) := hid (by
                      have h : P.err1 = 7 := by unfold PP.err1 namesErr; rw [HBig.out, HV.out, HF.out, Hd.out]; cases dupS P.names <;> simp
                      exact .inl ⟨by rw [h]; decide, h.symm, rfl⟩)
                    go_wp2_with fail
                    refine (HBa 7 _).out.mono ?_
                    intro e w8 hx8
                    obtain ⟨rfl, hx8⟩ := hx8
                    have HB8 := HB2.out.ext ((Hx7.out).trans hx8)
                    have z0 := HB8.av 0 rfl
                    have z1 := HB8.av 1 rfl
                    have f0 := HB8.free 0
                    have f1 := HB8.free 1
                    have HBz := hid (two (v0 := (.int .i64 ((7 : Nat) : Int))) (v1 := (.int .i64 (-1))) HB8)
                    have HKz := hid (two_keep w8 (w.heap.size + 1) (.int .i64 ((7 : Nat) : Int)) (.int .i64 (-1)))
                    have hE := hid (Keep.new (HW2.out.trans ((Hx7.out).trans hx8)) HKz.out fun b hb => by omega)
                    clear HB8
                    go_wp2
                    have c0 := HBz.out.av 0 rfl
                    have c1' := HBz.out.av 1 rfl
                    generalize ((w8.setCell ⟨w.heap.size + 1, 0, none⟩ (.int .i64 ((7 : Nat) : Int))).setCell ⟨w.heap.size + 1, 1, none⟩ (.int .i64 (-1))) = W10 at *
                    exact bodyPost_ret (v := .agg #[(.int .i64 ((7 : Nat) : Int)), (.int .i64 (-1))]) (by simp [results, Tryz.results9, go_sem, c0, c1']) rfl ⟨hE.out, _, _, rfl, Hf.out⟩
                  | false =>
                    have He := hid he
                    rw [eqB_comm] at he
                    go_wp2
                    refine wp_flowT (fun _ => False) (by kernel_rfl) (by kernel_rfl) ?_
                    repeat (apply FlowT.d; (intro w1 hk; unfold does; go_simp; (try go_ints); (first | exact DetR.mk | (simp only [↓IntWalk.iteOmega, Oper.doesUpon_value]; exact DetR.mk) | (simp only [↓IntWalk.iteOmega]; go_simp; (try go_ints); exact DetR.mk))); simp only [Act.put, qS0, qS1, qS2])
                    refine FlowT.fin fun w7 hx7 hk7 => ?_
                    have Hx7 := hid (Hx.out.trans hx7)
                    clear hx7 hk7 hcK hcI dk he
                    go_wp2
                    go_roundw
                    case rel =>
                      refine ⟨k + 1, by go_num, by omega, fun b t hb ht => ?_, Hx7.out⟩
                      by_cases hjk : b = k
                      · subst hjk
                        obtain rfl := Option.some.inj (Hq.out.symm.trans ht)
                        exact He.out
                      · exact Hpk.out b t (by omega) ht
                    case measure => simp [intOf]; omega
                · obtain rfl : k = i := by omega
                  go_wp2
                  go_roundw
                  case rel =>
                    refine ⟨k + 1, by go_num, by omega, fun a b s t ha hb hs ht => ?_, Hx.out⟩
                    by_cases hjk : a = k
                    · subst hjk
                      obtain rfl := Option.some.inj (Hqi.out.symm.trans hs)
                      exact Hpk.out b t hb ht
                    · exact Hp.out a b s t (by omega) hb hs ht
                  case measure => simp [intOf]; omega
            · obtain rfl : i = P.vars.length := by omega
              have HDv := hid (dupS_no (l := P.vars) fun a b s t ha hb hs ht => Hp.out a b s t ha hb hs ht)
              clear Hp
              go_wp2
              clear d0 d1 d2 HBr
              go_loopw [9] (fun t9 wr => ∃ i : Nat, t9 = .int .i64 (i : Int) ∧ i ≤ P.funs.length ∧ (∀ (a b : Nat) (s t : ByteArray), a < i → b < a → P.names[a]? = some s → P.names[b]? = some t → eqB s t = false) ∧ Ext W2 wr) (fun t9 _ => P.funs.length - (intOf t9).toNat)
              case atStart => exact ⟨0, rfl, Nat.zero_le _, fun a b s t h => by omega, Hx.out⟩
              case round =>
                clear Hx
                obtain ⟨i, rfl, hi, hp, hx⟩ := hrel
                have Hp := hid hp
                have Hx := hid hx
                clear hp hx
                have HBr := hid (HB1.out.ext Hx.out)
                have d0 := HBr.out.av 0 rfl
                have d1 := HBr.out.av 1 rfl
                have d2 := HBr.out.av 2 rfl
                simp only [pcells, qA0, qA1, qA2] at d0 d1 d2
                by_cases hli : i < P.funs.length
                · obtain ⟨yi, qi, _, _, rfl, hqi, _⟩ := (HP.out.ext Hx.out).funs.at hli
                  have Hqf := hid hqi
                  have Hqi := hid (show P.names[i]? = some qi.name by unfold PP.names; rw [List.getElem?_map, hqi]; rfl)
                  clear hqi
                  go_wp2
                  clear d0 d1 d2 HBr
                  go_loopw [10] (fun t10 wr => ∃ k : Nat, t10 = .int .i64 (k : Int) ∧ k ≤ i ∧ (∀ (b : Nat) (t : ByteArray), b < k → P.names[b]? = some t → eqB qi.name t = false) ∧ Ext W2 wr) (fun t10 _ => i - (intOf t10).toNat)
                  case atStart => exact ⟨0, rfl, Nat.zero_le _, fun b t h => by omega, Hx.out⟩
                  case round =>
                    clear Hx
                    obtain ⟨k, rfl, hk, hpk, hx⟩ := hrel
                    have Hpk := hid hpk
                    have Hx := hid hx
                    clear hpk hx
                    by_cases hlt : k < i
                    · obtain ⟨y, q, _, _, hy, hqf, hc, _⟩ := (HP.out.ext Hx.out).funs.at (show k < P.funs.length by omega)
                      obtain rfl := Option.some.inj hy
                      obtain ⟨y2, q2, _, _, hy2, hq2, hc2, _⟩ := (HP.out.ext Hx.out).funs.at hli
                      obtain rfl := Option.some.inj hy2
                      obtain rfl : q2 = qi := Option.some.inj (hq2.symm.trans Hqf.out)
                      have hq : P.names[k]? = some q.name := by unfold PP.names; rw [List.getElem?_map, hqf]; rfl
                      have hcK : ∀ w1, Keep (fun _ => False) wr w1 → w1.cell? (yi.add (k * 3)) = some (.string q.name) := fun w1 k => k.ext.cellx hc
                      have hcI : ∀ w1, Keep (fun _ => False) wr w1 → w1.cell? (yi.add (i * 3)) = some (.string q2.name) := fun w1 k => k.ext.cellx hc2
                      have dk := (HB1.out.ext Hx.out).kc (X := fun _ => False) (fun e => e) 1 rfl
                      simp only [pcells, qA0, qA1, qA2] at dk
                      have Hq := hid hq
                      clear hq hqf hc hc2 hq2 hy hy2
                      cases he : eqB q2.name q.name with
                      | true =>
                        have Hd := hid (dupS_of hlt Hqi.out Hq.out he)
                        rw [eqB_comm] at he
                        go_wp2
                        refine wp_flowT (fun _ => False) (by kernel_rfl) (by kernel_rfl) ?_
                        repeat (apply FlowT.d; (intro w1 hk; unfold does; go_simp; (try go_ints); (first | exact DetR.mk | (simp only [↓IntWalk.iteOmega, Oper.doesUpon_value]; exact DetR.mk) | (simp only [↓IntWalk.iteOmega]; go_simp; (try go_ints); exact DetR.mk))); simp only [Act.put, qS0, qS1, qS2])
                        refine FlowT.fin fun w7 hx7 hk7 => ?_
                        have Hx7 := hid (Hx.out.trans hx7)
                        clear hx7 hk7 hcK hcI dk he
                        have Hf : Hid (FaultIs P 7 (-1)) := hid (by
                          have h : P.err1 = 7 := by unfold PP.err1 namesErr; rw [HBig.out, HV.out, HF.out, Hd.out]; cases dupS P.vars <;> simp
                          exact .inl ⟨by rw [h]; decide, h.symm, rfl⟩)
                        go_wp2_with fail
                        refine (HBa 7 _).out.mono ?_
                        intro e w8 hx8
                        obtain ⟨rfl, hx8⟩ := hx8
                        have HB8 := HB2.out.ext ((Hx7.out).trans hx8)
                        have z0 := HB8.av 0 rfl
                        have z1 := HB8.av 1 rfl
                        have f0 := HB8.free 0
                        have f1 := HB8.free 1
                        have HBz := hid (two (v0 := (.int .i64 ((7 : Nat) : Int))) (v1 := (.int .i64 (-1))) HB8)
                        have HKz := hid (two_keep w8 (w.heap.size + 1) (.int .i64 ((7 : Nat) : Int)) (.int .i64 (-1)))
                        have hE := hid (Keep.new (HW2.out.trans ((Hx7.out).trans hx8)) HKz.out fun b hb => by omega)
                        clear HB8
                        go_wp2
                        have c0 := HBz.out.av 0 rfl
                        have c1' := HBz.out.av 1 rfl
                        generalize ((w8.setCell ⟨w.heap.size + 1, 0, none⟩ (.int .i64 ((7 : Nat) : Int))).setCell ⟨w.heap.size + 1, 1, none⟩ (.int .i64 (-1))) = W10 at *
                        exact bodyPost_ret (v := .agg #[(.int .i64 ((7 : Nat) : Int)), (.int .i64 (-1))]) (by simp [results, Tryz.results9, go_sem, c0, c1']) rfl ⟨hE.out, _, _, rfl, Hf.out⟩
                      | false =>
                        have He := hid he
                        rw [eqB_comm] at he
                        go_wp2
                        refine wp_flowT (fun _ => False) (by kernel_rfl) (by kernel_rfl) ?_
                        repeat (apply FlowT.d; (intro w1 hk; unfold does; go_simp; (try go_ints); (first | exact DetR.mk | (simp only [↓IntWalk.iteOmega, Oper.doesUpon_value]; exact DetR.mk) | (simp only [↓IntWalk.iteOmega]; go_simp; (try go_ints); exact DetR.mk))); simp only [Act.put, qS0, qS1, qS2])
                        refine FlowT.fin fun w7 hx7 hk7 => ?_
                        have Hx7 := hid (Hx.out.trans hx7)
                        clear hx7 hk7 hcK hcI dk he
                        go_wp2
                        go_roundw
                        case rel =>
                          refine ⟨k + 1, by go_num, by omega, fun b t hb ht => ?_, Hx7.out⟩
                          by_cases hjk : b = k
                          · subst hjk
                            obtain rfl := Option.some.inj (Hq.out.symm.trans ht)
                            exact He.out
                          · exact Hpk.out b t (by omega) ht
                        case measure => simp [intOf]; omega
                    · obtain rfl : k = i := by omega
                      go_wp2
                      go_roundw
                      case rel =>
                        refine ⟨k + 1, by go_num, by omega, fun a b s t ha hb hs ht => ?_, Hx.out⟩
                        by_cases hjk : a = k
                        · subst hjk
                          obtain rfl := Option.some.inj (Hqi.out.symm.trans hs)
                          exact Hpk.out b t hb ht
                        · exact Hp.out a b s t (by omega) hb hs ht
                      case measure => simp [intOf]; omega
                · obtain rfl : i = P.funs.length := by omega
                  have HDf := hid (dupS_no (l := P.names) fun a b s t ha hb hs ht => Hp.out a b s t (by simpa [PP.names] using ha) hb hs ht)
                  have H1 := hid (show P.err1 = P.funsErr by unfold PP.err1 namesErr; rw [HBig.out, HV.out, HF.out, HDv.out, HDf.out]; simp)
                  clear Hp
                  go_wp2
                  clear d0 d1 d2 HBr
                  go_loopw [11] (fun t11 wr => ∃ k : Nat, t11 = .int .i64 (k : Int) ∧ k ≤ P.funs.length ∧ (∀ j f, j < k → P.funs[j]? = some f → bad9 f = false) ∧ Ext W2 wr) (fun t11 _ => P.funs.length - (intOf t11).toNat)
                  case atStart => exact ⟨0, rfl, Nat.zero_le _, fun j s h => by omega, Hx.out⟩
                  case round =>
                    clear Hx
                    obtain ⟨k, rfl, hk, hp, hx⟩ := hrel
                    have Hp := hid hp
                    have Hx := hid hx
                    clear hp hx
                    have HBr := hid (HB1.out.ext Hx.out)
                    have d0 := HBr.out.av 0 rfl
                    have d1 := HBr.out.av 1 rfl
                    have d2 := HBr.out.av 2 rfl
                    simp only [pcells, qA0, qA1, qA2] at d0 d1 d2
                    by_cases hlt : k < P.funs.length
                    · obtain ⟨y, f, av, cv, rfl, hq, e0, e1, e2, _⟩ := (HP.out.ext Hx.out).funs.at hlt
                      have Hq := hid hq
                      clear hq e0 e2
                      by_cases h3 : 3 < f.params.length
                      · have Hb := hid (show P.funsErr = 9 by unfold PP.funsErr; rw [List.any_eq_true.2 ⟨f, List.mem_of_getElem? Hq.out, show bad9 f = true by unfold bad9; exact decide_eq_true h3⟩]; rfl)
                        have Hf : Hid (FaultIs P 9 (-1)) := hid (by
                          have h : P.err1 = 9 := H1.out.trans Hb.out
                          exact .inl ⟨by rw [h]; decide, h.symm, rfl⟩)
                        go_wp2_with fail
                        refine (HBa 9 _).out.mono ?_
                        intro e w8 hx8
                        obtain ⟨rfl, hx8⟩ := hx8
                        have HB8 := HB2.out.ext ((Hx.out).trans hx8)
                        have z0 := HB8.av 0 rfl
                        have z1 := HB8.av 1 rfl
                        have f0 := HB8.free 0
                        have f1 := HB8.free 1
                        have HBz := hid (two (v0 := (.int .i64 ((9 : Nat) : Int))) (v1 := (.int .i64 (-1))) HB8)
                        have HKz := hid (two_keep w8 (w.heap.size + 1) (.int .i64 ((9 : Nat) : Int)) (.int .i64 (-1)))
                        have hE := hid (Keep.new (HW2.out.trans ((Hx.out).trans hx8)) HKz.out fun b hb => by omega)
                        clear HB8
                        go_wp2
                        have c0 := HBz.out.av 0 rfl
                        have c1' := HBz.out.av 1 rfl
                        generalize ((w8.setCell ⟨w.heap.size + 1, 0, none⟩ (.int .i64 ((9 : Nat) : Int))).setCell ⟨w.heap.size + 1, 1, none⟩ (.int .i64 (-1))) = W10 at *
                        exact bodyPost_ret (v := .agg #[(.int .i64 ((9 : Nat) : Int)), (.int .i64 (-1))]) (by simp [results, Tryz.results9, go_sem, c0, c1']) rfl ⟨hE.out, _, _, rfl, Hf.out⟩
                      · have Hb := hid (show bad9 f = false by unfold bad9; exact decide_eq_false h3)
                        go_wp2
                        go_roundw
                        case rel =>
                          refine ⟨k + 1, by go_num, by omega, fun j s hj hs => ?_, Hx.out⟩
                          by_cases hjk : j = k
                          · subst hjk
                            obtain rfl := Option.some.inj (Hq.out.symm.trans hs)
                            exact Hb.out
                          · exact Hp.out j s (by omega) hs
                        case measure => simp [intOf]; omega
                    · obtain rfl : k = P.funs.length := by omega
                      have H9 := hid (any_noU (l := P.funs) (p := bad9) Hp.out)
                      clear Hp
                      go_wp2
                      clear d0 d1 d2 HBr
                      go_loopw [12] (fun t12 wr => ∃ k : Nat, t12 = .int .i64 (k : Int) ∧ k ≤ P.funs.length ∧ (∀ j f, j < k → P.funs[j]? = some f → P.bad2 f = false) ∧ Ext W2 wr) (fun t12 _ => P.funs.length - (intOf t12).toNat)
                      case atStart => exact ⟨0, rfl, Nat.zero_le _, fun j s h => by omega, Hx.out⟩
                      case round =>
                        clear Hx
                        obtain ⟨k, rfl, hk, hp, hx⟩ := hrel
                        have Hp := hid hp
                        have Hx := hid hx
                        clear hp hx
                        have HBr := hid (HB1.out.ext Hx.out)
                        have d0 := HBr.out.av 0 rfl
                        have d1 := HBr.out.av 1 rfl
                        have d2 := HBr.out.av 2 rfl
                        simp only [pcells, qA0, qA1, qA2] at d0 d1 d2
                        by_cases hlt : k < P.funs.length
                        · obtain ⟨y, f, av, cv, rfl, hq, e0, e1, e2, hI⟩ := (HP.out.ext Hx.out).funs.at hlt
                          have Hq := hid hq
                          have HIp := hid hI
                          have g1 : ∀ w1, Keep (fun _ => False) wr w1 → w1.cell? ⟨(y.add (k * 3)).block, (y.add (k * 3)).off + 1, none⟩ = some (.slice av f.params.length cv) := fun w1 k => k.ext.cellx e1
                          have He2 := hid e2
                          have m0 := HBr.out.kc (X := fun _ => False) (fun e => e) 0 rfl
                          have m1 := HBr.out.kc (X := fun _ => False) (fun e => e) 1 rfl
                          have m2 := HBr.out.kc (X := fun _ => False) (fun e => e) 2 rfl
                          simp only [pcells, qA0, qA1, qA2] at m0 m1 m2
                          have HA := fun w1 (x : Ext wr w1) => hid (rarevars_any a1 (some y) a3 c1 c2 c3 P (.slice av f.params.length cv) f.params w1 w.heap.size (HIp.out.old (x.old _)))
                          have HV2 := fun w1 => hid (risvar_any a1 (some y) a3 c1 c2 c3 P f.ret w1)
                          unfold pval at HA HV2
                          clear hq e0 e1 e2 hI
                          go_wp2
                          refine wp_flowT (fun _ => False) (by kernel_rfl) (by kernel_rfl) ?_
                          repeat (apply FlowT.d; (intro w1 hk; unfold does; go_simp; (try go_ints); (first | exact DetR.mk | (simp only [↓IntWalk.iteOmega, Oper.doesUpon_value]; exact DetR.mk) | (simp only [↓IntWalk.iteOmega]; go_simp; (try go_ints); exact DetR.mk))); simp only [Act.put, qS0, qS1, qS2])
                          apply FlowT.d
                          · intro w1 hk
                            unfold does
                            go_simp
                            exact CallR.det ((HA w1 hk.ext).out)
                          simp only [Act.put, qS0, qS1, qS2]
                          repeat (apply FlowT.d; (intro w1 hk; unfold does; go_simp; (try go_ints); (first | exact DetR.mk | (simp only [↓IntWalk.iteOmega, Oper.doesUpon_value]; exact DetR.mk) | (simp only [↓IntWalk.iteOmega]; go_simp; (try go_ints); exact DetR.mk))); simp only [Act.put, qS0, qS1, qS2])
                          refine FlowT.fin fun w7 hx7 hk7 => ?_
                          have Hx7 := hid (Hx.out.trans hx7)
                          have g2 : ∀ w1, Keep (fun _ => False) w7 w1 → w1.cell? ⟨(y.add (k * 3)).block, (y.add (k * 3)).off + 2, none⟩ = some (.int .i64 f.ret) := fun w1 k => (hx7.trans k.ext).cellx He2.out
                          replace m0 := fun w1 (k : Keep (fun _ => False) w7 w1) => m0 w1 ((hx7.keep _).trans k)
                          replace m1 := fun w1 (k : Keep (fun _ => False) w7 w1) => m1 w1 ((hx7.keep _).trans k)
                          replace m2 := fun w1 (k : Keep (fun _ => False) w7 w1) => m2 w1 ((hx7.keep _).trans k)
                          clear hx7 hk7 g1 HA d0 d1 d2
                          go_wp2
                          refine wp_flowT (fun _ => False) (by kernel_rfl) (by kernel_rfl) ?_
                          repeat (apply FlowT.d; (intro w1 hk; unfold does; go_simp; (try go_ints); (first | exact DetR.mk | (simp only [↓IntWalk.iteOmega, Oper.doesUpon_value]; exact DetR.mk) | (simp only [↓IntWalk.iteOmega]; go_simp; (try go_ints); exact DetR.mk))); simp only [Act.put, qS0, qS1, qS2])
                          apply FlowT.d
                          · intro w1 hk
                            unfold does
                            go_simp
                            exact CallR.det ((HV2 w1).out)
                          simp only [Act.put, qS0, qS1, qS2]
                          repeat (apply FlowT.d; (intro w1 hk; unfold does; go_simp; (try go_ints); (first | exact DetR.mk | (simp only [↓IntWalk.iteOmega, Oper.doesUpon_value]; exact DetR.mk) | (simp only [↓IntWalk.iteOmega]; go_simp; (try go_ints); exact DetR.mk))); simp only [Act.put, qS0, qS1, qS2])
                          refine FlowT.fin fun w9 hx9 hk9 => ?_
                          have Hx9 := hid (Hx7.out.trans hx9)
                          clear hx9 hk9 g2 HV2 m0 m1 m2
                          cases ha : P.allV f.params with
                          | false =>
                            have Hb := hid (show P.funsErr = 2 by unfold PP.funsErr; rw [H9.out, List.any_eq_true.2 ⟨f, List.mem_of_getElem? Hq.out, show P.bad2 f = true by unfold PP.bad2; rw [ha]; rfl⟩]; rfl)
                            clear ha
                            have Hf : Hid (FaultIs P 2 (-1)) := hid (by
                              have h : P.err1 = 2 := H1.out.trans Hb.out
                              exact .inl ⟨by rw [h]; decide, h.symm, rfl⟩)
                            go_wp2_with fail
                            refine (HBa 2 _).out.mono ?_
                            intro e w8 hx8
                            obtain ⟨rfl, hx8⟩ := hx8
                            have HB8 := HB2.out.ext ((Hx9.out).trans hx8)
                            have z0 := HB8.av 0 rfl
                            have z1 := HB8.av 1 rfl
                            have f0 := HB8.free 0
                            have f1 := HB8.free 1
                            have HBz := hid (two (v0 := (.int .i64 ((2 : Nat) : Int))) (v1 := (.int .i64 (-1))) HB8)
                            have HKz := hid (two_keep w8 (w.heap.size + 1) (.int .i64 ((2 : Nat) : Int)) (.int .i64 (-1)))
                            have hE := hid (Keep.new (HW2.out.trans ((Hx9.out).trans hx8)) HKz.out fun b hb => by omega)
                            clear HB8
                            go_wp2
                            have c0 := HBz.out.av 0 rfl
                            have c1' := HBz.out.av 1 rfl
                            generalize ((w8.setCell ⟨w.heap.size + 1, 0, none⟩ (.int .i64 ((2 : Nat) : Int))).setCell ⟨w.heap.size + 1, 1, none⟩ (.int .i64 (-1))) = W10 at *
                            exact bodyPost_ret (v := .agg #[(.int .i64 ((2 : Nat) : Int)), (.int .i64 (-1))]) (by simp [results, Tryz.results9, go_sem, c0, c1']) rfl ⟨hE.out, _, _, rfl, Hf.out⟩
                          | true =>
                            have Ha := hid ha
                            clear ha
                            cases hv : P.inV f.ret with
                            | false =>
                              have Hb := hid (show P.funsErr = 2 by unfold PP.funsErr; rw [H9.out, List.any_eq_true.2 ⟨f, List.mem_of_getElem? Hq.out, show P.bad2 f = true by unfold PP.bad2; rw [hv]; simp⟩]; rfl)
                              clear hv
                              have Hf : Hid (FaultIs P 2 (-1)) := hid (by
                                have h : P.err1 = 2 := H1.out.trans Hb.out
                                exact .inl ⟨by rw [h]; decide, h.symm, rfl⟩)
                              go_wp2_with fail
                              refine (HBa 2 _).out.mono ?_
                              intro e w8 hx8
                              obtain ⟨rfl, hx8⟩ := hx8
                              have HB8 := HB2.out.ext ((Hx9.out).trans hx8)
                              have z0 := HB8.av 0 rfl
                              have z1 := HB8.av 1 rfl
                              have f0 := HB8.free 0
                              have f1 := HB8.free 1
                              have HBz := hid (two (v0 := (.int .i64 ((2 : Nat) : Int))) (v1 := (.int .i64 (-1))) HB8)
                              have HKz := hid (two_keep w8 (w.heap.size + 1) (.int .i64 ((2 : Nat) : Int)) (.int .i64 (-1)))
                              have hE := hid (Keep.new (HW2.out.trans ((Hx9.out).trans hx8)) HKz.out fun b hb => by omega)
                              clear HB8
                              go_wp2
                              have c0 := HBz.out.av 0 rfl
                              have c1' := HBz.out.av 1 rfl
                              generalize ((w8.setCell ⟨w.heap.size + 1, 0, none⟩ (.int .i64 ((2 : Nat) : Int))).setCell ⟨w.heap.size + 1, 1, none⟩ (.int .i64 (-1))) = W10 at *
                              exact bodyPost_ret (v := .agg #[(.int .i64 ((2 : Nat) : Int)), (.int .i64 (-1))]) (by simp [results, Tryz.results9, go_sem, c0, c1']) rfl ⟨hE.out, _, _, rfl, Hf.out⟩
                            | true =>
                              have Hb := hid (show P.bad2 f = false by unfold PP.bad2; rw [Ha.out, hv]; rfl)
                              clear hv
                              go_wp2
                              go_roundw
                              case rel =>
                                refine ⟨k + 1, by go_num, by omega, fun j s hj hs => ?_, Hx9.out⟩
                                by_cases hjk : j = k
                                · subst hjk
                                  obtain rfl := Option.some.inj (Hq.out.symm.trans hs)
                                  exact Hb.out
                                · exact Hp.out j s (by omega) hs
                              case measure => simp [intOf]; omega
                        · obtain rfl : k = P.funs.length := by omega
                          have HG2 := hid (any_noU (l := P.funs) (p := P.bad2) Hp.out)
                          clear Hp
                          go_wp2
                          clear d0 d1 d2 HBr
                          go_loopw [15] (fun t15 wr => ∃ i : Nat, t15 = .int .i64 (i : Int) ∧ i ≤ P.funs.length ∧ (∀ j f, j < i → P.funs[j]? = some f → bad7 f = false) ∧ Ext W2 wr) (fun t15 _ => P.funs.length - (intOf t15).toNat)
                          case atStart => exact ⟨0, rfl, Nat.zero_le _, fun j s h => by omega, Hx.out⟩
                          case round =>
                            clear Hx
                            obtain ⟨i, rfl, hi, hp, hx⟩ := hrel
                            have Hp := hid hp
                            have Hx := hid hx
                            clear hp hx
                            have HBr := hid (HB1.out.ext Hx.out)
                            have d0 := HBr.out.av 0 rfl
                            have d1 := HBr.out.av 1 rfl
                            have d2 := HBr.out.av 2 rfl
                            simp only [pcells, qA0, qA1, qA2] at d0 d1 d2
                            by_cases hli : i < P.funs.length
                            · obtain ⟨y, f, av, cv, rfl, hq, e0, e1, e2, hI⟩ := (HP.out.ext Hx.out).funs.at hli
                              have Hq := hid hq
                              have HIp := hid hI
                              have hcv : f.params.length ≤ cv ∧ (cv : Int) ≤ 9223372036854775807 := by
                                obtain ⟨_, _, h1, h2, h3, _⟩ := hI
                                simp only [Value.slice.injEq] at h1
                                obtain ⟨_, _, rfl⟩ := h1
                                exact ⟨h2, h3⟩
                              obtain ⟨hcv1, hcv2⟩ := hcv
                              have Hxi := Hx
                              clear hq e0 e2 hI
                              go_wp2
                              clear d0 d1 d2 HBr e1
                              rename World => wi
                              go_loopw [17] (fun t17 wr => ∃ k : Nat, t17 = .int .i64 (k : Int) ∧ k ≤ f.params.length ∧ (∀ j, j < k → ¬ f.params.getD j 0 ∈ f.params.take j) ∧ Ext wi wr) (fun t17 _ => f.params.length - (intOf t17).toNat)
                              case atStart => exact ⟨0, rfl, Nat.zero_le _, fun b h => by omega, Ext.refl _⟩
                              case round =>
                                obtain ⟨k, rfl, hk, hpk, hx⟩ := hrel
                                have Hpk := hid hpk
                                have Hxk := hid hx
                                clear hpk hx
                                by_cases hlt : k < f.params.length
                                · obtain ⟨yp, q, rfl, hqk, hc⟩ := (HIp.out.old (Hxk.out.old _)).at hlt
                                  have hcK : ∀ w1, Keep (fun _ => False) wr w1 → w1.cell? (yp.add k) = some (.int .i64 q) := fun w1 k => k.ext.cellx hc
                                  have HHs := fun w1 (x : Ext wr w1) => hid (rhas_any (.slice (some yp) k cv) (f.params.take k) q w1 w.heap.size ((HIp.out.old ((Hxk.out.trans x).old _)).take k hk))
                                  have hkc : k ≤ cv := by omega
                                  have hgq : f.params.getD k 0 = q := by rw [List.getD_eq_getElem?_getD, hqk]; rfl
                                  have Hgq := hid hgq
                                  clear hqk hc hgq
                                  go_wp2
                                  refine wp_flowT (fun _ => False) (by kernel_rfl) (by kernel_rfl) ?_
                                  repeat (apply FlowT.d; (intro w1 hk; unfold does; go_simp; (try go_ints); (first | exact DetR.mk | (simp only [↓IntWalk.iteOmega, Oper.doesUpon_value]; exact DetR.mk) | (simp only [↓IntWalk.iteOmega]; go_simp; (try go_ints); exact DetR.mk))); simp only [Act.put, qS0, qS1, qS2])
                                  apply FlowT.d
                                  · intro w1 hk
                                    unfold does
                                    go_simp
                                    exact CallR.det ((HHs w1 hk.ext).out.mono fun e w' ⟨h1, h2⟩ => ⟨h1, h2 ▸ Ext.refl _⟩)
                                  simp only [Act.put, qS0, qS1, qS2]
                                  repeat (apply FlowT.d; (intro w1 hk; unfold does; go_simp; (try go_ints); (first | exact DetR.mk | (simp only [↓IntWalk.iteOmega, Oper.doesUpon_value]; exact DetR.mk) | (simp only [↓IntWalk.iteOmega]; go_simp; (try go_ints); exact DetR.mk))); simp only [Act.put, qS0, qS1, qS2])
                                  refine FlowT.fin fun w7 hx7 hk7 => ?_
                                  have Hx7 := hid (Hxk.out.trans hx7)
                                  have Hx8 := hid (Hx.out.trans Hx7.out)
                                  clear hx7 hk7 hcK HHs
                                  by_cases hin : q ∈ f.params.take k
                                  · have Hb := hid (show P.funsErr = 7 by unfold PP.funsErr; rw [H9.out, HG2.out, List.any_eq_true.2 ⟨f, List.mem_of_getElem? Hq.out, show bad7 f = true from List.any_eq_true.2 ⟨k, List.mem_range.2 hlt, by rw [Hgq.out]; exact decide_eq_true hin⟩⟩]; rfl)
                                    rw [decide_eq_true hin]
                                    clear hin
                                    have Hf : Hid (FaultIs P 7 (-1)) := hid (by
                                      have h : P.err1 = 7 := H1.out.trans Hb.out
                                      exact .inl ⟨by rw [h]; decide, h.symm, rfl⟩)
                                    go_wp2_with fail
                                    refine (HBa 7 _).out.mono ?_
                                    intro e w8 hx8
                                    obtain ⟨rfl, hx8⟩ := hx8
                                    have HB8 := HB2.out.ext ((Hx8.out).trans hx8)
                                    have z0 := HB8.av 0 rfl
                                    have z1 := HB8.av 1 rfl
                                    have f0 := HB8.free 0
                                    have f1 := HB8.free 1
                                    have HBz := hid (two (v0 := (.int .i64 ((7 : Nat) : Int))) (v1 := (.int .i64 (-1))) HB8)
                                    have HKz := hid (two_keep w8 (w.heap.size + 1) (.int .i64 ((7 : Nat) : Int)) (.int .i64 (-1)))
                                    have hE := hid (Keep.new (HW2.out.trans ((Hx8.out).trans hx8)) HKz.out fun b hb => by omega)
                                    clear HB8
                                    go_wp2
                                    have c0 := HBz.out.av 0 rfl
                                    have c1' := HBz.out.av 1 rfl
                                    generalize ((w8.setCell ⟨w.heap.size + 1, 0, none⟩ (.int .i64 ((7 : Nat) : Int))).setCell ⟨w.heap.size + 1, 1, none⟩ (.int .i64 (-1))) = W10 at *
                                    exact bodyPost_ret (v := .agg #[(.int .i64 ((7 : Nat) : Int)), (.int .i64 (-1))]) (by simp [results, Tryz.results9, go_sem, c0, c1']) rfl ⟨hE.out, _, _, rfl, Hf.out⟩
                                  · have Hin := hid hin
                                    rw [decide_eq_false hin]
                                    clear hin
                                    go_wp2
                                    go_roundw
                                    case rel =>
                                      refine ⟨k + 1, by go_num, by omega, fun j hj => ?_, Hx7.out⟩
                                      by_cases hjk : j = k
                                      · subst hjk
                                        rw [Hgq.out]; exact Hin.out
                                      · exact Hpk.out j (by omega)
                                    case measure => simp [intOf]; omega
                                · obtain rfl : k = f.params.length := by omega
                                  have Hb := hid (show bad7 f = false from List.any_eq_false.2 fun j hj => by simp only [decide_eq_true_eq]; exact Hpk.out j (List.mem_range.1 hj))
                                  go_wp2
                                  go_roundw
                                  case rel =>
                                    refine ⟨i + 1, by go_num, by omega, fun j s hj hs => ?_, Hx.out.trans Hxk.out⟩
                                    by_cases hjk : j = i
                                    · subst hjk
                                      obtain rfl := Option.some.inj (Hq.out.symm.trans hs)
                                      exact Hb.out
                                    · exact Hp.out j s (by omega) hs
                                  case measure => simp [intOf]; omega
                            · obtain rfl : i = P.funs.length := by omega
                              have HG7 := hid (any_noU (l := P.funs) (p := bad7) Hp.out)
                              have HE0 := hid (show P.err1 = 0 by rw [H1.out]; unfold PP.funsErr; rw [H9.out, HG2.out, HG7.out]; rfl)
                              clear Hp
                              go_wp2
                              clear d0 d1 d2 HBr
                              go_loopw [18] (fun t18 wr => ∃ k : Nat, t18 = .int .i64 (k : Int) ∧ k ≤ P.stmts.length ∧ (∀ j s, j < k → P.stmts[j]? = some s → P.stmtErr s = 0) ∧ Ext W2 wr) (fun t18 _ => P.stmts.length - (intOf t18).toNat)
                              case atStart => exact ⟨0, rfl, Nat.zero_le _, fun j s h => by omega, Hx.out⟩
                              case round =>
                                clear Hx
                                obtain ⟨k, rfl, hk, hp, hx⟩ := hrel
                                have Hp := hid hp
                                have Hx := hid hx
                                clear hp hx
                                have HBr := hid (HB1.out.ext Hx.out)
                                have d0 := HBr.out.av 0 rfl
                                have d1 := HBr.out.av 1 rfl
                                have d2 := HBr.out.av 2 rfl
                                simp only [pcells, qA0, qA1, qA2] at d0 d1 d2
                                by_cases hlt : k < P.stmts.length
                                · obtain ⟨y, s, av, cv, rfl, hq, e0, e1, e2, e3, hI⟩ := (HP.out.ext Hx.out).stmts.at hlt
                                  have Hq := hid hq
                                  have HIp := hid hI
                                  have hal : (s.args.length : Int) ≤ 9223372036854775807 := by
                                    obtain ⟨_, _, _, h2, h3, _⟩ := hI
                                    omega
                                  have g0 : ∀ w1, Keep (fun _ => False) wr w1 → w1.cell? (y.add (k * 4)) = some (.string s.kind) := fun w1 k => k.ext.cellx e0
                                  have g1 : ∀ w1, Keep (fun _ => False) wr w1 → w1.cell? ⟨(y.add (k * 4)).block, (y.add (k * 4)).off + 1, none⟩ = some (.int .i64 s.x) := fun w1 k => k.ext.cellx e1
                                  have g2 : ∀ w1, Keep (fun _ => False) wr w1 → w1.cell? ⟨(y.add (k * 4)).block, (y.add (k * 4)).off + 2, none⟩ = some (.int .i64 s.y) := fun w1 k => k.ext.cellx e2
                                  have g3 : ∀ w1, Keep (fun _ => False) wr w1 → w1.cell? ⟨(y.add (k * 4)).block, (y.add (k * 4)).off + 3, none⟩ = some (.slice av s.args.length cv) := fun w1 k => k.ext.cellx e3
                                  have m0 := HBr.out.kc (X := fun _ => False) (fun e => e) 0 rfl
                                  have m1 := HBr.out.kc (X := fun _ => False) (fun e => e) 1 rfl
                                  have m2 := HBr.out.kc (X := fun _ => False) (fun e => e) 2 rfl
                                  simp only [pcells, qA0, qA1, qA2] at m0 m1 m2
                                  have HSe := fun w1 (x : Ext wr w1) => hid (rstmterr_any a1 a2 (some y) c1 c2 c3 P s av cv w1 w.heap.size (HIp.out.old (x.old _)) hml2 hal)
                                  unfold pval sval at HSe
                                  clear hq e0 e1 e2 e3 hI d0 d1
                                  go_wp2
                                  refine wp_flowT (fun _ => False) (by kernel_rfl) (by kernel_rfl) ?_
                                  repeat (apply FlowT.d; (intro w1 hk; unfold does; go_simp; (try go_ints); (first | exact DetR.mk | (simp only [↓IntWalk.iteOmega, Oper.doesUpon_value]; exact DetR.mk) | (simp only [↓IntWalk.iteOmega]; go_simp; (try go_ints); exact DetR.mk))); simp only [Act.put, qS0, qS1, qS2])
                                  apply FlowT.d
                                  · intro w1 hk
                                    unfold does
                                    go_simp
                                    exact CallR.det ((HSe w1 hk.ext).out)
                                  simp only [Act.put, qS0, qS1, qS2]
                                  repeat (apply FlowT.d; (intro w1 hk; unfold does; go_simp; (try go_ints); (first | exact DetR.mk | (simp only [↓IntWalk.iteOmega, Oper.doesUpon_value]; exact DetR.mk) | (simp only [↓IntWalk.iteOmega]; go_simp; (try go_ints); exact DetR.mk))); simp only [Act.put, qS0, qS1, qS2])
                                  refine FlowT.fin fun w7 hx7 hk7 => ?_
                                  have Hx7 := hid (Hx.out.trans hx7)
                                  clear hx7 hk7 g0 g1 g2 g3 m0 m1 m2 HSe d2
                                  by_cases hz : P.stmtErr s = 0
                                  · have Hz := hid hz
                                    rw [hz]
                                    clear hz
                                    go_wp2
                                    go_roundw
                                    case rel =>
                                      refine ⟨k + 1, by go_num, by omega, fun j t hj hs => ?_, Hx7.out⟩
                                      by_cases hjk : j = k
                                      · subst hjk
                                        obtain rfl := Option.some.inj (Hq.out.symm.trans hs)
                                        exact Hz.out
                                      · exact Hp.out j t (by omega) hs
                                    case measure => simp [intOf]; omega
                                  · have Hf : Hid (FaultIs P (P.stmtErr s) (k : Int)) := hid (.inr (.inr ⟨HE0.out, k, s, ⟨Hq.out, hz, fun j t hj ht => Hp.out j t hj ht⟩, rfl, rfl⟩))
                                    have hpos : 0 < P.stmtErr s := Nat.pos_of_ne_zero hz
                                    clear hz
                                    generalize P.stmtErr s = ec at *
                                    have HB8 := HB2.out.ext Hx7.out
                                    have z0 := HB8.av 0 rfl
                                    have z1 := HB8.av 1 rfl
                                    have f0 := HB8.free 0
                                    have f1 := HB8.free 1
                                    have HBz := hid (two (v0 := (.int .i64 (ec : Int))) (v1 := (.int .i64 (k : Int))) HB8)
                                    have HKz := hid (two_keep w7 (w.heap.size + 1) (.int .i64 (ec : Int)) (.int .i64 (k : Int)))
                                    have hE := hid (Keep.new (HW2.out.trans Hx7.out) HKz.out fun b hb => by omega)
                                    clear HB8
                                    go_wp2
                                    have c0 := HBz.out.av 0 rfl
                                    have c1' := HBz.out.av 1 rfl
                                    generalize ((w7.setCell ⟨w.heap.size + 1, 0, none⟩ (.int .i64 (ec : Int))).setCell ⟨w.heap.size + 1, 1, none⟩ (.int .i64 (k : Int))) = W10 at *
                                    exact bodyPost_ret (v := .agg #[(.int .i64 (ec : Int)), (.int .i64 (k : Int))]) (by simp [results, Tryz.results9, go_sem, c0, c1']) rfl ⟨hE.out, _, _, rfl, Hf.out⟩
                                · obtain rfl : k = P.stmts.length := by omega
                                  have Hf : Hid (FaultIs P 0 (-1)) := hid (.inr (.inl ⟨HE0.out, fun j t _ ht => Hp.out j t (by
                                    rcases Nat.lt_or_ge j P.stmts.length with h | h
                                    · exact h
                                    · rw [List.getElem?_eq_none h] at ht; cases ht) ht, rfl, rfl⟩))
                                  have HFi := fun w1 => hid (rfine_any w1)
                                  clear Hp
                                  go_wp2_with fail
                                  refine (HFi _).out.mono ?_
                                  intro e w8 hx8
                                  obtain ⟨rfl, hx8⟩ := hx8
                                  have HB8 := HB2.out.ext (Hx.out.trans hx8)
                                  have z0 := HB8.av 0 rfl
                                  have z1 := HB8.av 1 rfl
                                  have f0 := HB8.free 0
                                  have f1 := HB8.free 1
                                  have HBz := hid (two (v0 := (.int .i64 ((0 : Nat) : Int))) (v1 := (.int .i64 (-1))) HB8)
                                  have HKz := hid (two_keep w8 (w.heap.size + 1) (.int .i64 ((0 : Nat) : Int)) (.int .i64 (-1)))
                                  have hE := hid (Keep.new (HW2.out.trans (Hx.out.trans hx8)) HKz.out fun b hb => by omega)
                                  clear HB8
                                  go_wp2
                                  have c0 := HBz.out.av 0 rfl
                                  have c1' := HBz.out.av 1 rfl
                                  generalize ((w8.setCell ⟨w.heap.size + 1, 0, none⟩ (.int .i64 ((0 : Nat) : Int))).setCell ⟨w.heap.size + 1, 1, none⟩ (.int .i64 (-1))) = W10 at *
                                  exact bodyPost_ret (v := .agg #[(.int .i64 ((0 : Nat) : Int)), (.int .i64 (-1))]) (by simp [results, Tryz.results9, go_sem, c0, c1']) rfl ⟨hE.out, _, _, rfl, Hf.out⟩
theorem rfprog_all (a1 a2 a3 : Option Addr) (c1 c2 c3 : Nat) (P : PP) (w : World) (h : ProgR w w.heap.size (.slice a1 P.vars.length c1) (.slice a2 P.funs.length c2) (.slice a3 P.stmts.length c3) P)
    (hz1 : ∀ s ∈ P.vars, s.size ≤ 1000000) (hz2 : ∀ s ∈ P.names, s.size ≤ 1000000) :
    Calls Tryz.prog 9 #[pval a1 a2 a3 c1 c2 c3 P] w fun e w' => Ext w w' ∧ ∃ (c : Nat) (p : Int), e = .returned (.agg #[.int .i64 (c : Int), .int .i64 p]) ∧ FaultIs P c p := by
  cases hb : P.big with
  | true => exact rfprog_big a1 a2 a3 c1 c2 c3 P w h hz1 hz2 hb
  | false => exact rfprog_no a1 a2 a3 c1 c2 c3 P w h hz1 hz2 hb
def sumUp (S : List (List Int)) (k : Nat) : Nat := ((List.range k).map fun n : Nat => (S.getD n []).length).sum
theorem good_small {P : PP} {S : List (List Int)} (hg : P.GoodS S) (n : Nat) : ∀ x ∈ S.getD n [], x ≤ 126 := fun x hx => by
  have h2 := hg.1.nodes.2
  rw [List.getD_eq_getElem?_getD] at hx
  cases hl : S[n]? with
  | none => rw [hl] at hx; cases hx
  | some l =>
    rw [hl] at hx
    have := (hg.ok.ok l (List.mem_of_getElem? hl)).2 x hx
    omega
theorem getD_most {l : List Int} {m : Int} (h0 : 0 ≤ m) (h : ∀ x ∈ l, x ≤ m) (i : Nat) : l.getD i 0 ≤ m := by
  rw [List.getD_eq_getElem?_getD]
  cases hx : l[i]? with
  | none => exact h0
  | some x => exact h x (List.mem_of_getElem? hx)
theorem FaultIs.well {P : PP} {c : Nat} {p : Int} (h : FaultIs P c p) (hw : P.Well) : c = 0 ∧ p = -1 := h.uniq (.inr (.inl ⟨hw.1, hw.2, rfl, rfl⟩))
theorem FaultIs.no {P : PP} {c : Nat} {p : Int} (h : FaultIs P c p) (hw : ¬ P.Well) : c ≠ 0 := fun e => by
  subst e
  exact hw ⟨h.zero.1, h.zero.2.1⟩
theorem field_fault (a b : Int) (w : World) : (Instr.field 30 (.agg #[.int .i64 a, .int .i64 b]) 0).run Tryz.prog w = .ok (.int .i64 a) w := by kernel_rfl
set_option maxRecDepth 100000 in
set_option maxHeartbeats 12800000 in
theorem shardalone_any (a1 a2 a3 : Option Addr) (c1 c2 c3 : Nat) (P : PP) (me kk : Int) (w : World) (ad : Nat → Addr) (hE : ErrsP w ad) (hP : ProgR w w.heap.size (.slice a1 P.vars.length c1) (.slice a2 P.funs.length c2) (.slice a3 P.stmts.length c3) P) :
    Calls Tryz.prog 3 #[pval a1 a2 a3 c1 c2 c3 P, .int .i64 me, .int .i64 kk] w fun e w' => e = .returned (.bool true) ∧ Ext w w' := by
  have HE := hid hE
  have HP := hid hP
  obtain ⟨W1, hW1⟩ : ∃ W1, W1 = w.alloc (.cells (pcells a1 a2 a3 c1 c2 c3 P) 26) := ⟨_, rfl⟩
  have HX1 : Hid (Ext w W1) := hid (by rw [hW1]; exact (Ext.refl _).alloc _)
  have HB1 : Hid (Blk W1 w.heap.size (pcells a1 a2 a3 c1 c2 c3 P) 26) := hid (by rw [hW1]; exact Blk.new _ _ _)
  have HR := hid (shardedfact_any W1 ad (hE.ext HX1.out))
  have HW1 : Hid (W1 = w.alloc (.cells #[.slice a1 P.vars.length c1, .slice a2 P.funs.length c2, .slice a3 P.stmts.length c3] 26)) := hid (by rw [hW1]; rfl)
  unfold pval
  clear hE hP hW1
  go_enter Tryz.func3, Tryz.ntmps3
  go_wp2_with fail
  rw [← HW1.out]
  refine HR.out.mono ?_
  intro e w1 hx
  obtain ⟨rfl, hx1⟩ := hx
  have HL := hid (large_q a1 a2 a3 c1 c2 c3 16 (by omega) P w1 w.heap.size (HP.out.ext (HX1.out.trans hx1)))
  rw [show ((16 : Nat) : Int) = (16 : Int) from rfl] at HL
  unfold pval at HL
  have HX1' := hid (HX1.out.trans hx1)
  have HBp1 := hid (HB1.out.ext hx1)
  have p0 := HBp1.out.av 0 rfl
  have p1 := HBp1.out.av 1 rfl
  have p2 := HBp1.out.av 2 rfl
  simp only [pcells, qA0, qA1, qA2] at p0 p1 p2
  clear HR hx1
  go_wp2_with fail
  refine HL.out.mono ?_
  intro e w2 hx
  obtain ⟨r, rfl, hr, hsm, hx2⟩ := hx
  have HX2 := hid (HX1'.out.trans hx2)
  have HBp := hid (HBp1.out.ext hx2)
  clear HL hx2 p0 p1 p2
  rcases (by omega : r = 1 ∨ r = 0) with rfl | rfl
  · clear hsm hr
    go_wp2
    go_ret
    exact ⟨rfl, HX2.out⟩
  have HSm := hid (hsm rfl).1
  have HQl := hid (hsm rfl).2.1
  have HVl := hid (hsm rfl).2.2
  clear hsm hr
  have hz1 : ∀ s ∈ P.vars, s.size ≤ 1000000 := fun s hs => by have := HSm.out.vs s hs; omega
  have hz2 : ∀ s ∈ P.names, s.size ≤ 1000000 := fun s hs => by
    obtain ⟨f, hf, rfl⟩ := List.mem_map.1 hs
    have := (HSm.out.fs f hf).1
    omega
  have Hz1 := hid hz1
  have Hz2 := hid hz2
  have HPS := hid (show PS0 w2 w2.heap.size ad a1 a2 a3 c1 c2 c3 P from ⟨HE.out.ext HX2.out, (HP.out.ext HX2.out).lift HX2.out.size, Hz1.out, Hz2.out⟩)
  clear hz1 hz2
  have HF9 := hid (rfprog_all a1 a2 a3 c1 c2 c3 P w2 HPS.out.prog Hz1.out Hz2.out)
  have p0 := HBp.out.av 0 rfl
  have p1 := HBp.out.av 1 rfl
  have p2 := HBp.out.av 2 rfl
  simp only [pcells, qA0, qA1, qA2] at p0 p1 p2
  unfold pval at HF9
  go_wp2_with fail
  refine HF9.out.mono ?_
  intro e w8 hx
  obtain ⟨hx8, fc, fp, rfl, hfi⟩ := hx
  have Hfi := hid hfi
  have Hx8 := hid hx8
  have hff := field_fault (fc : Int) fp w8
  clear HF9 hfi hx8 p0 p1 p2
  by_cases hw : P.Well
  case neg =>
    have hc := Hfi.out.no hw
    have hlt : decide ((0 : Int) < (fc : Int)) = true := decide_eq_true (by omega)
    have hlt2 : (0 < fc) = True := by simp; omega
    have HXz := hid (HX2.out.trans Hx8.out)
    go_wp2
    go_ret
    exact ⟨rfl, HXz.out⟩
  obtain ⟨rfl, rfl⟩ := Hfi.out.well hw
  clear hff
  have hff := field_fault 0 (-1) w8
  have Hw := hid hw
  obtain ⟨n, S, hL⟩ := least_exists Hw.out
  have HLe := hid hL
  have HG := hid (hL.good Hw.out)
  have HSl := hid HG.out.2.1
  obtain ⟨hn1, hn2⟩ := Hw.out.nodes
  have HC := hid (rleastof_new a1 a2 a3 c1 c2 c3 P w8 (HPS.out.on (Nat.le_refl _) Hx8.out).prog Hw.out n S HLe.out)
  rw [← HSl.out] at HC
  have hS120 : S.length ≤ 120 := by rw [HSl.out]; exact hn1
  unfold pval at HC
  have p0 := (HBp.out.ext Hx8.out).av 0 rfl
  have p1 := (HBp.out.ext Hx8.out).av 1 rfl
  have p2 := (HBp.out.ext Hx8.out).av 2 rfl
  simp only [pcells, qA0, qA1, qA2] at p0 p1 p2
  clear hL hw
  go_wp2_with fail
  refine HC.out.mono ?_
  intro e w9 hx
  obtain ⟨ah, ch, rfl, hs9, hns, hx9⟩ := hx
  have Hsn := hid hs9
  have hhl := hs9.len
  have Hx9 := hid (Hx8.out.trans hx9)
  have HQ := hid (ownprogram_any a1 a2 a3 c1 c2 c3 P w9 (HPS.out.on (Nat.le_refl _) Hx9.out).prog HSm.out)
  unfold pval at HQ
  clear HC hs9 hns hx9 p0 p1 p2 hff
  have p0 := (HBp.out.ext Hx9.out).av 0 rfl
  have p1 := (HBp.out.ext Hx9.out).av 1 rfl
  have p2 := (HBp.out.ext Hx9.out).av 2 rfl
  simp only [pcells, qA0, qA1, qA2] at p0 p1 p2
  go_wp2_with fail
  refine HQ.out.mono ?_
  intro e w3 hx
  obtain ⟨hx3, b1, b2, b3, d1, d2, d3, rfl, hq⟩ := hx
  have Hx3 := hid (Hx9.out.trans hx3)
  have HPQ := hid (show PS0 w3 w3.heap.size ad b1 b2 b3 d1 d2 d3 P from ⟨HE.out.ext (HX2.out.trans Hx3.out), hq, Hz1.out, Hz2.out⟩)
  have HN := hid (shardnew_yes b1 b2 b3 d1 d2 d3 P 0 1 w3 w3.heap.size ad (HPQ.out.pw Hw.out) (Nat.le_refl _) (by omega))
  have Hsn3 := hid (Hsn.out.ext hx3)
  have Hsz3 := hid hx3.size
  rw [show (((0 : Nat) : Int)) = (0 : Int) from rfl, show (((1 : Nat) : Int)) = (1 : Int) from rfl] at HN
  unfold pval at HN
  clear HQ hx3 hq p0 p1 p2 Hsn
  go_wp2_with fail
  refine HN.out.mono ?_
  intro e w5 hx
  obtain ⟨g, c, G, F, u, t, os, rfl, hcP, hcm, hck, hr, ht, hS, hN, hF, hI, hG, hx5⟩ := hx
  obtain ⟨ho, hok, hk⟩ := alone_done HLe.out Hw.out hr ht
  obtain ⟨au, cu, hu⟩ := hN.row.form
  rw [ho, List.length_nil] at hu
  subst hu
  have HSh := hid hS
  have Hok := hid (show ({ t with out := [] } : SH).Ok c.P (c.me : Nat) (c.k : Nat) from by
    rw [hcP, hcm, hck]
    exact ⟨hok.hnd, hok.has, hok.nnd, hok.nxt, hok.todo, fun _ h => (by cases h)⟩)
  have Hhas : Hid (∀ j : Nat, j < S.length → c.hasL { t with out := [] } (j : Int) = S.getD j []) := hid fun j hj => by
    rw [SC.own_yes (by rw [hcP, hcm, hck]; exact ⟨by omega, by rw [HSl.out] at hj; omega, by simp⟩)]
    exact hk j (by rw [← HSl.out]; exact hj)
  have Hno1 : Hid (c.hasL { t with out := [] } (-1) = []) := hid (SC.own_no (fun h => by omega) _)
  have Hno2 : Hid (c.hasL { t with out := [] } (S.length : Int) = []) := hid (SC.own_no (fun h => by rw [hcP, ← HSl.out] at h; omega) _)
  have Hx5 := hid (Hx3.out.trans hx5)
  have Hsn5 := hid (Hsn3.out.ext hx5)
  have Hsz5 := hid (Nat.le_trans Hsz3.out hx5.size)
  clear HN hr ht hS hN hF hI hG hx5 ho hok hk hcP hcm hck Hsn3
  go_wp2
  go_loopw [13] (fun t13 wr => ∃ j : Nat, t13 = .int .i64 (j : Int) ∧ j ≤ S.length ∧ Ext w5 wr) (fun t13 _ => S.length - (intOf t13).toNat)
  case atStart => exact ⟨0, rfl, Nat.zero_le _, Ext.refl _⟩
  case round =>
    obtain ⟨j, rfl, hj, hxr⟩ := hrel
    have Hxr := hid hxr
    by_cases hlt : j < S.length
    · obtain ⟨y, l, bl, cl, hy, hl, hc, hIl⟩ := (Hsn5.out.ext hxr).at hlt
      subst hy
      have hlg : S.getD j [] = l := by rw [List.getD_eq_getElem?_getD, hl]; rfl
      have HHa := fun w1 (x : Ext wr w1) => hid (shardhas_any c { t with out := [] } (j : Int) w1 G F g (HSh.out.ext (hxr.trans x)) Hok.out)
      rw [Hhas.out j hlt, hlg] at HHa
      have hcy : ∀ w1, Keep (fun _ => False) wr w1 → w1.cell? (y.add j) = some (.slice bl l.length cl) := fun w1 k => k.ext.cellx hc
      have hgd : ∀ i, l.getD i 0 ≤ 9223372036854775807 := fun i => by
        have := good_small HG.out j
        rw [hlg] at this
        have := getD_most (m := 126) (by omega) this i
        omega
      have Hll := hid hIl.len
      have HIl := hid hIl
      have Hgd := hid hgd
      have hsz := hid (Nat.le_trans Hsz5.out Hxr.out.size)
      clear hl hc hlg hIl hxr hgd
      go_wp2
      refine wp_flow (fun _ => False) (by kernel_rfl) (by kernel_rfl) ?_
      apply Flow.d 0 _ rfl (by simp) (by kernel_rfl)
      · intro w1 hk; unfold does; go_simp; (try go_ints); exact DetR.mk
      simp only [qA0, qA1, qA2, Act.put, qS0, qS1, qS2]
      apply Flow.d 1 _ rfl (by simp) (by kernel_rfl)
      · intro w1 hk; unfold does; go_simp; (try go_ints); exact DetR.mk
      simp only [qA0, qA1, qA2, Act.put, qS0, qS1, qS2]
      apply Flow.d 3 _ rfl (by simp) (by kernel_rfl)
      · intro w1 hk; unfold does; go_simp; (try go_ints); exact DetR.mk
      simp only [qA0, qA1, qA2, Act.put, qS0, qS1, qS2]
      apply Flow.d 4 _ rfl (by simp) (by kernel_rfl)
      · intro w1 hk; unfold does; go_simp; (try go_ints); exact DetR.mk
      simp only [qA0, qA1, qA2, Act.put, qS0, qS1, qS2]
      apply Flow.d 5 _ rfl (by simp) (by kernel_rfl)
      · intro w1 hk; unfold does; go_simp; (try go_ints); exact DetR.mk
      simp only [qA0, qA1, qA2, Act.put, qS0, qS1, qS2]
      apply Flow.d 6 _ rfl (by simp) (by kernel_rfl)
      · intro w1 hk; unfold does; go_simp; (try go_ints); exact DetR.mk
      simp only [qA0, qA1, qA2, Act.put, qS0, qS1, qS2]
      refine Flow.one 2 _ rfl (by kernel_rfl) (fun v w' => (∃ a c, v = .slice a l.length c) ∧ IRow 0 w' v l ∧ Ext wr w') (fun _ _ _ ⟨h1, h2, h3⟩ y => ⟨h1, own_ext h2 y, h3.trans y⟩) (fun w6 hC hk => ?_) ?_
      · unfold does
        go_simp
        refine CallR.act ((HHa w6 hC).out.mono ?_)
        rintro e w7 ⟨v, rfl, hr, hx⟩
        exact ⟨v, rfl, hk.trans (hx.keep _), hr.form, own_low hr (Nat.zero_le _), hC.trans hx⟩
      rintro _ ⟨_, ⟨am, cm, rfl⟩, _, _⟩
      simp only [qA0, qA1, qA2, Act.put, qS0, qS1, qS2]
      refine Flow.one 7 _ rfl (by kernel_rfl) (fun v w' => v = .bool true ∧ Ext wr w') (fun _ _ _ ⟨h1, h3⟩ y => ⟨h1, h3.trans y⟩) (fun w6 hC hk => ?_) ?_
      · obtain ⟨_, hr, hx⟩ := hC
        have HSa := sameints_any am bl l.length l.length cm cl l l w6 (IntsR.ints (n0 := w6.heap.size) (IntsR.own hr (Nat.le_refl _)) Hgd.out) (IntsR.ints (n0 := w6.heap.size) ((HIl.out.old (hx.old _)).lift (Nat.le_trans hsz.out hx.size)) Hgd.out) Hll.out Hll.out
        unfold does
        go_simp
        refine CallR.act (HSa.mono ?_)
        rintro e w7 ⟨rfl, hx7⟩
        exact ⟨_, rfl, hk.trans (hx7.keep _), by rw [decide_eq_true rfl], hx.trans hx7⟩
      rintro _ ⟨_, rfl, _⟩
      simp only [qA0, qA1, qA2, Act.put, qS0, qS1, qS2]
      apply Flow.d 8 _ rfl (by simp) (by kernel_rfl)
      · intro w1 hk; unfold does; go_simp; (try go_ints); exact DetR.mk
      simp only [qA0, qA1, qA2, Act.put, qS0, qS1, qS2]
      refine Flow.fin (by kernel_rfl) fun w6 hC6 hk6 => ?_
      have Hx6 := hid (Hxr.out.trans hC6.2)
      clear hC6 hk6 hcy HHa
      go_wp2
      go_roundw
      case rel => exact ⟨j + 1, by go_num, by omega, Hx6.out⟩
      case measure => simp [intOf]; omega
    · obtain rfl : j = S.length := by omega
      have HXr := hid (HX2.out.trans (Hx5.out.trans hxr))
      have Hxr2 := hid (Hx5.out.trans hxr)
      have Hxw57 := hid hxr
      clear hxr
      by_cases hb : kk < 1 ∨ 6 < kk ∨ me < 0 ∨ kk ≤ me
      case pos =>
        by_cases h1 : kk < 1
        · clear hb
          go_wp2
          go_ret
          exact ⟨rfl, HXr.out⟩
        · by_cases h2 : 6 < kk
          · clear hb
            go_wp2
            go_ret
            exact ⟨rfl, HXr.out⟩
          · by_cases h3 : me < 0
            · clear hb
              go_wp2
              go_ret
              exact ⟨rfl, HXr.out⟩
            · have h4 : kk ≤ me := by omega
              clear hb
              go_wp2
              go_ret
              exact ⟨rfl, HXr.out⟩
      have hb' : ¬ kk < 1 ∧ ¬ 6 < kk ∧ ¬ me < 0 ∧ ¬ kk ≤ me := by omega
      clear hb
      obtain ⟨mm, rfl⟩ := Int.eq_ofNat_of_zero_le (show 0 ≤ me by omega)
      obtain ⟨k2, rfl⟩ := Int.eq_ofNat_of_zero_le (show 0 ≤ kk by omega)
      have hmk : mm < k2 ∧ k2 ≤ 6 := by omega
      have HQ2 := hid (ownprogram_any a1 a2 a3 c1 c2 c3 P wr (HPS.out.on (Nat.le_refl _) Hxr2.out).prog HSm.out)
      unfold pval at HQ2
      have p0 := (HBp.out.ext Hxr2.out).av 0 rfl
      have p1 := (HBp.out.ext Hxr2.out).av 1 rfl
      have p2 := (HBp.out.ext Hxr2.out).av 2 rfl
      simp only [pcells, qA0, qA1, qA2] at p0 p1 p2
      have i1 : decide ((k2 : Int) < 1) = false := decide_eq_false (by omega)
      have i2 : decide ((6 : Int) < (k2 : Int)) = false := decide_eq_false (by omega)
      have i3 : decide ((mm : Int) < 0) = false := decide_eq_false (by omega)
      have i4 : decide ((k2 : Int) ≤ (mm : Int)) = false := decide_eq_false (by omega)
      have j1 : (k2 = 0) = False := by simp; omega
      have j2 : (6 < k2) = False := by simp; omega
      have j3 : (k2 ≤ mm) = False := by simp; omega
      have j4 : ((k2 : Int) < 1) = False := by simp; omega
      have j5 : ((6 : Int) < (k2 : Int)) = False := by simp; omega
      clear hb'
      go_wp2_with fail
      refine HQ2.out.mono ?_
      intro e w6 hx
      obtain ⟨hx6, q1, q2, q3, r1, r2, r3, rfl, hq⟩ := hx
      have Hx6 := hid hx6
      have HPQ2 := hid (show PS0 w6 w6.heap.size ad q1 q2 q3 r1 r2 r3 P from ⟨HE.out.ext (HXr.out.trans hx6), hq, Hz1.out, Hz2.out⟩)
      have HN2 := hid (shardnew_yes q1 q2 q3 r1 r2 r3 P mm k2 w6 w6.heap.size ad (HPQ2.out.pw Hw.out) (Nat.le_refl _) hmk)
      unfold pval at HN2
      clear HQ2 hx6 hq p0 p1 p2
      go_wp2_with fail
      refine HN2.out.mono ?_
      intro e w7 hx
      obtain ⟨g2, c', G2, F2, u2, t2, os2, rfl, hcP, hcm, hck, hr, ht, hS, hN, hF, hI, hG, hx7⟩ := hx
      have hf := hr.full Hw.out (start_full Hw.out)
      obtain ⟨au2, cu2, hu2⟩ := hN.row.form
      subst hu2
      have HSh2 := hid hS
      have Hok2 := hid (show ({ t2 with out := [] } : SH).Ok c'.P (c'.me : Nat) (c'.k : Nat) from by
        rw [hcP, hcm, hck]
        exact hf.rest.ok)
      have Hemp : Hid (∀ j : Nat, ¬ j % k2 = mm → c'.hasL { t2 with out := [] } (j : Int) = []) := hid fun j hj => SC.own_no (fun h => hj (by
        have h3 := h.2.2
        rw [hck, hcm, natmod] at h3
        omega)) _
      have Hx7 := hid ((Hxr2.out.trans Hx6.out).trans hx7)
      have Hx57 := hid (Hx6.out.trans hx7)
      clear HN2 hr ht hS hN hF hI hG hx7 hf hcP hcm hck
      have Hsn7 := hid (Hsn5.out.len)
      clear i1 i2 i3 i4 j1 j2 j3 j4 j5
      go_wp2
      go_loopw [16] (fun t16 wq => ∃ j : Nat, t16 = .int .i64 (j : Int) ∧ j ≤ S.length ∧ Ext w7 wq) (fun t16 _ => S.length - (intOf t16).toNat)
      case atStart => exact ⟨0, rfl, Nat.zero_le _, Ext.refl _⟩
      case round =>
        obtain ⟨j, rfl, hj2, hxq⟩ := hrel
        have Hxq := hid hxq
        by_cases hlt2 : j < S.length
        · have htm := tmod_nat j k2
          have Hem := hid (Hemp.out j)
          generalize j % k2 = r at htm Hem
          have h0 : ((k2 : Int) == 0) = false := beq_eq_false_iff_ne.2 (by omega)
          have h1 : ((k2 : Int) = 0) = False := by simp; omega
          have h2 : (k2 = 0) = False := by simp; omega
          by_cases hrm : r = mm
          · have hb : ((r : Int) == (mm : Int)) = true := by rw [hrm]; simp
            have hb2 : ((r : Int) != (mm : Int)) = false := by simp only [bne, hb]; rfl
            clear hrm hxq
            go_wp2
            go_roundw
            case rel => exact ⟨j + 1, by go_num, by omega, Hxq.out⟩
            case measure => simp [intOf]; omega
          · have hb : ((r : Int) == (mm : Int)) = false := beq_eq_false_iff_ne.2 (by omega)
            have hb2 : ((r : Int) != (mm : Int)) = true := by simp only [bne, hb]; rfl
            have HHa := hid (shardhas_any c' { t2 with out := [] } (j : Int) _ G2 F2 g2 (HSh2.out.ext hxq) Hok2.out)
            rw [Hem.out hrm] at HHa
            clear hrm hxq
            go_wp2_with fail
            refine HHa.out.mono ?_
            intro e w8' hx
            obtain ⟨v, rfl, hr8, hx8⟩ := hx
            obtain ⟨av, cv, rfl⟩ := hr8.form
            have Hx8' := hid (Hxq.out.trans hx8)
            clear HHa hr8 hx8
            go_wp2
            go_roundw
            case rel => exact ⟨j + 1, by go_num, by omega, Hx8'.out⟩
            case measure => simp [intOf]; omega
        · obtain rfl : j = S.length := by omega
          have HXq := hid ((HX2.out.trans Hx7.out).trans hxq)
          have HH1 := hid (shardhas_any c { t with out := [] } (-1) _ G F g (HSh.out.ext ((Hxw57.out.trans Hx57.out).trans hxq)) Hok.out)
          rw [Hno1.out] at HH1
          clear hxq
          go_wp2_with fail
          refine HH1.out.mono ?_
          intro e w9' hx
          obtain ⟨v, rfl, hr8, hx8⟩ := hx
          obtain ⟨av, cv, rfl⟩ := hr8.form
          have HH2 := hid (shardhas_any c { t with out := [] } (S.length : Int) w9' G F g (HSh.out.ext (((Hxw57.out.trans Hx57.out).trans Hxq.out).trans hx8)) Hok.out)
          rw [Hno2.out] at HH2
          have HXz := hid (HXq.out.trans hx8)
          clear HH1 hr8 hx8
          go_wp2_with fail
          refine HH2.out.mono ?_
          intro e w10 hx
          obtain ⟨v, rfl, hr8, hx8⟩ := hx
          obtain ⟨av2, cv2, rfl⟩ := hr8.form
          have HXy := hid (HXz.out.trans hx8)
          clear HH2 hr8 hx8
          go_wp2
          go_ret
          exact ⟨rfl, HXy.out⟩
end Go.Proofs.YtihdpijgngooaaaGreatDoor
namespace Go.Proofs.YtihdpijgngooaaaGreatDoor.shardAlone
open Go Go.ChangeShapes Go.WideShapes Go.ChangeAt Go.WideMaps Go.WideElems Go.RowKit Go.Joins Go.Deep
theorem errs_of {W : World} (h : laidMetH Tryz.prog (sentL [2, 3, 4, 5, 7, 8, 9]) W) : ∃ ad : Nat → Addr, ErrsP W ad := by
  obtain ⟨ad, s1, s2⟩ := sents_ad [2, 3, 4, 5, 7, 8, 9] (by decide) (met_plain h)
  exact ⟨ad, ⟨(s1 2 (by decide)).var, (s1 3 (by decide)).var, (s1 4 (by decide)).var, (s1 5 (by decide)).var, (s1 7 (by decide)).var, (s1 8 (by decide)).var, (s1 9 (by decide)).var,
    fun e => by have := s2 5 (by decide) 7 (by decide) e; omega, (s1 5 (by decide)).row, (s1 7 (by decide)).row⟩⟩
theorem laid_eq : (Rows.shardAloneRow.laid.filter fun x => !(x.1 == "unicode/utf8.acceptRanges") && !(x.1 == "unicode/utf8.first")) = sentL [2, 3, 4, 5, 7, 8, 9] := by kernel_rfl
theorem own : ownKnob Tryz.prog.godebug = none := by kernel_rfl
theorem laidOut : laidOutB Tryz.prog = true := by kernel_rfl
set_option maxRecDepth 100000 in
theorem lifted (os : Os) (started : os.Started) (H : Type) (enc : TypeId × Value → H) :
    ReturnsInHanded {} Tryz.checked os 3 .any (fun w args => (Rows.shardAloneSpec.pre enc Tryz.prog Tryz.f3 [] false w args ∧ laidMetH Tryz.prog Rows.shardAloneRow.laid w) ∧ sizedMet enc Tryz.prog Tryz.f3 (OpenSpec.ofChange Rows.shardAloneSpec) false w args)
      (Rows.shardAloneSpec.post enc Tryz.prog Tryz.f3 false true false false) := by
  refine returnsInHanded_of_change_and (C := Tryz.checked) (X := fun w _ => laidMetH Tryz.prog Rows.shardAloneRow.laid w) (fun _ _ _ hh h => h.of_heap hh) own started (by kernel_rfl) Tryz.func3
    (ChangeSpec.witness_shaped (enc := enc) (C := Tryz.checked) (os := os) (X := fun w _ => laidMetH Tryz.prog Rows.shardAloneRow.laid w) false (World.laidAll Tryz.prog os Rows.shardAloneRow.laid) #[.agg #[.slice none 0 0, .slice none 0 0, .slice none 0 0], .int .i64 0, .int .i64 0] 8 (World.laidAll_os _ _ _) (World.shaped_of_ZipB (by kernel_rfl) (by kernel_rfl)) (by kernel_rfl) (by kernel_rfl) (by kernel_rfl)
      (by rw [MakeChecks.laidMetH_plain _ _ _ (by kernel_rfl)]; exact laidMet_laidAll _ (by kernel_rfl) (by kernel_rfl))) ?_
  intro W base args ds gs before hval0 hW _ _ hL _
  have hval : ∀ (j : Nat) t v, Tryz.f3.params[j]? = some t → args[j]? = some v → Value.okWide Tryz.prog W .any base t v := hval0
  have hW' := hW
  obtain ⟨p, q, hA0, hV, rfl, hfz, hnd⟩ := hW
  have hA : DataW.TrodAll enc Tryz.prog W 0 (fun _ => true) true Tryz.f3.params.toList args.toList ds p := hA0
  rw [Tryz.params3] at hA hval
  obtain ⟨v0, vs0, d0, ds0, p0, q0, hargs, rfl, rfl, h0, r0⟩ := trodAll_cons hA
  obtain ⟨v1, vs1, d1, ds1, p1, q1, rfl, rfl, rfl, h1, r1⟩ := trodAll_cons r0
  obtain ⟨v2, vs2, d2, ds2, p2, q2, rfl, rfl, rfl, h2, r2⟩ := trodAll_cons r1
  obtain ⟨rfl, rfl, rfl⟩ := trodAll_nil r2
  obtain rfl : args = #[v0, v1, v2] := by cases args; simp_all
  obtain ⟨rfl, rfl⟩ := trodVars_none hV
  have k0 := h0
  have lt0 : ∀ x ∈ p0, x.block < W.heap.size := by obtain ⟨m, hm⟩ := k0; exact DataW.trod_lt m _ _ _ hm
  obtain ⟨b1, b2, b3, c1, c2, c3, P, rfl, hP⟩ := prog_of (hval 0 26 v0 rfl rfl) h0
  obtain ⟨a1, rfl, rfl, rfl, w1⟩ := open_int Tryz.underlying3 (hval 1 3 v1 rfl rfl) h1
  obtain ⟨a2, rfl, rfl, rfl, w2⟩ := open_int Tryz.underlying3 (hval 2 3 v2 rfl rfl) h2
  obtain ⟨ad, hE⟩ := errs_of (by have := laidMetH.filter (fun x => !(x.1 == "unicode/utf8.acceptRanges") && !(x.1 == "unicode/utf8.first")) hL; rw [laid_eq] at this; exact this)
  clear hA0 hval0
  refine (shardalone_any b1 b2 b3 c1 c2 c3 P a1 a2 W ad hE hP).mono fun e W' ⟨he, bel⟩ => ?_
  subst he
  exact ⟨_, rfl, _, _, _, [], _, [], hW', trodAll_mk1 (shut_bool Tryz.underlying4 _), (trodAll_cons_mk (Below.trod laidOut (by kernel_rfl) (of_decide_eq_true (by kernel_rfl)) k0 bel lt0) (trodAll_cons_mk (shut_int Tryz.underlying3 w1) (trodAll_cons_mk (shut_int Tryz.underlying3 w2) trodAll_mk0))), rfl, bel.frame _, fun h => by cases h⟩
theorem said : Rows.ShardAloneSaid :=
  OpenClaim.holds_of_wide 3 Tryz.f3 rfl rfl rfl rfl rfl rfl rfl ⟨rfl, rfl, rfl, rfl, rfl⟩ rfl rfl rfl rfl rfl (by kernel_rfl) Tryz.func3 (by kernel_rfl)
    (of_decide_eq_true (by kernel_rfl)) (by unfold Func.isWrapper; first | (rw [if_pos (by decide +kernel)]; kernel_rfl) | (rw [if_neg (by decide +kernel)]; exact ⟨rfl, rfl⟩))
    (fun os started H enc _ => lifted os started H enc)
theorem plain (f : FuncId) (fn : Func) (hf : Tryz.pinned.checked.prog.funcNamed Tryz.f3.name = some f) (hfn : Tryz.pinned.checked.prog.funcs[f]? = some fn) :
    true = Tryz.pinned.checked.prog.looks [] ∧ ∀ (j : Nat) t, fn.params[j]? = some t → Tryz.pinned.checked.prog.wantsStandIn t = false := by
  obtain rfl : f = 3 := Option.some.inj ((show Tryz.prog.funcNamed Tryz.f3.name = some 3 by kernel_rfl).symm.trans hf) |>.symm
  obtain rfl : fn = Tryz.f3 := (Option.some.inj (Tryz.func3.symm.trans hfn)).symm
  refine ⟨by kernel_rfl, fun j t ht => ?_⟩
  rw [Tryz.params3] at ht
  have hm : t ∈ ([26, 3] : List Nat) := by simpa using Array.mem_of_getElem? ht
  have hall : (([26, 3] : List Nat).all fun u => !Tryz.prog.wantsStandIn u) = true := by kernel_rfl
  exact (show Tryz.prog.wantsStandIn t = false by simpa using List.all_eq_true.1 hall t hm)
set_option maxRecDepth 100000 in
theorem card : Rows.ShardAloneCardSaid :=
  Claim7.holds_tied_plain_at .later [] _ _ _ _ said (fun _ h => by cases h) (by kernel_rfl) (fun _ h => by cases h) shardAlone_row_tie rfl ⟨rfl, rfl⟩ (by kernel_rfl) rfl plain (by kernel_rfl)
#print axioms card
end Go.Proofs.YtihdpijgngooaaaGreatDoor.shardAlone
