/- Texts of one proof, put together: WC WD V7 V8 WE WF SP SB S1. -/
import Derived.Test.YtdppgcbekhabnaaGreatDoorSS03
import Derived.Test.YtdppgcbekhabnaaGreatDoorSS04
import Derived.Test.YtdppgcbekhabnaaGreatDoorSS05
import Derived.Test.YtdppgcbekhabnaaGreatDoorSS10
import Derived.Lib.SlicesCompact
import Derived.Sort.Row
import Derived.Sort.Grow

/- The reference's runs: a call that is done. -/
namespace Go.Proofs.YtdppgcbekhabnaaGreatDoor
set_option linter.unusedSimpArgs false
set_option linter.unusedVariables false
open Go Go.RowKit

end Go.Proofs.YtdppgcbekhabnaaGreatDoor



/- The reference's runs: any statement; the beginning. -/
namespace Go.Proofs.YtdppgcbekhabnaaGreatDoor
set_option linter.unusedSimpArgs false
set_option linter.unusedVariables false
open Go Go.RowKit

end Go.Proofs.YtdppgcbekhabnaaGreatDoor



/- Runs: the law's own small run. -/
namespace Go.Proofs.YtdppgcbekhabnaaGreatDoor
set_option linter.unusedSimpArgs false
set_option linter.unusedVariables false
open Go Go.RowKit

def ranP : PP := ⟨[⟨#[97]⟩, ⟨#[98]⟩], [], [⟨⟨#[97, 100, 100, 114]⟩, 0, 1, []⟩, ⟨⟨#[115, 116, 111, 114, 101]⟩, 0, 0, []⟩]⟩
def ranS : Array Value := #[.string ⟨#[97, 100, 100, 114]⟩, .int .i64 0, .int .i64 1, .slice none 0 0, .string ⟨#[115, 116, 111, 114, 101]⟩, .int .i64 0, .int .i64 0, .slice none 0 0]
end Go.Proofs.YtdppgcbekhabnaaGreatDoor



/- Runs: what the law needs, plainly. -/
namespace Go.Proofs.YtdppgcbekhabnaaGreatDoor
set_option linter.unusedSimpArgs false
set_option linter.unusedVariables false
open Go Go.RowKit

def PP.isNew (P : PP) (k : Nat) : Bool := match P.stmts[k]? with
  | some x => x.isK kNew
  | none => false
theorem PP.Runs.take {P : PP} {l : List Int} (h : P.Runs l) (k : Nat) : P.Runs (l.take k) :=
  ⟨h.1, h.2.1, by have := h.2.2.1; rw [List.length_take]; omega, fun x hx => h.2.2.2 x (List.mem_of_mem_take hx)⟩
theorem PP.Runs.lt {P : PP} {l : List Int} (h : P.Runs l) {q : Int} (hq : q ∈ l) : 0 ≤ q ∧ q < P.stmts.length := by
  have hb := h.2.2.2 q hq
  unfold PP.badk at hb
  simp at hb
  omega
theorem PP.Runs.stmts {P : PP} {l : List Int} (h : P.Runs l) : P.stmts.length ≤ 80 := by
  have h1 := h.1
  unfold PP.err1 at h1
  cases hb : P.big with
  | true => rw [hb] at h1; simp at h1
  | false => unfold PP.big at hb; simp at hb; omega
/-- The places of a script's run, as numbers. -/
def newOf (P : PP) (l : List Int) : List Int := ((l.map Int.toNat).filter P.isNew).map Int.ofNat
/-- What run.Do answers, in one. -/
def RunOut (P : PP) (l : List Int) (n0 : Nat) (w : World) (sv ev : Value) : Prop :=
  (P.Runs l ∧ ev = .nilIface ∧ ∃ a1 a2 a3 c1 c2 c3, sv = .agg #[.slice a1 (Rn.run P (l.map Int.toNat)).vars.length c1, .slice a2 (newOf P l).length c2, .slice a3 (newOf P l).length c3] ∧
    w.ownsRow n0 3 1 (.slice a3 (newOf P l).length c3) (newOf P l).length (icells (newOf P l))) ∨
  (¬ P.Runs l ∧ sv = zeroS ∧ ∃ t x, ev = .iface t (.pointer (some x)))
theorem RunOut.ext {P : PP} {l : List Int} {n0 : Nat} {w w' : World} {sv ev : Value} (h : RunOut P l n0 w sv ev) (x : Ext w w') : RunOut P l n0 w' sv ev := by
  rcases h with ⟨h1, h2, a1, a2, a3, c1, c2, c3, h3, h4⟩ | h
  · exact .inl ⟨h1, h2, a1, a2, a3, c1, c2, c3, h3, own_ext h4 x⟩
  · exact .inr h
theorem RunOut.low {P : PP} {l : List Int} {n0 n1 : Nat} {w : World} {sv ev : Value} (h : RunOut P l n0 w sv ev) (hn : n1 ≤ n0) : RunOut P l n1 w sv ev := by
  rcases h with ⟨h1, h2, a1, a2, a3, c1, c2, c3, h3, h4⟩ | h
  · exact .inl ⟨h1, h2, a1, a2, a3, c1, c2, c3, h3, own_low h4 hn⟩
  · exact .inr h
theorem RunOut.form {P : PP} {l : List Int} {n0 : Nat} {w : World} {sv ev : Value} (h : RunOut P l n0 w sv ev) : ∃ a1 n1 c1 a2 n2 c2 a3 n3 c3, sv = .agg #[.slice a1 n1 c1, .slice a2 n2 c2, .slice a3 n3 c3] := by
  rcases h with ⟨h1, h2, a1, a2, a3, c1, c2, c3, h3, h4⟩ | ⟨_, h, _⟩
  · exact ⟨_, _, _, _, _, _, _, _, _, h3⟩
  · exact ⟨_, _, _, _, _, _, _, _, _, h⟩
end Go.Proofs.YtdppgcbekhabnaaGreatDoor



/- Places and nodes of a program. -/
namespace Go.Proofs.YtdppgcbekhabnaaGreatDoor
set_option linter.unusedSimpArgs false
set_option linter.unusedVariables false
open Go Go.RowKit

def PP.newsN (P : PP) (k : Nat) : Nat := ((List.range k).filter P.isNew).length
theorem PP.newsN_succ (P : PP) (k : Nat) : P.newsN (k + 1) = P.newsN k + if P.isNew k then 1 else 0 := by
  unfold PP.newsN
  rw [List.range_succ, List.filter_append, List.length_append]
  congr 1
  by_cases h : P.isNew k <;> simp [h]
theorem PP.newsN_le (P : PP) (k : Nat) : P.newsN k ≤ k := by
  unfold PP.newsN
  have := List.length_filter_le P.isNew (List.range k)
  simpa using this
def PP.nodesV (P : PP) : Nat := P.vars.length + P.newsN P.stmts.length
def PP.placeV (P : PP) (k : Int) : Int := if 0 ≤ k ∧ k < P.stmts.length ∧ P.isNew k.toNat = true then ((P.vars.length + P.newsN k.toNat : Nat) : Int) else -1
theorem isNew_at {P : PP} {k : Nat} {x : PS} (h : P.stmts[k]? = some x) : P.isNew k = x.isK kNew := by unfold PP.isNew; rw [h]

set_option maxRecDepth 100000 in
set_option maxHeartbeats 3200000 in
theorem rnodesof_any (a1 a2 a3 : Option Addr) (c1 c2 c3 : Nat) (P : PP) (w : World) (n0 : Nat) (h : ProgR w n0 (.slice a1 P.vars.length c1) (.slice a2 P.funs.length c2) (.slice a3 P.stmts.length c3) P) (hv : P.vars.length ≤ 1000) (hs : P.stmts.length ≤ 1000) :
    Calls Tryz.prog 48 #[pval a1 a2 a3 c1 c2 c3 P] w fun e w' => e = .returned (.int .i64 (P.nodesV : Int)) ∧ Ext w w' := by
  have HP0 := hid h
  have hml1 : (P.vars.length : Int) ≤ 1000 := by omega
  obtain ⟨W, hW⟩ : ∃ W, W = w.alloc (.cells (pcells a1 a2 a3 c1 c2 c3 P) 26) := ⟨_, rfl⟩
  have HX : Hid (Ext w W) := hid (by rw [hW]; exact (Ext.refl _).alloc _)
  have hB : Blk W w.heap.size (pcells a1 a2 a3 c1 c2 c3 P) 26 := by rw [hW]; exact Blk.new _ _ _
  have HP := hid (h.ext HX.out)
  have d0 := hB.av 0 rfl
  have d2 := hB.av 2 rfl
  simp only [pcells, List.getElem_toArray, List.getElem_cons_zero, List.getElem_cons_succ] at d0 d2
  unfold pcells at hW
  have HWe := hid hW
  unfold pval
  clear hW hB h
  go_enter Tryz.func48, Tryz.ntmps48
  go_wp2
  rw [← HWe.out]
  go_loop [3, 4] (fun tn ti => ∃ k : Nat, ti = .int .i64 (k : Int) ∧ k ≤ P.stmts.length ∧ tn = .int .i64 ((P.vars.length + P.newsN k : Nat) : Int)) (fun _ ti => P.stmts.length - (intOf ti).toNat)
  case atStart => exact ⟨0, rfl, Nat.zero_le _, rfl⟩
  case round =>
    obtain ⟨k, rfl, hk, rfl⟩ := hrel
    have Hle := hid (P.newsN_le k)
    have Hsu := hid (P.newsN_succ k)
    by_cases hlt : k < P.stmts.length
    · obtain ⟨yk, x, av, cv, hyk, hxk, e0, e1, e2, e3, _⟩ := HP.out.stmts.at (show k < P.stmts.length by omega)
      first | subst hyk | (obtain rfl := Option.some.inj hyk)
      have hnw := isNew_at hxk
      have hcn : ((P.vars.length + P.newsN k : Nat) : Int) ≤ 100000 := by have := Hle.out; omega
      cases hb : (x.kind.toList == [110, 101, 119]) with
      | true =>
        have Hn2 := hid (show P.newsN (k + 1) = P.newsN k + 1 by rw [Hsu.out, hnw.trans hb]; rfl)
        clear hxk hnw
        generalize P.newsN k = m at *
        go_wp2
        refine ⟨⟨k + 1, by go_num, by omega, ?_⟩, by simp [intOf]; omega⟩
        rw [Hn2.out]
        go_num
      | false =>
        have Hn2 := hid (show P.newsN (k + 1) = P.newsN k by rw [Hsu.out, hnw.trans hb]; rfl)
        clear hxk hnw
        go_wp2
        refine ⟨⟨k + 1, by go_num, by omega, ?_⟩, by simp [intOf]; omega⟩
        rw [Hn2.out]
    · obtain rfl : k = P.stmts.length := by omega
      go_wp2
      go_ret
      exact ⟨rfl, HX.out⟩
set_option maxRecDepth 100000 in
set_option maxHeartbeats 3200000 in
theorem rplaceof_any (a1 a2 a3 : Option Addr) (c1 c2 c3 : Nat) (P : PP) (p : Int) (w : World) (n0 : Nat) (h : ProgR w n0 (.slice a1 P.vars.length c1) (.slice a2 P.funs.length c2) (.slice a3 P.stmts.length c3) P) (hv : P.vars.length ≤ 1000) (hs : P.stmts.length ≤ 1000) :
    Calls Tryz.prog 110 #[pval a1 a2 a3 c1 c2 c3 P, .int .i64 p] w fun e w' => e = .returned (.int .i64 (P.placeV p)) ∧ Ext w w' := by
  have HP0 := hid h
  have hml1 : (P.vars.length : Int) ≤ 1000 := by omega
  obtain ⟨W, hW⟩ : ∃ W, W = w.alloc (.cells (pcells a1 a2 a3 c1 c2 c3 P) 26) := ⟨_, rfl⟩
  have HX : Hid (Ext w W) := hid (by rw [hW]; exact (Ext.refl _).alloc _)
  have hB : Blk W w.heap.size (pcells a1 a2 a3 c1 c2 c3 P) 26 := by rw [hW]; exact Blk.new _ _ _
  have HP := hid (h.ext HX.out)
  have d0 := hB.av 0 rfl
  have d2 := hB.av 2 rfl
  simp only [pcells, List.getElem_toArray, List.getElem_cons_zero, List.getElem_cons_succ] at d0 d2
  unfold pcells at hW
  have HWe := hid hW
  unfold pval
  clear hW hB h
  go_enter Tryz.func110, Tryz.ntmps110
  by_cases h1 : p < 0
  · have Hr := hid (show P.placeV p = -1 by unfold PP.placeV; rw [if_neg (by omega)])
    go_wp2
    go_ret
    exact ⟨by rw [Hr.out]; rfl, (Ext.refl w).alloc _⟩
  · obtain ⟨K, rfl⟩ := Int.eq_ofNat_of_zero_le (show 0 ≤ p by omega)
    by_cases h2 : K < P.stmts.length
    · obtain ⟨y, x, av, cv, rfl, hxk, e0, e1, e2, e3, _⟩ := HP.out.stmts.at h2
      have hnw := isNew_at hxk
      cases hb : (x.kind.toList == [110, 101, 119]) with
      | true =>
        have Hr := hid (show P.placeV (K : Int) = ((P.vars.length + P.newsN K : Nat) : Int) by unfold PP.placeV; rw [if_pos ⟨by omega, by omega, by rw [Int.toNat_natCast]; exact hnw.trans hb⟩, Int.toNat_natCast])
        rw [Hr.out]
        rw [HWe.out] at e0
        clear hnw hxk e1 e2 e3
        go_wp2
        rw [← HWe.out]
        clear e0 hb
        go_loop [5, 6] (fun tn ti => ∃ k : Nat, ti = .int .i64 (k : Int) ∧ k ≤ K ∧ tn = .int .i64 ((P.vars.length + P.newsN k : Nat) : Int)) (fun _ ti => K - (intOf ti).toNat)
        case atStart => exact ⟨0, rfl, Nat.zero_le _, rfl⟩
        case round =>
          obtain ⟨k, rfl, hk, rfl⟩ := hrel
          have Hle := hid (P.newsN_le k)
          have Hsu := hid (P.newsN_succ k)
          by_cases hlt : k < K
          · obtain ⟨yk, x, av, cv, hyk, hxk, e0, e1, e2, e3, _⟩ := HP.out.stmts.at (show k < P.stmts.length by omega)
            first | subst hyk | (obtain rfl := Option.some.inj hyk)
            have hnw := isNew_at hxk
            have hcn : ((P.vars.length + P.newsN k : Nat) : Int) ≤ 100000 := by have := Hle.out; omega
            cases hb : (x.kind.toList == [110, 101, 119]) with
            | true =>
              have Hn2 := hid (show P.newsN (k + 1) = P.newsN k + 1 by rw [Hsu.out, hnw.trans hb]; rfl)
              clear hxk hnw
              generalize P.newsN k = m at *
              go_wp2
              refine ⟨⟨k + 1, by go_num, by omega, ?_⟩, by simp [intOf]; omega⟩
              rw [Hn2.out]
              go_num
            | false =>
              have Hn2 := hid (show P.newsN (k + 1) = P.newsN k by rw [Hsu.out, hnw.trans hb]; rfl)
              clear hxk hnw
              go_wp2
              refine ⟨⟨k + 1, by go_num, by omega, ?_⟩, by simp [intOf]; omega⟩
              rw [Hn2.out]
          · obtain rfl : k = K := by omega
            go_wp2
            go_ret
            exact ⟨rfl, HX.out⟩
      | false =>
        have Hr := hid (show P.placeV (K : Int) = -1 by unfold PP.placeV; rw [if_neg (by rw [Int.toNat_natCast, show P.isNew K = false from hnw.trans hb]; simp)])
        rw [HWe.out] at e0
        clear hnw hxk e1 e2 e3
        go_wp2
        go_ret
        exact ⟨by rw [Hr.out]; rfl, (Ext.refl w).alloc _⟩
    · have Hr := hid (show P.placeV (K : Int) = -1 by unfold PP.placeV; rw [if_neg (by omega)])
      go_wp2
      go_ret
      exact ⟨by rw [Hr.out]; rfl, (Ext.refl w).alloc _⟩
end Go.Proofs.YtdppgcbekhabnaaGreatDoor



/- prog.Place and prog.Nodes. -/
namespace Go.Proofs.YtdppgcbekhabnaaGreatDoor
set_option linter.unusedSimpArgs false
set_option linter.unusedVariables false
open Go Go.RowKit

set_option maxRecDepth 100000 in
set_option maxHeartbeats 3200000 in
theorem prognodes2_any (a1 a2 a3 : Option Addr) (c1 c2 c3 : Nat) (P : PP) (w : World) (n0 : Nat) (h : ProgR w n0 (.slice a1 P.vars.length c1) (.slice a2 P.funs.length c2) (.slice a3 P.stmts.length c3) P) (hv : P.vars.length ≤ 1000) (hs : P.stmts.length ≤ 1000) :
    Calls Tryz.prog 66 #[pval a1 a2 a3 c1 c2 c3 P] w fun e w' => e = .returned (.int .i64 (P.nodesV : Int)) ∧ Ext w w' := by
  have HP0 := hid h
  have hml1 : (P.vars.length : Int) ≤ 1000 := by omega
  obtain ⟨W, hW⟩ : ∃ W, W = w.alloc (.cells (pcells a1 a2 a3 c1 c2 c3 P) 26) := ⟨_, rfl⟩
  have HX : Hid (Ext w W) := hid (by rw [hW]; exact (Ext.refl _).alloc _)
  have hB : Blk W w.heap.size (pcells a1 a2 a3 c1 c2 c3 P) 26 := by rw [hW]; exact Blk.new _ _ _
  have HP := hid (h.ext HX.out)
  have d0 := hB.av 0 rfl
  have d2 := hB.av 2 rfl
  simp only [pcells, List.getElem_toArray, List.getElem_cons_zero, List.getElem_cons_succ] at d0 d2
  unfold pcells at hW
  have HWe := hid hW
  unfold pval
  clear hW hB h
  go_enter Tryz.func66, Tryz.ntmps66
  go_wp2
  rw [← HWe.out]
  go_loopw [3, 12] (fun tn ti wr => ∃ k : Nat, ti = .int .i64 (k : Int) ∧ k ≤ P.stmts.length ∧ tn = .int .i64 ((P.vars.length + P.newsN k : Nat) : Int) ∧ Ext W wr) (fun _ ti _ => P.stmts.length - (intOf ti).toNat)
  case atStart => exact ⟨0, rfl, Nat.zero_le _, rfl, Ext.refl _⟩
  case round =>
    obtain ⟨k, rfl, hk, rfl, hx⟩ := hrel
    have Hx := hid hx
    clear hx
    have Hle := hid (P.newsN_le k)
    have Hsu := hid (P.newsN_succ k)
    by_cases hlt : k < P.stmts.length
    · obtain ⟨yk, x, av, cv, hyk, hxk, e0, e1, e2, e3, _⟩ := (HP0.out.ext ((HX).out.trans Hx.out)).stmts.at (show k < P.stmts.length by omega)
      first | subst hyk | (obtain rfl := Option.some.inj hyk)
      have hnw := isNew_at hxk
      have hcn : ((P.vars.length + P.newsN k : Nat) : Int) ≤ 100000 := by have := Hle.out; omega
      cases hb : (x.kind.toList == [110, 101, 119]) with
      | true =>
        have Hn2 := hid (show P.newsN (k + 1) = P.newsN k + 1 by rw [Hsu.out, hnw.trans hb]; rfl)
        clear hxk hnw
        generalize P.newsN k = m at *
        go_wp2
        go_roundw
        case rel => exact ⟨k + 1, by go_num, by omega, by rw [Hn2.out]; go_num, Hx.out.alloc _⟩
        case measure => simp [intOf]; omega
      | false =>
        have Hn2 := hid (show P.newsN (k + 1) = P.newsN k by rw [Hsu.out, hnw.trans hb]; rfl)
        clear hxk hnw
        go_wp2
        go_roundw
        case rel => exact ⟨k + 1, by go_num, by omega, by rw [Hn2.out], Hx.out.alloc _⟩
        case measure => simp [intOf]; omega
    · obtain rfl : k = P.stmts.length := by omega
      go_wp2
      go_ret
      exact ⟨rfl, HX.out.trans Hx.out⟩
/-- A program that is well. -/
def PP.Well (P : PP) : Prop := P.err1 = 0 ∧ P.allWell
theorem PP.Well.few {P : PP} (h : P.Well) : P.vars.length ≤ 40 ∧ P.funs.length ≤ 6 ∧ P.stmts.length ≤ 80 := by
  have h1 := h.1
  unfold PP.err1 at h1
  cases hb : P.big with
  | true => rw [hb] at h1; simp at h1
  | false => unfold PP.big at hb; simp at hb; omega
theorem check_well {a1 a2 a3 : Option Addr} {c1 c2 c3 : Nat} {P : PP} {w : World} {n0 : Nat} {ad : Nat → Addr} (hE : ErrsP w ad) (h : ProgR w n0 (.slice a1 P.vars.length c1) (.slice a2 P.funs.length c2) (.slice a3 P.stmts.length c3) P)
    (hz1 : ∀ s ∈ P.vars, s.size ≤ 1000000) (hz2 : ∀ s ∈ P.names, s.size ≤ 1000000) (hw : P.Well) :
    Calls Tryz.prog 29 #[pval a1 a2 a3 c1 c2 c3 P] w fun e w' => e = .returned .nilIface ∧ Ext w w' := by
  have hml : (P.vars.length : Int) ≤ 9223372036854775807 := by have := hw.few; omega
  refine (pcheck_any a1 a2 a3 c1 c2 c3 P w n0 ad hE h hz1 hz2 hml).mono fun e w' ⟨v, he, hi, hx⟩ => ⟨?_, hx⟩
  rcases hi.form with ⟨rfl, _⟩ | ⟨_, hn⟩
  · exact he
  · exact absurd hw hn
set_option maxRecDepth 100000 in
set_option maxHeartbeats 3200000 in
theorem prognodes_any (a1 a2 a3 : Option Addr) (c1 c2 c3 : Nat) (P : PP) (w : World) (n0 : Nat) (ad : Nat → Addr) (hE : ErrsP w ad) (h : ProgR w n0 (.slice a1 P.vars.length c1) (.slice a2 P.funs.length c2) (.slice a3 P.stmts.length c3) P)
    (hz1 : ∀ s ∈ P.vars, s.size ≤ 1000000) (hz2 : ∀ s ∈ P.names, s.size ≤ 1000000) (hw : P.Well) :
    Calls Tryz.prog 38 #[pval a1 a2 a3 c1 c2 c3 P] w fun e w' => e = .returned (.int .i64 (P.nodesV : Int)) ∧ Ext w w' := by
  have HP00 := hid h
  have hv := hw.few
  obtain ⟨hv1, hv2, hv3⟩ := hv
  have hv : P.vars.length ≤ 1000 := by omega
  have hs : P.stmts.length ≤ 1000 := by omega
  have HP0 := hid h
  have hml1 : (P.vars.length : Int) ≤ 1000 := by omega
  obtain ⟨W, hW⟩ : ∃ W, W = w.alloc (.cells (pcells a1 a2 a3 c1 c2 c3 P) 26) := ⟨_, rfl⟩
  have HX : Hid (Ext w W) := hid (by rw [hW]; exact (Ext.refl _).alloc _)
  have hB : Blk W w.heap.size (pcells a1 a2 a3 c1 c2 c3 P) 26 := by rw [hW]; exact Blk.new _ _ _
  have HP := hid (h.ext HX.out)
  have d0 := hB.av 0 rfl
  have d2 := hB.av 2 rfl
  simp only [pcells, List.getElem_toArray, List.getElem_cons_zero, List.getElem_cons_succ] at d0 d2
  unfold pcells at hW
  have HWe := hid hW
  unfold pval
  clear hW hB h
  have HK := hid (check_well (hE.ext HX.out) HP.out hz1 hz2 hw)
  unfold pval at HK
  have HBx := hid (show Blk W w.heap.size (pcells a1 a2 a3 c1 c2 c3 P) 26 by rw [HWe.out]; exact Blk.new _ _ _)
  have HN := fun w1 (x : Ext w w1) => hid (prognodes2_any a1 a2 a3 c1 c2 c3 P w1 n0 (HP0.out.ext x) hv hs)
  unfold pval at HN
  clear d0 d2
  go_enter Tryz.func38, Tryz.ntmps38
  go_wp2_with fail
  rw [← HWe.out]
  refine HK.out.mono ?_
  intro e w1 hx
  obtain ⟨rfl, hx1⟩ := hx
  have HX1 := hid (HX.out.trans hx1)
  have d0 := (HBx.out.ext hx1).av 0 rfl
  have d1 := (HBx.out.ext hx1).av 1 rfl
  have d2 := (HBx.out.ext hx1).av 2 rfl
  simp only [pcells, List.getElem_toArray, List.getElem_cons_zero, List.getElem_cons_succ] at d0 d1 d2
  clear HK hx1
  go_wp2_with fail
  refine (HN w1 HX1.out).out.mono ?_
  intro e w2 hx
  obtain ⟨rfl, hx2⟩ := hx
  clear HN d0 d1 d2
  go_wp2
  go_ret
  exact ⟨rfl, HX1.out.trans hx2⟩
set_option maxRecDepth 100000 in
set_option maxHeartbeats 3200000 in
theorem progplace_any (a1 a2 a3 : Option Addr) (c1 c2 c3 : Nat) (P : PP) (p : Int) (w : World) (n0 : Nat) (ad : Nat → Addr) (hE : ErrsP w ad) (h : ProgR w n0 (.slice a1 P.vars.length c1) (.slice a2 P.funs.length c2) (.slice a3 P.stmts.length c3) P)
    (hz1 : ∀ s ∈ P.vars, s.size ≤ 1000000) (hz2 : ∀ s ∈ P.names, s.size ≤ 1000000) (hw : P.Well) :
    Calls Tryz.prog 101 #[pval a1 a2 a3 c1 c2 c3 P, .int .i64 p] w fun e w' => e = .returned (.int .i64 (P.placeV p)) ∧ Ext w w' := by
  have hc3 : P.stmts.length ≤ c3 := by
    obtain ⟨_, _, e, h2, _⟩ := h.stmts
    simp only [Value.slice.injEq] at e
    obtain ⟨_, _, rfl⟩ := e
    exact h2
  have HP00 := hid h
  have hv := hw.few
  obtain ⟨hv1, hv2, hv3⟩ := hv
  have hv : P.vars.length ≤ 1000 := by omega
  have hs : P.stmts.length ≤ 1000 := by omega
  have HP0 := hid h
  have hml1 : (P.vars.length : Int) ≤ 1000 := by omega
  obtain ⟨W, hW⟩ : ∃ W, W = w.alloc (.cells (pcells a1 a2 a3 c1 c2 c3 P) 26) := ⟨_, rfl⟩
  have HX : Hid (Ext w W) := hid (by rw [hW]; exact (Ext.refl _).alloc _)
  have hB : Blk W w.heap.size (pcells a1 a2 a3 c1 c2 c3 P) 26 := by rw [hW]; exact Blk.new _ _ _
  have HP := hid (h.ext HX.out)
  have d0 := hB.av 0 rfl
  have d2 := hB.av 2 rfl
  simp only [pcells, List.getElem_toArray, List.getElem_cons_zero, List.getElem_cons_succ] at d0 d2
  unfold pcells at hW
  have HWe := hid hW
  unfold pval
  clear hW hB h
  have HK := hid (check_well (hE.ext HX.out) HP.out hz1 hz2 hw)
  unfold pval at HK
  have HBx := hid (show Blk W w.heap.size (pcells a1 a2 a3 c1 c2 c3 P) 26 by rw [HWe.out]; exact Blk.new _ _ _)
  clear d0 d2
  go_enter Tryz.func101, Tryz.ntmps101
  go_wp2_with fail
  rw [← HWe.out]
  refine HK.out.mono ?_
  intro e w1 hx
  obtain ⟨rfl, hx1⟩ := hx
  have HX1 := hid (HX.out.trans hx1)
  have d0 := (HBx.out.ext hx1).av 0 rfl
  have d1 := (HBx.out.ext hx1).av 1 rfl
  have d2 := (HBx.out.ext hx1).av 2 rfl
  simp only [pcells, List.getElem_toArray, List.getElem_cons_zero, List.getElem_cons_succ] at d0 d1 d2
  clear HK hx1
  by_cases h1 : p < 0
  · have Hr := hid (show PP.placeV P p = -1 by unfold PP.placeV; rw [if_neg (by omega)])
    go_wp2
    go_ret
    exact ⟨by rw [Hr.out]; rfl, HX1.out⟩
  · obtain ⟨K, rfl⟩ := Int.eq_ofNat_of_zero_le (show 0 ≤ p by omega)
    by_cases h2 : K < P.stmts.length
    · obtain ⟨y, x, av, cv, rfl, hxk, e0, e1, e2, e3, _⟩ := (HP0.out.ext HX1.out).stmts.at h2
      have hnw := isNew_at hxk
      have hKc : K ≤ c3 := by omega
      cases hb : (x.kind.toList == [110, 101, 119]) with
      | true =>
        have Hr := hid (show P.placeV (K : Int) = ((P.vars.length + P.newsN K : Nat) : Int) by unfold PP.placeV; rw [if_pos ⟨by omega, by omega, by rw [Int.toNat_natCast]; exact hnw.trans hb⟩, Int.toNat_natCast])
        clear hnw hxk e1 e2 e3
        go_wp2
        clear e0 hb
        go_loopw [5, 39] (fun tn ti wr => ∃ k : Nat, ti = .int .i64 (k : Int) ∧ k ≤ K ∧ tn = .int .i64 ((P.vars.length + P.newsN k : Nat) : Int) ∧ Ext w1 wr) (fun _ ti _ => K - (intOf ti).toNat)
        case atStart => exact ⟨0, rfl, Nat.zero_le _, rfl, Ext.refl _⟩
        case round =>
          obtain ⟨k, rfl, hk, rfl, hx⟩ := hrel
          have Hx := hid hx
          clear hx
          have Hle := hid (P.newsN_le k)
          have Hsu := hid (P.newsN_succ k)
          by_cases hlt : k < K
          · obtain ⟨yk, x, av, cv, hyk, hxk, e0, e1, e2, e3, _⟩ := (HP0.out.ext ((HX1).out.trans Hx.out)).stmts.at (show k < P.stmts.length by omega)
            first | subst hyk | (obtain rfl := Option.some.inj hyk)
            have hnw := isNew_at hxk
            have hcn : ((P.vars.length + P.newsN k : Nat) : Int) ≤ 100000 := by have := Hle.out; omega
            cases hb : (x.kind.toList == [110, 101, 119]) with
            | true =>
              have Hn2 := hid (show P.newsN (k + 1) = P.newsN k + 1 by rw [Hsu.out, hnw.trans hb]; rfl)
              clear hxk hnw
              generalize P.newsN k = m at *
              go_wp2
              go_roundw
              case rel => exact ⟨k + 1, by go_num, by omega, by rw [Hn2.out]; go_num, Hx.out.alloc _⟩
              case measure => simp [intOf]; omega
            | false =>
              have Hn2 := hid (show P.newsN (k + 1) = P.newsN k by rw [Hsu.out, hnw.trans hb]; rfl)
              clear hxk hnw
              go_wp2
              go_roundw
              case rel => exact ⟨k + 1, by go_num, by omega, by rw [Hn2.out], Hx.out.alloc _⟩
              case measure => simp [intOf]; omega
          · obtain rfl : k = K := by omega
            go_wp2
            go_ret
            exact ⟨by rw [Hr.out]; rfl, HX1.out.trans Hx.out⟩
      | false =>
        have hno : ¬ (0 ≤ (K : Int) ∧ (K : Int) < P.stmts.length ∧ P.isNew (K : Int).toNat = true) := by rw [Int.toNat_natCast, show P.isNew K = false from hnw.trans hb]; simp
        have Hno := hid hno
        clear hno hnw hxk e1 e2 e3
        have Hr := hid (show PP.placeV P (K : Int) = -1 by unfold PP.placeV; rw [if_neg (Hno.out)])
        go_wp2
        go_ret
        exact ⟨by rw [Hr.out]; rfl, HX1.out⟩
    · have Hr := hid (show PP.placeV P (K : Int) = -1 by unfold PP.placeV; rw [if_neg (by omega)])
      go_wp2
      go_ret
      exact ⟨by rw [Hr.out]; rfl, HX1.out⟩
end Go.Proofs.YtdppgcbekhabnaaGreatDoor



/- Sets, plainly: numbers that rise. -/
namespace Go.Proofs.YtdppgcbekhabnaaGreatDoor
set_option linter.unusedSimpArgs false
set_option linter.unusedVariables false

/-- All of a list are from 0 to below 1000. -/
def InR (l : List Int) : Prop := ∀ x ∈ l, 0 ≤ x ∧ x < 1000
/-- A list that rises. -/
abbrev Srt (l : List Int) : Prop := l.Pairwise (· < ·)
/-- The set of a list's numbers. -/
def sset (l : List Int) : List Int := (((List.range 1000).filter fun n : Nat => decide ((n : Int) ∈ l)) : List Nat).map fun n : Nat => (n : Int)
/-- What a set's check tells: 0, or an error's number. -/
def chkE (l : List Int) : Nat := if l.all (fun x => decide (0 ≤ x ∧ x < 1000)) then (if decide (Srt l) then 0 else 10) else 2

theorem Srt.tail {x : Int} {l : List Int} (h : Srt (x :: l)) : Srt l := (List.pairwise_cons.1 h).2
theorem Srt.head {x : Int} {l : List Int} (h : Srt (x :: l)) : ∀ y ∈ l, x < y := (List.pairwise_cons.1 h).1
theorem srt_uniq : ∀ {a b : List Int}, Srt a → Srt b → (∀ x, x ∈ a ↔ x ∈ b) → a = b
  | [], [], _, _, _ => rfl
  | [], y :: b, _, _, h => absurd ((h y).2 (List.mem_cons_self ..)) (List.not_mem_nil)
  | x :: a, [], _, _, h => absurd ((h x).1 (List.mem_cons_self ..)) (List.not_mem_nil)
  | x :: a, y :: b, ha, hb, h => by
    have hxy : x = y := by
      have h1 : x ∈ y :: b := (h x).1 (List.mem_cons_self ..)
      have h2 : y ∈ x :: a := (h y).2 (List.mem_cons_self ..)
      rcases List.mem_cons.1 h1 with e | e
      · exact e
      · rcases List.mem_cons.1 h2 with f | f
        · exact f.symm
        · have := hb.head x e; have := ha.head y f; omega
    subst hxy
    congr 1
    refine srt_uniq ha.tail hb.tail fun z => ⟨fun hz => ?_, fun hz => ?_⟩
    · rcases List.mem_cons.1 ((h z).1 (List.mem_cons_of_mem _ hz)) with e | e
      · have := ha.head z hz; omega
      · exact e
    · rcases List.mem_cons.1 ((h z).2 (List.mem_cons_of_mem _ hz)) with e | e
      · have := hb.head z hz; omega
      · exact e
theorem sset_srt (l : List Int) : Srt (sset l) := by
  unfold sset Srt
  rw [List.pairwise_map]
  refine List.Pairwise.imp (R := (· < ·)) (fun h => by omega) ?_
  exact List.Pairwise.sublist List.filter_sublist (List.pairwise_lt_range (n := 1000))
theorem mem_sset0 {l : List Int} {x : Int} : x ∈ sset l ↔ x ∈ l ∧ 0 ≤ x ∧ x < 1000 := by
  unfold sset
  rw [List.mem_map]
  constructor
  · rintro ⟨n, hn, rfl⟩
    obtain ⟨h1, h2⟩ := List.mem_filter.1 hn
    have := List.mem_range.1 h1
    exact ⟨of_decide_eq_true h2, by omega, by omega⟩
  · rintro ⟨h, h0, h1⟩
    refine ⟨x.toNat, List.mem_filter.2 ⟨List.mem_range.2 (by omega), ?_⟩, by omega⟩
    rw [Int.toNat_of_nonneg h0]
    exact decide_eq_true h
theorem mem_sset {l : List Int} (hl : InR l) {x : Int} : x ∈ sset l ↔ x ∈ l := ⟨fun h => (mem_sset0.1 h).1, fun h => mem_sset0.2 ⟨h, hl x h⟩⟩
theorem sset_in (l : List Int) : InR (sset l) := fun _ h => (mem_sset0.1 h).2
theorem InR.app {a b : List Int} (ha : InR a) (hb : InR b) : InR (a ++ b) := fun x h => (List.mem_append.1 h).elim (ha x) (hb x)
theorem InR.filter {a : List Int} (ha : InR a) (p : Int → Bool) : InR (a.filter p) := fun x h => ha x (List.mem_filter.1 h).1
theorem Srt.filter {a : List Int} (ha : Srt a) (p : Int → Bool) : Srt (a.filter p) := List.Pairwise.sublist List.filter_sublist ha
theorem sset_self {l : List Int} (h : Srt l) (hl : InR l) : sset l = l := srt_uniq (sset_srt l) h fun _ => mem_sset hl
theorem chkE_zero {l : List Int} : chkE l = 0 ↔ InR l ∧ Srt l := by
  unfold chkE
  by_cases h1 : l.all (fun x => decide (0 ≤ x ∧ x < 1000)) = true
  · rw [if_pos h1]
    have hin : InR l := fun x hx => of_decide_eq_true (List.all_eq_true.1 h1 x hx)
    by_cases h2 : Srt l
    · rw [decide_eq_true h2, if_pos rfl]; exact ⟨fun _ => ⟨hin, h2⟩, fun _ => rfl⟩
    · rw [decide_eq_false h2, if_neg (by decide)]; exact ⟨fun h => absurd h (by decide), fun h => absurd h.2 h2⟩
  · rw [if_neg h1]
    exact ⟨fun h => absurd h (by decide), fun h => absurd (List.all_eq_true.2 fun x hx => decide_eq_true (h.1 x hx)) h1⟩
theorem chkE_sset (l : List Int) : chkE (sset l) = 0 := chkE_zero.2 ⟨sset_in l, sset_srt l⟩

/-- What rises from place to place rises. -/
theorem srt_adj : ∀ {l : List Int}, (∀ k, k + 1 < l.length → l.getD k 0 < l.getD (k + 1) 0) → Srt l
  | [], _ => List.Pairwise.nil
  | [x], _ => List.pairwise_singleton _ _
  | x :: y :: l, h => by
    have ht : Srt (y :: l) := srt_adj fun k hk => by
      have := h (k + 1) (by simpa using hk)
      simpa using this
    have hxy : x < y := by simpa using h 0 (by simp)
    refine List.pairwise_cons.2 ⟨fun z hz => ?_, ht⟩
    rcases List.mem_cons.1 hz with rfl | hz
    · exact hxy
    · have := ht.head z hz; omega
theorem adj_srt {l : List Int} (h : Srt l) (k : Nat) (hk : k + 1 < l.length) : l.getD k 0 < l.getD (k + 1) 0 := by
  rw [List.getD_eq_getElem?_getD, List.getD_eq_getElem?_getD, List.getElem?_eq_getElem (by omega), List.getElem?_eq_getElem hk]
  exact List.pairwise_iff_getElem.1 h k (k + 1) (by omega) hk (by omega)
theorem chkE_two {l : List Int} {x : Int} (hx : x ∈ l) (h : ¬ (0 ≤ x ∧ x < 1000)) : chkE l = 2 := by
  unfold chkE
  rw [if_neg]
  intro ha
  exact h (of_decide_eq_true (List.all_eq_true.1 ha x hx))
theorem chkE_in {l : List Int} (h : InR l) : chkE l = if decide (Srt l) then 0 else 10 := by
  unfold chkE
  rw [if_pos (List.all_eq_true.2 fun x hx => decide_eq_true (h x hx))]
theorem chkE_ten {l : List Int} (h : InR l) {k : Nat} (hk : k + 1 < l.length) (hb : l.getD (k + 1) 0 ≤ l.getD k 0) : chkE l = 10 := by
  rw [chkE_in h, decide_eq_false (fun hs => by have := adj_srt hs k hk; omega)]; rfl
theorem chkE_ok {l : List Int} (h : InR l) (hk : ∀ k, k + 1 < l.length → l.getD k 0 < l.getD (k + 1) 0) : chkE l = 0 := chkE_zero.2 ⟨h, srt_adj hk⟩
end Go.Proofs.YtdppgcbekhabnaaGreatDoor



/- Rows of numbers whose cells are put anew: sorted, compacted. -/
namespace Go.Proofs.YtdppgcbekhabnaaGreatDoor
set_option linter.unusedSimpArgs false
set_option linter.unusedVariables false
open Go Go.RowKit Go.Sort

theorem IRow.cur {base : Nat} {w : World} {g n cap : Nat} {l : List Int} (h : IRow base w (.slice (some ⟨g, 0, none⟩) n cap) l) : n = l.length ∧ base ≤ g ∧ l.length ≤ cap ∧ cap ≤ maxLen ∧ ∃ cur, Blk w g cur 3 ∧ cur.size = cap ∧ cur.toList.take l.length = icells l := by
  rcases h.2 with ⟨h1, _⟩ | ⟨g', cap', cur, h1, h2, h3, h4, h5, h6, h7⟩
  · simp at h1
  · simp only [Value.slice.injEq, Option.some.injEq, Addr.mk.injEq, and_true] at h1
    obtain ⟨rfl, rfl, rfl⟩ := h1
    exact ⟨rfl, h2, h4, h5, cur, h3, by omega, by simpa using h7⟩
theorem IRow.holds {base : Nat} {w : World} {g n cap : Nat} {l : List Int} (h : IRow base w (.slice (some ⟨g, 0, none⟩) n cap) l) : Holds (Value.int .i64) w g 0 l.toArray := by
  obtain ⟨rfl, _⟩ := h.cur
  intro j hj
  have hj' : j < l.length := by simpa using hj
  rw [Nat.zero_add]
  refine ⟨?_, own_free h j⟩
  rw [own_get h j (u := .int .i64 (l[j]'hj')) (by unfold icells; rw [List.getElem?_map, List.getElem?_eq_getElem hj']; rfl)]
  simp [getElem!_pos, hj']
theorem put_at {w : World} {g q : Nat} {cur : Array Value} {t : TypeId} {ys : List Int} {os : Array Obj} (hb : Blk w g cur t) :
    Blk (grow (putRow (Value.int .i64) (Sort.ahead w q) g 0 ys.toArray) os) g (putCells (Value.int .i64) 0 ys.toArray cur) t ∧ Keep (fun b => b = g) w (grow (putRow (Value.int .i64) (Sort.ahead w q) g 0 ys.toArray) os) := by
  have hlt := hb.lt
  have hh : ∀ k, k < w.heap.size → (grow (putRow (Value.int .i64) (Sort.ahead w q) g 0 ys.toArray) os).heap[k]? = (w.heap.modify g (onCells (putCells (Value.int .i64) 0 ys.toArray)))[k]? := fun k hk => by
    unfold grow putRow mapBlock Sort.ahead
    simp only
    rw [Array.getElem?_append_left (by simpa using hk)]
  constructor
  · unfold Blk
    rw [hh g hlt, Array.getElem?_modify, if_pos rfl]
    have : w.heap[g]? = some (.cells cur t (0, 0)) := hb
    rw [this]
    rfl
  · refine ⟨rfl, rfl, rfl, ?_, fun k hk hx => ?_⟩
    · unfold grow putRow mapBlock Sort.ahead
      simp
    · rw [hh k hk, Array.getElem?_modify, if_neg (fun e => hx e.symm)]
theorem put_cells (ys : List Int) (cur : Array Value) (k : Nat) (hk : k ≤ ys.length) (hc : ys.length ≤ cur.size) : (putCells (Value.int .i64) 0 ys.toArray cur).toList.take k = icells (ys.take k) := by
  apply List.ext_getElem?
  intro i
  rw [List.getElem?_take]
  unfold icells
  rw [List.getElem?_map, List.getElem?_take]
  by_cases hi : i < k
  · rw [if_pos hi, if_pos hi, Array.getElem?_toList]
    unfold putCells
    rw [Array.getElem?_mapIdx, Array.getElem?_eq_getElem (by omega), List.getElem?_eq_getElem (by omega)]
    simp only [Option.map_some, Nat.zero_le, true_and, Nat.zero_add, List.size_toArray, Nat.sub_zero]
    rw [if_pos (by omega)]
    congr 1
    simp [getElem!_pos, show i < ys.length by omega]
  · rw [if_neg hi, if_neg hi]; rfl
/-- A row whose cells are put anew, and that is cut. -/
theorem IRow.put {base : Nat} {w : World} {g n cap q : Nat} {zs ys : List Int} {os : Array Obj} (h : IRow base w (.slice (some ⟨g, 0, none⟩) n cap) zs) (hy : ys.length = zs.length) (k : Nat) (hk : k ≤ ys.length) :
    IRow base (grow (putRow (Value.int .i64) (Sort.ahead w q) g 0 ys.toArray) os) (.slice (some ⟨g, 0, none⟩) k cap) (ys.take k) ∧ Keep (fun b => b = g) w (grow (putRow (Value.int .i64) (Sort.ahead w q) g 0 ys.toArray) os) := by
  obtain ⟨rfl, h1, h2, h3, cur, h4, h5, h6⟩ := h.cur
  obtain ⟨p1, p2⟩ := put_at (q := q) (ys := ys) (os := os) h4
  refine ⟨?_, p2⟩
  have hl : (ys.take k).length = k := by rw [List.length_take]; omega
  unfold IRow
  rw [hl]
  refine ⟨by simp [icells]; omega, .inr ⟨g, cap, _, rfl, h1, p1, by omega, h3, ?_, ?_⟩⟩
  · unfold putCells
    rw [Array.size_mapIdx]; omega
  · rw [Nat.mul_one]; exact put_cells ys cur k hk (by omega)
theorem IRow.case {base : Nat} {w : World} {v : Value} {l : List Int} (h : IRow base w v l) : (v = .slice none 0 0 ∧ l = []) ∨ ∃ g cap, v = .slice (some ⟨g, 0, none⟩) l.length cap := by
  rcases h.2 with ⟨h1, h2⟩ | ⟨g, cap, cur, h1, _⟩
  · exact .inl ⟨h1, List.eq_nil_of_length_eq_zero h2⟩
  · exact .inr ⟨g, cap, h1⟩
end Go.Proofs.YtdppgcbekhabnaaGreatDoor



/- Sets: a set's check, of one and of two. -/
namespace Go.Proofs.YtdppgcbekhabnaaGreatDoor
set_option linter.unusedSimpArgs false
set_option linter.unusedVariables false
open Go Go.RowKit

/-- The errors that sets tell. -/
structure ErrS (w : World) (ad : Nat → Addr) : Prop where
  at2 : w.cell? ⟨6, 0, none⟩ = some (evOf ad 2)
  at10 : w.cell? ⟨9, 0, none⟩ = some (evOf ad 10)
theorem ErrS.ext {w w' : World} {ad : Nat → Addr} (h : ErrS w ad) (x : Ext w w') : ErrS w' ad := ⟨x.cellx h.at2, x.cellx h.at10⟩

/-- What the check of two tells. -/
def bothE (a b : List Int) : Nat := if chkE a = 0 then chkE b else chkE a
end Go.Proofs.YtdppgcbekhabnaaGreatDoor

