/- Texts of one proof, put together: WE WF SP SB S1 VB Y1 Y2 SL S2 Y3 Y4 Y5 Y6 Y7 Y8 Y9 YA YP YQ. -/
import Derived.Test.YtngdpnlgnpdkcaaGreatDoorHCY01
import Derived.Test.YtngdpnlgnpdkcaaGreatDoorHCY02
import Derived.Lib.SlicesCompact
import Derived.Sort.Row
import Derived.Sort.Grow
import Derived.ProofKit
import Derived.OpenShut
import Derived.Lib.SmallJoins
import Derived.Deep.Slices
import Derived.Shelf.Strings.Trim
import Derived.Shelf.Small.Utf8
import Derived.Shelf.Small.Bits
import Derived.Shelf.Small.Strs
import Derived.Shelf.Small.Wraps
import Derived.Shelf.Strconv.Itoa0
import Derived.Shelf.Strings.Search1
import Derived.Shelf.Sort.Plain
import Derived.Shelf.Strings.Runes
import Derived.Shelf.Strings.AsciiSet
import Derived.Shelf.Bits.Mul64
import Derived.Shelf.Unicode.DecodeSlow
import Derived.Shelf.Unicode.DecodeAny
import Derived.Shelf.Slices.Clone
import Derived.Shelf.Slices.CompactI
import Derived.Shelf.Slices.SearchI
import Derived.Shelf.Slices.Delete
import Derived.Shelf.Slices.Cells
import Derived.Shelf.Slices.In.SortNone
import Derived.Shelf.SlicesE.Clone
import Derived.Test.YtngdpnlgnpdkcaaGreatDoorProg
import Derived.Lib.RowBridge
set_option linter.unusedSimpArgs false
set_option linter.unusedVariables false
namespace Go.Proofs.YtngdpnlgnpdkcaaGreatDoor
open Go Go.RowKit
def PP.newsN (P : PP) (k : Nat) : Nat := ((List.range k).filter P.isNew).length
theorem PP.newsN_succ (P : PP) (k : Nat) : P.newsN (k + 1) = P.newsN k + if P.isNew k then 1 else 0 := by
  unfold PP.newsN
  rw [List.range_succ, List.filter_append, List.length_append]
  congr 1
  by_cases h : P.isNew k <;> simp [h]
theorem PP.newsN_le (P : PP) (k : Nat) : P.newsN k ≤ k := by
  unfold PP.newsN
  have := List.length_filter_le P.isNew (List.range k)
  simpa using this
def PP.nodesV (P : PP) : Nat := P.vars.length + P.newsN P.stmts.length
def PP.placeV (P : PP) (k : Int) : Int := if 0 ≤ k ∧ k < P.stmts.length ∧ P.isNew k.toNat = true then ((P.vars.length + P.newsN k.toNat : Nat) : Int) else -1
theorem isNew_at {P : PP} {k : Nat} {x : PS} (h : P.stmts[k]? = some x) : P.isNew k = x.isK kNew := by unfold PP.isNew; rw [h]
set_option maxRecDepth 100000 in
set_option maxHeartbeats 3200000 in
theorem prognodes2_any (a1 a2 a3 : Option Addr) (c1 c2 c3 : Nat) (P : PP) (w : World) (n0 : Nat) (h : ProgR w n0 (.slice a1 P.vars.length c1) (.slice a2 P.funs.length c2) (.slice a3 P.stmts.length c3) P) (hv : P.vars.length ≤ 1000) (hs : P.stmts.length ≤ 1000) :
    Calls Tryz.prog 69 #[pval a1 a2 a3 c1 c2 c3 P] w fun e w' => e = .returned (.int .i64 (P.nodesV : Int)) ∧ Ext w w' := by
  have HP0 := hid h
  have hml1 : (P.vars.length : Int) ≤ 1000 := by omega
  obtain ⟨W, hW⟩ : ∃ W, W = w.alloc (.cells (pcells a1 a2 a3 c1 c2 c3 P) 26) := ⟨_, rfl⟩
  have HX : Hid (Ext w W) := hid (by rw [hW]; exact (Ext.refl _).alloc _)
  have hB : Blk W w.heap.size (pcells a1 a2 a3 c1 c2 c3 P) 26 := by rw [hW]; exact Blk.new _ _ _
  have HP := hid (h.ext HX.out)
  have d0 := hB.av 0 rfl
  have d2 := hB.av 2 rfl
  simp only [pcells, qA0, qA1, qA2] at d0 d2
  unfold pcells at hW
  have HWe := hid hW
  unfold pval
  clear hW hB h
  go_enter Tryz.func69, Tryz.ntmps69
  go_wp2
  rw [← HWe.out]
  go_loopw [3, 12] (fun tn ti wr => ∃ k : Nat, ti = .int .i64 (k : Int) ∧ k ≤ P.stmts.length ∧ tn = .int .i64 ((P.vars.length + P.newsN k : Nat) : Int) ∧ Ext W wr) (fun _ ti _ => P.stmts.length - (intOf ti).toNat)
  case atStart => exact ⟨0, rfl, Nat.zero_le _, rfl, Ext.refl _⟩
  case round =>
    obtain ⟨k, rfl, hk, rfl, hx⟩ := hrel
    have Hx := hid hx
    clear hx
    have Hle := hid (P.newsN_le k)
    have Hsu := hid (P.newsN_succ k)
    by_cases hlt : k < P.stmts.length
    · obtain ⟨yk, x, av, cv, hyk, hxk, e0, e1, e2, e3, _⟩ := (HP0.out.ext ((HX).out.trans Hx.out)).stmts.at (show k < P.stmts.length by omega)
      first | subst hyk | (obtain rfl := Option.some.inj hyk)
      have hnw := isNew_at hxk
      have hcn : ((P.vars.length + P.newsN k : Nat) : Int) ≤ 100000 := by have := Hle.out; omega
      cases hb : (x.kind.toList == [110, 101, 119]) with
      | true =>
        have Hn2 := hid (show P.newsN (k + 1) = P.newsN k + 1 by rw [Hsu.out, hnw.trans hb]; rfl)
        clear hxk hnw
        generalize P.newsN k = m at *
        go_wp2
        go_roundw
        case rel => exact ⟨k + 1, by go_num, by omega, by rw [Hn2.out]; go_num, Hx.out.alloc _⟩
        case measure => simp [intOf]; omega
      | false =>
        have Hn2 := hid (show P.newsN (k + 1) = P.newsN k by rw [Hsu.out, hnw.trans hb]; rfl)
        clear hxk hnw
        go_wp2
        go_roundw
        case rel => exact ⟨k + 1, by go_num, by omega, by rw [Hn2.out], Hx.out.alloc _⟩
        case measure => simp [intOf]; omega
    · obtain rfl : k = P.stmts.length := by omega
      go_wp2
      go_ret
      exact ⟨rfl, HX.out.trans Hx.out⟩
def PP.Well (P : PP) : Prop := P.err1 = 0 ∧ P.allWell
theorem PP.Well.few {P : PP} (h : P.Well) : P.vars.length ≤ 40 ∧ P.funs.length ≤ 6 ∧ P.stmts.length ≤ 80 := by
  have h1 := h.1
  unfold PP.err1 at h1
  cases hb : P.big with
  | true => rw [hb] at h1; simp at h1
  | false => unfold PP.big at hb; simp at hb; omega
theorem check_well {a1 a2 a3 : Option Addr} {c1 c2 c3 : Nat} {P : PP} {w : World} {n0 : Nat} {ad : Nat → Addr} (hE : ErrsP w ad) (h : ProgR w n0 (.slice a1 P.vars.length c1) (.slice a2 P.funs.length c2) (.slice a3 P.stmts.length c3) P)
    (hz1 : ∀ s ∈ P.vars, s.size ≤ 1000000) (hz2 : ∀ s ∈ P.names, s.size ≤ 1000000) (hw : P.Well) :
    Calls Tryz.prog 53 #[pval a1 a2 a3 c1 c2 c3 P] w fun e w' => e = .returned .nilIface ∧ Ext w w' := by
  have hml : (P.vars.length : Int) ≤ 9223372036854775807 := by have := hw.few; omega
  refine (pcheck_any a1 a2 a3 c1 c2 c3 P w n0 ad hE h hz1 hz2 hml).mono fun e w' ⟨v, he, hi, hx⟩ => ⟨?_, hx⟩
  rcases hi.form with ⟨rfl, _⟩ | ⟨_, hn⟩
  · exact he
  · exact absurd hw hn
set_option maxRecDepth 100000 in
set_option maxHeartbeats 3200000 in
theorem prognodes_any (a1 a2 a3 : Option Addr) (c1 c2 c3 : Nat) (P : PP) (w : World) (n0 : Nat) (ad : Nat → Addr) (hE : ErrsP w ad) (h : ProgR w n0 (.slice a1 P.vars.length c1) (.slice a2 P.funs.length c2) (.slice a3 P.stmts.length c3) P)
    (hz1 : ∀ s ∈ P.vars, s.size ≤ 1000000) (hz2 : ∀ s ∈ P.names, s.size ≤ 1000000) (hw : P.Well) :
    Calls Tryz.prog 49 #[pval a1 a2 a3 c1 c2 c3 P] w fun e w' => e = .returned (.int .i64 (P.nodesV : Int)) ∧ Ext w w' := by
  have HP00 := hid h
  have hv := hw.few
  obtain ⟨hv1, hv2, hv3⟩ := hv
  have hv : P.vars.length ≤ 1000 := by omega
  have hs : P.stmts.length ≤ 1000 := by omega
  have HP0 := hid h
  have hml1 : (P.vars.length : Int) ≤ 1000 := by omega
  obtain ⟨W, hW⟩ : ∃ W, W = w.alloc (.cells (pcells a1 a2 a3 c1 c2 c3 P) 26) := ⟨_, rfl⟩
  have HX : Hid (Ext w W) := hid (by rw [hW]; exact (Ext.refl _).alloc _)
  have hB : Blk W w.heap.size (pcells a1 a2 a3 c1 c2 c3 P) 26 := by rw [hW]; exact Blk.new _ _ _
  have HP := hid (h.ext HX.out)
  have d0 := hB.av 0 rfl
  have d2 := hB.av 2 rfl
  simp only [pcells, qA0, qA1, qA2] at d0 d2
  unfold pcells at hW
  have HWe := hid hW
  unfold pval
  clear hW hB h
  have HK := hid (check_well (hE.ext HX.out) HP.out hz1 hz2 hw)
  unfold pval at HK
  have HBx := hid (show Blk W w.heap.size (pcells a1 a2 a3 c1 c2 c3 P) 26 by rw [HWe.out]; exact Blk.new _ _ _)
  have HN := fun w1 (x : Ext w w1) => hid (prognodes2_any a1 a2 a3 c1 c2 c3 P w1 n0 (HP0.out.ext x) hv hs)
  unfold pval at HN
  clear d0 d2
  go_enter Tryz.func49, Tryz.ntmps49
  go_wp2_with fail
  rw [← HWe.out]
  refine HK.out.mono ?_
  intro e w1 hx
  obtain ⟨rfl, hx1⟩ := hx
  have HX1 := hid (HX.out.trans hx1)
  have d0 := (HBx.out.ext hx1).av 0 rfl
  have d1 := (HBx.out.ext hx1).av 1 rfl
  have d2 := (HBx.out.ext hx1).av 2 rfl
  simp only [pcells, qA0, qA1, qA2] at d0 d1 d2
  clear HK hx1
  go_wp2_with fail
  refine (HN w1 HX1.out).out.mono ?_
  intro e w2 hx
  obtain ⟨rfl, hx2⟩ := hx
  clear HN d0 d1 d2
  go_wp2
  go_ret
  exact ⟨rfl, HX1.out.trans hx2⟩
set_option maxRecDepth 100000 in
set_option maxHeartbeats 3200000 in
theorem progplace_any (a1 a2 a3 : Option Addr) (c1 c2 c3 : Nat) (P : PP) (p : Int) (w : World) (n0 : Nat) (ad : Nat → Addr) (hE : ErrsP w ad) (h : ProgR w n0 (.slice a1 P.vars.length c1) (.slice a2 P.funs.length c2) (.slice a3 P.stmts.length c3) P)
    (hz1 : ∀ s ∈ P.vars, s.size ≤ 1000000) (hz2 : ∀ s ∈ P.names, s.size ≤ 1000000) (hw : P.Well) :
    Calls Tryz.prog 114 #[pval a1 a2 a3 c1 c2 c3 P, .int .i64 p] w fun e w' => e = .returned (.int .i64 (P.placeV p)) ∧ Ext w w' := by
  have hc3 : P.stmts.length ≤ c3 := by
    obtain ⟨_, _, e, h2, _⟩ := h.stmts
    simp only [Value.slice.injEq] at e
    obtain ⟨_, _, rfl⟩ := e
    exact h2
  have HP00 := hid h
  have hv := hw.few
  obtain ⟨hv1, hv2, hv3⟩ := hv
  have hv : P.vars.length ≤ 1000 := by omega
  have hs : P.stmts.length ≤ 1000 := by omega
  have HP0 := hid h
  have hml1 : (P.vars.length : Int) ≤ 1000 := by omega
  obtain ⟨W, hW⟩ : ∃ W, W = w.alloc (.cells (pcells a1 a2 a3 c1 c2 c3 P) 26) := ⟨_, rfl⟩
  have HX : Hid (Ext w W) := hid (by rw [hW]; exact (Ext.refl _).alloc _)
  have hB : Blk W w.heap.size (pcells a1 a2 a3 c1 c2 c3 P) 26 := by rw [hW]; exact Blk.new _ _ _
  have HP := hid (h.ext HX.out)
  have d0 := hB.av 0 rfl
  have d2 := hB.av 2 rfl
  simp only [pcells, qA0, qA1, qA2] at d0 d2
  unfold pcells at hW
  have HWe := hid hW
  unfold pval
  clear hW hB h
  have HK := hid (check_well (hE.ext HX.out) HP.out hz1 hz2 hw)
  unfold pval at HK
  have HBx := hid (show Blk W w.heap.size (pcells a1 a2 a3 c1 c2 c3 P) 26 by rw [HWe.out]; exact Blk.new _ _ _)
  clear d0 d2
  go_enter Tryz.func114, Tryz.ntmps114
  go_wp2_with fail
  rw [← HWe.out]
  refine HK.out.mono ?_
  intro e w1 hx
  obtain ⟨rfl, hx1⟩ := hx
  have HX1 := hid (HX.out.trans hx1)
  have d0 := (HBx.out.ext hx1).av 0 rfl
  have d1 := (HBx.out.ext hx1).av 1 rfl
  have d2 := (HBx.out.ext hx1).av 2 rfl
  simp only [pcells, qA0, qA1, qA2] at d0 d1 d2
  clear HK hx1
  by_cases h1 : p < 0
  · have Hr := hid (show PP.placeV P p = -1 by unfold PP.placeV; rw [if_neg (by omega)])
    go_wp2
    go_ret
    exact ⟨by rw [Hr.out]; rfl, HX1.out⟩
  · obtain ⟨K, rfl⟩ := Int.eq_ofNat_of_zero_le (show 0 ≤ p by omega)
    by_cases h2 : K < P.stmts.length
    · obtain ⟨y, x, av, cv, rfl, hxk, e0, e1, e2, e3, _⟩ := (HP0.out.ext HX1.out).stmts.at h2
      have hnw := isNew_at hxk
      have hKc : K ≤ c3 := by omega
      cases hb : (x.kind.toList == [110, 101, 119]) with
      | true =>
        have Hr := hid (show P.placeV (K : Int) = ((P.vars.length + P.newsN K : Nat) : Int) by unfold PP.placeV; rw [if_pos ⟨by omega, by omega, by rw [Int.toNat_natCast]; exact hnw.trans hb⟩, Int.toNat_natCast])
        clear hnw hxk e1 e2 e3
        go_wp2
        clear e0 hb
        go_loopw [5, 39] (fun tn ti wr => ∃ k : Nat, ti = .int .i64 (k : Int) ∧ k ≤ K ∧ tn = .int .i64 ((P.vars.length + P.newsN k : Nat) : Int) ∧ Ext w1 wr) (fun _ ti _ => K - (intOf ti).toNat)
        case atStart => exact ⟨0, rfl, Nat.zero_le _, rfl, Ext.refl _⟩
        case round =>
          obtain ⟨k, rfl, hk, rfl, hx⟩ := hrel
          have Hx := hid hx
          clear hx
          have Hle := hid (P.newsN_le k)
          have Hsu := hid (P.newsN_succ k)
          by_cases hlt : k < K
          · obtain ⟨yk, x, av, cv, hyk, hxk, e0, e1, e2, e3, _⟩ := (HP0.out.ext ((HX1).out.trans Hx.out)).stmts.at (show k < P.stmts.length by omega)
            first | subst hyk | (obtain rfl := Option.some.inj hyk)
            have hnw := isNew_at hxk
            have hcn : ((P.vars.length + P.newsN k : Nat) : Int) ≤ 100000 := by have := Hle.out; omega
            cases hb : (x.kind.toList == [110, 101, 119]) with
            | true =>
              have Hn2 := hid (show P.newsN (k + 1) = P.newsN k + 1 by rw [Hsu.out, hnw.trans hb]; rfl)
              clear hxk hnw
              generalize P.newsN k = m at *
              go_wp2
              go_roundw
              case rel => exact ⟨k + 1, by go_num, by omega, by rw [Hn2.out]; go_num, Hx.out.alloc _⟩
              case measure => simp [intOf]; omega
            | false =>
              have Hn2 := hid (show P.newsN (k + 1) = P.newsN k by rw [Hsu.out, hnw.trans hb]; rfl)
              clear hxk hnw
              go_wp2
              go_roundw
              case rel => exact ⟨k + 1, by go_num, by omega, by rw [Hn2.out], Hx.out.alloc _⟩
              case measure => simp [intOf]; omega
          · obtain rfl : k = K := by omega
            go_wp2
            go_ret
            exact ⟨by rw [Hr.out]; rfl, HX1.out.trans Hx.out⟩
      | false =>
        have hno : ¬ (0 ≤ (K : Int) ∧ (K : Int) < P.stmts.length ∧ P.isNew (K : Int).toNat = true) := by rw [Int.toNat_natCast, show P.isNew K = false from hnw.trans hb]; simp
        have Hno := hid hno
        clear hno hnw hxk e1 e2 e3
        have Hr := hid (show PP.placeV P (K : Int) = -1 by unfold PP.placeV; rw [if_neg (Hno.out)])
        go_wp2
        go_ret
        exact ⟨by rw [Hr.out]; rfl, HX1.out⟩
    · have Hr := hid (show PP.placeV P (K : Int) = -1 by unfold PP.placeV; rw [if_neg (by omega)])
      go_wp2
      go_ret
      exact ⟨by rw [Hr.out]; rfl, HX1.out⟩
end Go.Proofs.YtngdpnlgnpdkcaaGreatDoor
namespace Go.Proofs.YtngdpnlgnpdkcaaGreatDoor
def InR (l : List Int) : Prop := ∀ x ∈ l, 0 ≤ x ∧ x < 1000
abbrev Srt (l : List Int) : Prop := l.Pairwise (· < ·)
def sset (l : List Int) : List Int := (((List.range 1000).filter fun n : Nat => decide ((n : Int) ∈ l)) : List Nat).map fun n : Nat => (n : Int)
def chkE (l : List Int) : Nat := if l.all (fun x => decide (0 ≤ x ∧ x < 1000)) then (if decide (Srt l) then 0 else 10) else 2
theorem Srt.tail {x : Int} {l : List Int} (h : Srt (x :: l)) : Srt l := (List.pairwise_cons.1 h).2
theorem Srt.head {x : Int} {l : List Int} (h : Srt (x :: l)) : ∀ y ∈ l, x < y := (List.pairwise_cons.1 h).1
theorem srt_uniq : ∀ {a b : List Int}, Srt a → Srt b → (∀ x, x ∈ a ↔ x ∈ b) → a = b
  | [], [], _, _, _ => rfl
  | [], y :: b, _, _, h => absurd ((h y).2 (List.mem_cons_self ..)) (List.not_mem_nil)
  | x :: a, [], _, _, h => absurd ((h x).1 (List.mem_cons_self ..)) (List.not_mem_nil)
  | x :: a, y :: b, ha, hb, h => by
    have hxy : x = y := by
      have h1 : x ∈ y :: b := (h x).1 (List.mem_cons_self ..)
      have h2 : y ∈ x :: a := (h y).2 (List.mem_cons_self ..)
      rcases List.mem_cons.1 h1 with e | e
      · exact e
      · rcases List.mem_cons.1 h2 with f | f
        · exact f.symm
        · have := hb.head x e; have := ha.head y f; omega
    subst hxy
    congr 1
    refine srt_uniq ha.tail hb.tail fun z => ⟨fun hz => ?_, fun hz => ?_⟩
    · rcases List.mem_cons.1 ((h z).1 (List.mem_cons_of_mem _ hz)) with e | e
      · have := ha.head z hz; omega
      · exact e
    · rcases List.mem_cons.1 ((h z).2 (List.mem_cons_of_mem _ hz)) with e | e
      · have := hb.head z hz; omega
      · exact e
theorem sset_srt (l : List Int) : Srt (sset l) := by
  unfold sset Srt
  rw [List.pairwise_map]
  refine List.Pairwise.imp (R := (· < ·)) (fun h => by omega) ?_
  exact List.Pairwise.sublist List.filter_sublist (List.pairwise_lt_range (n := 1000))
theorem mem_sset0 {l : List Int} {x : Int} : x ∈ sset l ↔ x ∈ l ∧ 0 ≤ x ∧ x < 1000 := by
  unfold sset
  rw [List.mem_map]
  constructor
  · rintro ⟨n, hn, rfl⟩
    obtain ⟨h1, h2⟩ := List.mem_filter.1 hn
    have := List.mem_range.1 h1
    exact ⟨of_decide_eq_true h2, by omega, by omega⟩
  · rintro ⟨h, h0, h1⟩
    refine ⟨x.toNat, List.mem_filter.2 ⟨List.mem_range.2 (by omega), ?_⟩, by omega⟩
    rw [Int.toNat_of_nonneg h0]
    exact decide_eq_true h
theorem mem_sset {l : List Int} (hl : InR l) {x : Int} : x ∈ sset l ↔ x ∈ l := ⟨fun h => (mem_sset0.1 h).1, fun h => mem_sset0.2 ⟨h, hl x h⟩⟩
theorem sset_in (l : List Int) : InR (sset l) := fun _ h => (mem_sset0.1 h).2
theorem InR.app {a b : List Int} (ha : InR a) (hb : InR b) : InR (a ++ b) := fun x h => (List.mem_append.1 h).elim (ha x) (hb x)
theorem InR.filter {a : List Int} (ha : InR a) (p : Int → Bool) : InR (a.filter p) := fun x h => ha x (List.mem_filter.1 h).1
theorem Srt.filter {a : List Int} (ha : Srt a) (p : Int → Bool) : Srt (a.filter p) := List.Pairwise.sublist List.filter_sublist ha
theorem sset_self {l : List Int} (h : Srt l) (hl : InR l) : sset l = l := srt_uniq (sset_srt l) h fun _ => mem_sset hl
theorem chkE_zero {l : List Int} : chkE l = 0 ↔ InR l ∧ Srt l := by
  unfold chkE
  by_cases h1 : l.all (fun x => decide (0 ≤ x ∧ x < 1000)) = true
  · rw [if_pos h1]
    have hin : InR l := fun x hx => of_decide_eq_true (List.all_eq_true.1 h1 x hx)
    by_cases h2 : Srt l
    · rw [decide_eq_true h2, if_pos rfl]; exact ⟨fun _ => ⟨hin, h2⟩, fun _ => rfl⟩
    · rw [decide_eq_false h2, if_neg (by decide)]; exact ⟨fun h => absurd h (by decide), fun h => absurd h.2 h2⟩
  · rw [if_neg h1]
    exact ⟨fun h => absurd h (by decide), fun h => absurd (List.all_eq_true.2 fun x hx => decide_eq_true (h.1 x hx)) h1⟩
theorem chkE_sset (l : List Int) : chkE (sset l) = 0 := chkE_zero.2 ⟨sset_in l, sset_srt l⟩
theorem srt_adj : ∀ {l : List Int}, (∀ k, k + 1 < l.length → l.getD k 0 < l.getD (k + 1) 0) → Srt l
  | [], _ => List.Pairwise.nil
  | [x], _ => List.pairwise_singleton _ _
  | x :: y :: l, h => by
    have ht : Srt (y :: l) := srt_adj fun k hk => by
      have := h (k + 1) (by simpa using hk)
      simpa using this
    have hxy : x < y := by simpa using h 0 (by simp)
    refine List.pairwise_cons.2 ⟨fun z hz => ?_, ht⟩
    rcases List.mem_cons.1 hz with rfl | hz
    · exact hxy
    · have := ht.head z hz; omega
theorem adj_srt {l : List Int} (h : Srt l) (k : Nat) (hk : k + 1 < l.length) : l.getD k 0 < l.getD (k + 1) 0 := by
  rw [List.getD_eq_getElem?_getD, List.getD_eq_getElem?_getD, List.getElem?_eq_getElem (by omega), List.getElem?_eq_getElem hk]
  exact List.pairwise_iff_getElem.1 h k (k + 1) (by omega) hk (by omega)
theorem chkE_two {l : List Int} {x : Int} (hx : x ∈ l) (h : ¬ (0 ≤ x ∧ x < 1000)) : chkE l = 2 := by
  unfold chkE
  rw [if_neg]
  intro ha
  exact h (of_decide_eq_true (List.all_eq_true.1 ha x hx))
theorem chkE_in {l : List Int} (h : InR l) : chkE l = if decide (Srt l) then 0 else 10 := by
  unfold chkE
  rw [if_pos (List.all_eq_true.2 fun x hx => decide_eq_true (h x hx))]
theorem chkE_ten {l : List Int} (h : InR l) {k : Nat} (hk : k + 1 < l.length) (hb : l.getD (k + 1) 0 ≤ l.getD k 0) : chkE l = 10 := by
  rw [chkE_in h, decide_eq_false (fun hs => by have := adj_srt hs k hk; omega)]; rfl
theorem chkE_ok {l : List Int} (h : InR l) (hk : ∀ k, k + 1 < l.length → l.getD k 0 < l.getD (k + 1) 0) : chkE l = 0 := chkE_zero.2 ⟨h, srt_adj hk⟩
theorem compact_upto (zs : List Int) (hz : zs.Pairwise (· ≤ ·)) : ∀ m, m ≤ zs.length → (∀ x, x ∈ Go.Lib.compactUpTo zs.toArray m ↔ x ∈ zs.take m) ∧ Srt (Go.Lib.compactUpTo zs.toArray m)
  | 0, _ => ⟨fun x => by simp [Go.Lib.compactUpTo], by simp [Go.Lib.compactUpTo]⟩
  | m + 1, hm => by
    obtain ⟨h1, h2⟩ := compact_upto zs hz m (by omega)
    have hg : zs.toArray[m]! = zs[m]'(by omega) := by simp [getElem!_pos, show m < zs.length by omega]
    have ht : zs.take (m + 1) = zs.take m ++ [zs[m]'(by omega)] := by rw [List.take_add_one, List.getElem?_eq_getElem (by omega)]; rfl
    rw [Go.Lib.compactUpTo_succ]
    by_cases hk : Go.Lib.keeps zs.toArray m = true
    · rw [if_pos hk, hg, ht]
      refine ⟨fun x => by rw [List.mem_append, List.mem_append, h1], ?_⟩
      refine List.pairwise_append.2 ⟨h2, List.pairwise_singleton _ _, fun a ha b hb => ?_⟩
      obtain rfl := List.mem_singleton.1 hb
      have ha' := (h1 a).1 ha
      obtain ⟨i, hi, rfl⟩ := List.getElem_of_mem ha'
      rw [List.length_take] at hi
      rw [List.getElem_take]
      unfold Go.Lib.keeps at hk
      have hk' := of_decide_eq_true hk
      rcases hk' with e | e
      · omega
      · have hg2 : zs.toArray[m - 1]! = zs[m - 1]'(by omega) := by simp [getElem!_pos, show m - 1 < zs.length by omega]
        rw [hg, hg2] at e
        have p1 : zs[m - 1]'(by omega) ≤ zs[m]'(by omega) := List.pairwise_iff_getElem.1 hz (m - 1) m (by omega) (by omega) (by omega)
        have p2 : zs[i]'(by omega) ≤ zs[m - 1]'(by omega) := by
          rcases Nat.lt_or_ge i (m - 1) with h | h
          · exact List.pairwise_iff_getElem.1 hz i (m - 1) (by omega) (by omega) h
          · have : i = m - 1 := by omega
            subst this; exact Int.le_refl _
        omega
    · rw [if_neg hk, List.append_nil]
      refine ⟨fun x => ?_, h2⟩
      rw [h1, ht, List.mem_append]
      refine ⟨.inl, fun h => h.elim id fun hx => ?_⟩
      obtain rfl := List.mem_singleton.1 hx
      unfold Go.Lib.keeps at hk
      have hk' : ¬ (m = 0 ∨ zs.toArray[m]! ≠ zs.toArray[m - 1]!) := fun h => hk (decide_eq_true h)
      have hg2 : zs.toArray[m - 1]! = zs[m - 1]'(by omega) := by simp [getElem!_pos, show m - 1 < zs.length by omega]
      have e : zs[m]'(by omega) = zs[m - 1]'(by omega) := by
        rcases Classical.em (zs[m]'(by omega) = zs[m - 1]'(by omega)) with e | e
        · exact e
        · exact absurd (.inr (by rw [hg, hg2]; exact e)) hk'
      have hm0 : m ≠ 0 := fun h => hk' (.inl h)
      rw [e]
      have : zs[m - 1]'(by omega) = (zs.take m)[m - 1]'(by rw [List.length_take]; omega) := by rw [List.getElem_take]
      rw [this]
      exact List.getElem_mem _
theorem sort_le (l : List Int) : (l.mergeSort fun x y => decide (x ≤ y)).Pairwise (· ≤ ·) := by
  have := List.pairwise_mergeSort (le := fun x y : Int => decide (x ≤ y)) (fun a b c h1 h2 => by simp at h1 h2 ⊢; omega) (fun a b => by simp; omega) l
  exact this.imp fun h => by simpa using h
theorem compact_sort {l : List Int} (hl : InR l) : Go.Lib.compact (l.mergeSort fun x y => decide (x ≤ y)) = sset l := by
  obtain ⟨h1, h2⟩ := compact_upto _ (sort_le l) _ (Nat.le_refl _)
  refine srt_uniq (by unfold Go.Lib.compact; exact h2) (sset_srt l) fun x => ?_
  have := h1 x
  unfold Go.Lib.compact
  rw [this, List.take_of_length_le (Nat.le_refl _), List.mem_mergeSort, mem_sset hl]
end Go.Proofs.YtngdpnlgnpdkcaaGreatDoor
namespace Go.Proofs.YtngdpnlgnpdkcaaGreatDoor
open Go Go.RowKit Go.Sort
theorem IRow.cur {base : Nat} {w : World} {g n cap : Nat} {l : List Int} (h : IRow base w (.slice (some ⟨g, 0, none⟩) n cap) l) : n = l.length ∧ base ≤ g ∧ l.length ≤ cap ∧ cap ≤ maxLen ∧ ∃ cur, Blk w g cur 3 ∧ cur.size = cap ∧ cur.toList.take l.length = icells l := by
  rcases h.2 with ⟨h1, _⟩ | ⟨g', cap', cur, h1, h2, h3, h4, h5, h6, h7⟩
  · simp at h1
  · simp only [Value.slice.injEq, Option.some.injEq, Addr.mk.injEq, and_true] at h1
    obtain ⟨rfl, rfl, rfl⟩ := h1
    exact ⟨rfl, h2, h4, h5, cur, h3, by omega, by simpa using h7⟩
theorem IRow.holds {base : Nat} {w : World} {g n cap : Nat} {l : List Int} (h : IRow base w (.slice (some ⟨g, 0, none⟩) n cap) l) : Holds (Value.int .i64) w g 0 l.toArray := by
  obtain ⟨rfl, _⟩ := h.cur
  intro j hj
  have hj' : j < l.length := by simpa using hj
  rw [Nat.zero_add]
  refine ⟨?_, own_free h j⟩
  rw [own_get h j (u := .int .i64 (l[j]'hj')) (by unfold icells; rw [List.getElem?_map, List.getElem?_eq_getElem hj']; rfl)]
  simp [getElem!_pos, hj']
theorem put_at {w : World} {g q : Nat} {cur : Array Value} {t : TypeId} {ys : List Int} {os : Array Obj} (hb : Blk w g cur t) :
    Blk (grow (putRow (Value.int .i64) (Sort.ahead w q) g 0 ys.toArray) os) g (putCells (Value.int .i64) 0 ys.toArray cur) t ∧ Keep (fun b => b = g) w (grow (putRow (Value.int .i64) (Sort.ahead w q) g 0 ys.toArray) os) := by
  have hlt := hb.lt
  have hh : ∀ k, k < w.heap.size → (grow (putRow (Value.int .i64) (Sort.ahead w q) g 0 ys.toArray) os).heap[k]? = (w.heap.modify g (onCells (putCells (Value.int .i64) 0 ys.toArray)))[k]? := fun k hk => by
    unfold grow putRow mapBlock Sort.ahead
    simp only
    rw [Array.getElem?_append_left (by simpa using hk)]
  constructor
  · unfold Blk
    rw [hh g hlt, Array.getElem?_modify, if_pos rfl]
    have : w.heap[g]? = some (.cells cur t (0, 0)) := hb
    rw [this]
    rfl
  · refine ⟨rfl, rfl, rfl, ?_, fun k hk hx => ?_⟩
    · unfold grow putRow mapBlock Sort.ahead
      simp
    · rw [hh k hk, Array.getElem?_modify, if_neg (fun e => hx e.symm)]
theorem put_cells (ys : List Int) (cur : Array Value) (k : Nat) (hk : k ≤ ys.length) (hc : ys.length ≤ cur.size) : (putCells (Value.int .i64) 0 ys.toArray cur).toList.take k = icells (ys.take k) := by
  apply List.ext_getElem?
  intro i
  rw [List.getElem?_take]
  unfold icells
  rw [List.getElem?_map, List.getElem?_take]
  by_cases hi : i < k
  · rw [if_pos hi, if_pos hi, Array.getElem?_toList]
    unfold putCells
    rw [Array.getElem?_mapIdx, Array.getElem?_eq_getElem (by omega), List.getElem?_eq_getElem (by omega)]
    simp only [Option.map_some, Nat.zero_le, true_and, Nat.zero_add, List.size_toArray, Nat.sub_zero]
    rw [if_pos (by omega)]
    congr 1
    simp [getElem!_pos, show i < ys.length by omega]
  · rw [if_neg hi, if_neg hi]; rfl
theorem IRow.put {base : Nat} {w : World} {g n cap q : Nat} {zs ys : List Int} {os : Array Obj} (h : IRow base w (.slice (some ⟨g, 0, none⟩) n cap) zs) (hy : ys.length = zs.length) (k : Nat) (hk : k ≤ ys.length) :
    IRow base (grow (putRow (Value.int .i64) (Sort.ahead w q) g 0 ys.toArray) os) (.slice (some ⟨g, 0, none⟩) k cap) (ys.take k) ∧ Keep (fun b => b = g) w (grow (putRow (Value.int .i64) (Sort.ahead w q) g 0 ys.toArray) os) := by
  obtain ⟨rfl, h1, h2, h3, cur, h4, h5, h6⟩ := h.cur
  obtain ⟨p1, p2⟩ := put_at (q := q) (ys := ys) (os := os) h4
  refine ⟨?_, p2⟩
  have hl : (ys.take k).length = k := by rw [List.length_take]; omega
  unfold IRow
  rw [hl]
  refine ⟨by simp [icells]; omega, .inr ⟨g, cap, _, rfl, h1, p1, by omega, h3, ?_, ?_⟩⟩
  · unfold putCells
    rw [Array.size_mapIdx]; omega
  · rw [Nat.mul_one]; exact put_cells ys cur k hk (by omega)
theorem IRow.case {base : Nat} {w : World} {v : Value} {l : List Int} (h : IRow base w v l) : (v = .slice none 0 0 ∧ l = []) ∨ ∃ g cap, v = .slice (some ⟨g, 0, none⟩) l.length cap := by
  rcases h.2 with ⟨h1, h2⟩ | ⟨g, cap, cur, h1, _⟩
  · exact .inl ⟨h1, List.eq_nil_of_length_eq_zero h2⟩
  · exact .inr ⟨g, cap, h1⟩
end Go.Proofs.YtngdpnlgnpdkcaaGreatDoor
namespace Go.Proofs.YtngdpnlgnpdkcaaGreatDoor
open Go Go.RowKit
structure ErrS (w : World) (ad : Nat → Addr) : Prop where
  at2 : w.cell? ⟨3, 0, none⟩ = some (evOf ad 2)
  at10 : w.cell? ⟨9, 0, none⟩ = some (evOf ad 10)
theorem ErrS.ext {w w' : World} {ad : Nat → Addr} (h : ErrS w ad) (x : Ext w w') : ErrS w' ad := ⟨x.cellx h.at2, x.cellx h.at10⟩
set_option maxRecDepth 100000 in
set_option maxHeartbeats 1600000 in
theorem setcheck_any (v : Value) (l : List Int) (w : World) (n0 : Nat) (ad : Nat → Addr) (hE : ErrS w ad) (h : IntsR w n0 v l) :
    Calls Tryz.prog 101 #[v] w fun e w' => e = .returned (errv (evOf ad) (chkE l)) ∧ Ext w w' := by
  have HI := hid h
  obtain ⟨a, cap, rfl, h2, h3, h4, h5⟩ := id h
  have HE := hid hE
  have H4 := hid h4
  have H5 := hid h5
  have g2 := hE.at2
  have g10 := hE.at10
  unfold evOf at g2 g10
  have hml : (l.length : Int) ≤ 9223372036854775807 := by omega
  clear h h2 h3 h4 h5 hE
  go_enter Tryz.func101, Tryz.ntmps101
  go_wp2
  go_loop [8] (fun t8 => ∃ k : Nat, t8 = .int .i64 (k : Int) ∧ k ≤ l.length ∧ ∀ j t, j < k → l[j]? = some t → 0 ≤ t ∧ t < 1000) (fun t8 => l.length - (intOf t8).toNat)
  case atStart => exact ⟨0, rfl, Nat.zero_le _, fun j t h => by omega⟩
  case round =>
    obtain ⟨k, rfl, hk, hp⟩ := hrel
    have Hp := hid hp
    clear hp
    by_cases hlt : k < l.length
    · obtain ⟨y, rfl⟩ := H4.out (by omega)
      obtain ⟨q, hq⟩ : ∃ q, l[k]? = some q := ⟨_, List.getElem?_eq_getElem hlt⟩
      have hc := (H5.out y rfl (by omega)).2 k hlt q hq
      have Hq := hid hq
      clear hq
      by_cases hq0 : q < 0
      · have Hr := hid (chkE_two (List.mem_of_getElem? Hq.out) (by omega))
        go_wp2
        go_ret
        exact ⟨by rw [Hr.out]; rfl, Ext.refl _⟩
      · by_cases hq1 : 1000 ≤ q
        · have Hr := hid (chkE_two (List.mem_of_getElem? Hq.out) (by omega))
          go_wp2
          go_ret
          exact ⟨by rw [Hr.out]; rfl, Ext.refl _⟩
        · have Hb : Hid (0 ≤ q ∧ q < 1000) := hid (by omega)
          go_wp2
          refine ⟨⟨k + 1, by go_num, by omega, fun j t hj ht => ?_⟩, by simp [intOf]; omega⟩
          by_cases hjk : j = k
          · subst hjk
            obtain rfl := Option.some.inj (Hq.out.symm.trans ht)
            exact Hb.out
          · exact Hp.out j t (by omega) ht
    · obtain rfl : k = l.length := by omega
      have Hin : Hid (InR l) := hid fun t ht => by
        obtain ⟨j, hj, e⟩ := List.mem_iff_getElem.1 ht
        exact Hp.out j t hj (by rw [List.getElem?_eq_getElem hj, e])
      go_wp2
      go_loopw [5] (fun t5 wr => ∃ i : Nat, t5 = .int .i64 ((i : Int) + 1) ∧ i ≤ l.length ∧ (∀ j, j < i → j + 1 < l.length → l.getD j 0 < l.getD (j + 1) 0) ∧ Ext w wr) (fun t5 _ => l.length + 1 - (intOf t5).toNat)
      case atStart => exact ⟨0, rfl, Nat.zero_le _, fun j hj => by omega, Ext.refl _⟩
      case round =>
        obtain ⟨i, rfl, hi, hp, hx⟩ := hrel
        have Hs := hid hp
        have Hx := hid hx
        clear hp hx
        by_cases hlt : i + 1 < l.length
        · obtain ⟨y, rfl⟩ := H4.out (by omega)
          obtain ⟨p, hp⟩ : ∃ p, l[i]? = some p := ⟨_, List.getElem?_eq_getElem (by omega)⟩
          obtain ⟨q, hq⟩ : ∃ q, l[i + 1]? = some q := ⟨_, List.getElem?_eq_getElem hlt⟩
          have hcp := (H5.out y rfl (by omega)).2 i (by omega) p hp
          have hcq := (H5.out y rfl (by omega)).2 (i + 1) hlt q hq
          rw [add_posU y (i + 1) (by omega)] at hcq
          have c0 : ∀ w1, Keep (fun _ => False) wr w1 → w1.cell? (y.add i) = some (.int .i64 p) := fun w1 k => (Hx.out.trans k.ext).cellx hcp
          have c1 : ∀ w1, Keep (fun _ => False) wr w1 → w1.cell? ⟨y.block, y.off + (i + 1), none⟩ = some (.int .i64 q) := fun w1 k => (Hx.out.trans k.ext).cellx hcq
          have Hp : Hid (l.getD i 0 = p) := hid (by rw [List.getD_eq_getElem?_getD, hp]; rfl)
          have Hq : Hid (l.getD (i + 1) 0 = q) := hid (by rw [List.getD_eq_getElem?_getD, hq]; rfl)
          have gx10 := Hx.out.cellx g10
          clear hp hq hcp hcq
          by_cases hpq : q ≤ p
          · have Hr := hid (chkE_ten Hin.out hlt (by rw [Hp.out, Hq.out]; exact hpq))
            go_wp2
            refine wp_flowT (fun _ => False) (by kernel_rfl) (by kernel_rfl) ?_
            repeat (apply FlowT.d; (intro w1 hk; unfold does; go_simp; (try go_ints); (first | exact DetR.mk | (simp only [↓IntWalk.iteOmega, Oper.doesUpon_value]; exact DetR.mk) | (simp only [↓IntWalk.iteOmega]; go_simp; (try go_ints); exact DetR.mk))); simp only [Act.put, qS0, qS1, qS2])
            refine FlowT.fin fun w1 hx1 hk1 => ?_
            have gy10 := hx1.cellx gx10
            have Hx1 := hid (Hx.out.trans hx1)
            clear hx1 hk1 c0 c1 gx10
            go_wp2
            go_ret
            exact ⟨by rw [Hr.out]; rfl, Hx1.out⟩
          · have Hlt : Hid (l.getD i 0 < l.getD (i + 1) 0) := hid (by rw [Hp.out, Hq.out]; omega)
            go_wp2
            refine wp_flowT (fun _ => False) (by kernel_rfl) (by kernel_rfl) ?_
            repeat (apply FlowT.d; (intro w1 hk; unfold does; go_simp; (try go_ints); (first | exact DetR.mk | (simp only [↓IntWalk.iteOmega, Oper.doesUpon_value]; exact DetR.mk) | (simp only [↓IntWalk.iteOmega]; go_simp; (try go_ints); exact DetR.mk))); simp only [Act.put, qS0, qS1, qS2])
            refine FlowT.fin fun w1 hx1 hk1 => ?_
            have Hx1 := hid (Hx.out.trans hx1)
            clear hx1 hk1 c0 c1 gx10
            go_wp2
            go_roundw
            case rel =>
              refine ⟨i + 1, by go_num, by omega, fun j hj hjl => ?_, Hx1.out⟩
              by_cases hji : j = i
              · subst hji; exact Hlt.out
              · exact Hs.out j (by omega) hjl
            case measure => simp [intOf]; omega
        · have Hr := hid (chkE_ok Hin.out fun j hj => Hs.out j (by omega) hj)
          go_wp2
          go_ret
          exact ⟨by rw [Hr.out]; rfl, Hx.out⟩
def bothE (a b : List Int) : Nat := if chkE a = 0 then chkE b else chkE a
set_option maxRecDepth 100000 in
set_option maxHeartbeats 800000 in
theorem setboth_any (va vb : Value) (a b : List Int) (w : World) (n0 : Nat) (ad : Nat → Addr) (hE : ErrS w ad) (ha : IntsR w n0 va a) (hb : IntsR w n0 vb b) :
    Calls Tryz.prog 161 #[va, vb] w fun e w' => e = .returned (errv (evOf ad) (bothE a b)) ∧ Ext w w' := by
  have HA := hid (setcheck_any va a w n0 ad hE ha)
  have HB := fun w1 (x : Ext w w1) => hid (setcheck_any vb b w1 n0 ad (hE.ext x) (hb.old (x.old n0)))
  obtain ⟨aa, ca, rfl, _⟩ := ha
  obtain ⟨ab, cb, rfl, _⟩ := hb
  clear hE
  by_cases h0 : chkE a = 0
  · have Hr := hid (show bothE a b = chkE b by unfold bothE; rw [if_pos h0])
    rw [h0] at HA
    unfold errv at HA
    rw [if_pos rfl] at HA
    clear h0
    go_enter Tryz.func161, Tryz.ntmps161
    go_wp2_with fail
    refine HA.out.mono ?_
    intro e w1 hx
    obtain ⟨rfl, hx1⟩ := hx
    have HB1 := HB w1 hx1
    have Hx1 := hid hx1
    clear HA HB hx1
    go_wp2_with fail
    refine HB1.out.mono ?_
    intro e w2 hx
    obtain ⟨rfl, hx2⟩ := hx
    have Hx2 := hid (Hx1.out.trans hx2)
    clear HB1 hx2
    generalize hev : errv (evOf ad) (chkE b) = ev
    have Hev := hid hev
    clear hev
    go_wp2
    go_ret
    exact ⟨by rw [Hr.out, Hev.out]; rfl, Hx2.out⟩
  · have Hr := hid (show errv (evOf ad) (bothE a b) = evOf ad (chkE a) by unfold bothE errv; rw [if_neg h0, if_neg h0])
    unfold errv evOf at HA
    rw [if_neg h0] at HA
    clear h0
    go_enter Tryz.func161, Tryz.ntmps161
    go_wp2_with fail
    refine HA.out.mono ?_
    intro e w1 hx
    obtain ⟨rfl, hx1⟩ := hx
    have Hx1 := hid hx1
    clear HA HB hx1
    go_wp2
    go_ret
    exact ⟨by rw [Hr.out]; rfl, Hx1.out⟩
end Go.Proofs.YtngdpnlgnpdkcaaGreatDoor
namespace Go.Proofs.YtngdpnlgnpdkcaaGreatDoor
open Go Go.ChangeShapes Go.WideShapes Go.ChangeAt Go.WideMaps Go.WideElems Go.RowKit Go.Joins Go.Deep
section
variable {H : Type} {enc : TypeId × Value → H} {P : Program} {w : World} {base : Nat} {spare : Nat → Bool} {held : Bool}
set_option maxRecDepth 100000 in
theorem open_agg3 {r : Reach} {b0 : Nat} {t : TypeId} {f0 f1 f2 : Field} {v : Value} {d : DataW H} {p : List MemPlace} (hs : P.underlying t = some (.struct #[f0, f1, f2])) (hone : oneCellFields P #[f0, f1, f2] = true) (hC : P.cellsOf t = 3)
    (hv : Value.okWide P w r b0 t v) (h : DataW.Trod enc P w base spare held t v d p) :
    ∃ (v0 v1 v2 : Value) (y0 y1 y2 : DataW H × List MemPlace) (n : Nat), v = .agg #[v0, v1, v2] ∧
      DataW.trod enc P w base spare held n f0.type [v0] = some y0 ∧ DataW.trod enc P w base spare held n f1.type [v1] = some y1 ∧ DataW.trod enc P w base spare held n f2.type [v2] = some y2 := by
  obtain ⟨cs, rfl, hsz⟩ := okWide_struct hs hv
  obtain ⟨l⟩ := cs
  match l, hsz.trans hC with
  | [c0, c1, c2], _ =>
    obtain ⟨fuel, hf⟩ := h
    obtain ⟨xs, n, _, hx, _, hlen, hg⟩ := DataW.trod_struct hs hf
    obtain ⟨o0, k0⟩ := hone_of hone 0 f0 rfl
    obtain ⟨o1, k1⟩ := hone_of hone 1 f1 rfl
    obtain ⟨o2, k2⟩ := hone_of hone 2 f2 rfl
    match xs, hlen with
    | [y0, y1, y2], _ =>
      exact ⟨c0, c1, c2, y0, y1, y2, n, rfl, by simpa [Value.cells, o0, k0] using hg 0 f0 rfl, by simpa [Value.cells, o1, k1] using hg 1 f1 rfl, by simpa [Value.cells, o2, k2] using hg 2 f2 rfl⟩
end
theorem cellsU_prog : Tryz.prog.cellsOf 26 = 3 := by kernel_rfl
theorem cellsU_fun : Tryz.prog.cellsOf 78 = 3 := by kernel_rfl
theorem cellsU_stmt : Tryz.prog.cellsOf 76 = 4 := by kernel_rfl
theorem cellsU_str : Tryz.prog.cellsOf 9 = 1 := by kernel_rfl
theorem cellsU_int : Tryz.prog.cellsOf 3 = 1 := by kernel_rfl
theorem cellsU_ints : Tryz.prog.cellsOf 43 = 1 := by kernel_rfl
theorem listU3 {α : Type} {l : List α} (h : l.length = 3) : ∃ c0 c1 c2, l = [c0, c1, c2] := by
  match l, h with
  | [c0, c1, c2], _ => exact ⟨c0, c1, c2, rfl⟩
theorem listU4 {α : Type} {l : List α} (h : l.length = 4) : ∃ c0 c1 c2 c3, l = [c0, c1, c2, c3] := by
  match l, h with
  | [c0, c1, c2, c3], _ => exact ⟨c0, c1, c2, c3, rfl⟩
section
variable {H : Type} {enc : TypeId × Value → H} {w : World} {base : Nat} {sp : Nat → Bool} {held : Bool} {n : Nat}
theorem add_addU (a : Addr) (i j : Nat) : (a.add i).add j = a.add (i + j) := Go.Deep.add_add a i j
theorem maxLen_eq : maxLen = 9223372036854775807 := by decide
theorem elR_of {α : Type} [Inhabited α] {t e : TypeId} {size : Nat} {v : Value} {x : DataW H × List MemPlace} (ht : Tryz.prog.underlying t = some (.slice e)) (hc : Tryz.prog.cellsOf e = size) (h0 : 0 < size) (E : Nat → Addr → α → Prop)
    (hE : ∀ (i m : Nat) (y : Addr) (cs : List Value) (z : DataW H × List MemPlace), (∀ j, j < size → w.cell? ((y.add (i * size)).add j) = cs[j]?) → cs.length = size → DataW.trod enc Tryz.prog w base sp held m e cs = some z → ∃ a, E i y a)
    (h : DataW.trod enc Tryz.prog w base sp held n t [v] = some x) : ∃ l : List α, ElR w.heap.size v l.length fun i y => ∀ a, l[i]? = some a → E i y a := by
  have hml := maxLen_eq
  rcases open_slice ht h with ⟨hcs, _⟩ | ⟨y, l, c, m, k, D, Pl, hcs, _, hl, hm, hmm, _, hx⟩
  · simp only [List.cons.injEq, and_true] at hcs
    subst hcs
    exact ⟨[], none, 0, rfl, Nat.le_refl _, by decide, fun h => absurd h (by simp), fun y hy => by cases hy⟩
  simp only [List.cons.injEq, and_true] at hcs
  subst hcs
  have hlm : l ≤ m := by rw [hmm]; split <;> omega
  have each : ∀ i, i < l → ∃ a : α, E i y a ∧ y.block < w.heap.size := by
    intro i hi
    obtain ⟨cs', h1, h2⟩ := hx i (by omega)
    rw [hc] at h1
    obtain ⟨_, hlen, hcell⟩ := World.cells?_some h1
    obtain ⟨a, ha⟩ := hE i k y cs' _ (fun j hj => hcell j hj) hlen h2
    refine ⟨a, ha, ?_⟩
    have h3 := hcell 0 h0
    obtain ⟨u, hu⟩ : ∃ u, cs'[0]? = some u := ⟨_, List.getElem?_eq_getElem (by omega)⟩
    rw [hu] at h3
    have := cell_lt h3
    rwa [add_block, add_block] at this
  obtain ⟨Z, hZ⟩ := choose_lt each
  refine ⟨(List.range l).map Z, some y, c, by simp, by simpa using hl, by omega, fun _ => ⟨_, rfl⟩, fun y' hy hp => ?_⟩
  obtain rfl := Option.some.inj hy
  have hp' : 0 < l := by simpa using hp
  refine ⟨(hZ 0 hp').2, fun i hi a ha => ?_⟩
  have hi' : i < l := by simpa using hi
  rw [List.getElem?_map, List.getElem?_range hi'] at ha
  obtain rfl := Option.some.inj ha
  exact (hZ i hi').1
set_option maxRecDepth 100000 in
theorem intsR_of {v : Value} {x : DataW H × List MemPlace} (h : DataW.trod enc Tryz.prog w base sp held n 43 [v] = some x) : ∃ l, IntsR w w.heap.size v l := by
  refine elR_of (α := Int) Tryz.underlying43 cellsU_int (by decide) (fun i y s => w.cell? (y.add i) = some (.int .i64 s)) (fun i m y cs z hc hl ht => ?_) h
  obtain ⟨k, e, _, _⟩ := DataW.trod_int Tryz.underlying3 ht
  subst e
  refine ⟨k, ?_⟩
  have := hc 0 (by decide)
  simpa [add_addU, Addr.add] using this
set_option maxRecDepth 100000 in
theorem strsR_of {v : Value} {x : DataW H × List MemPlace} (h : DataW.trod enc Tryz.prog w base sp held n 22 [v] = some x) : ∃ l, StrsR w w.heap.size v l := by
  refine elR_of (α := ByteArray) Tryz.underlying22 cellsU_str (by decide) (fun i y s => w.cell? (y.add i) = some (.string s)) (fun i m y cs z hc hl ht => ?_) h
  obtain ⟨k, e, _, _⟩ := DataW.trod_string Tryz.underlying9 ht
  subst e
  refine ⟨k, ?_⟩
  have := hc 0 (by decide)
  simpa [add_addU, Addr.add] using this
set_option maxRecDepth 100000 in
theorem funsR_of {v : Value} {x : DataW H × List MemPlace} (h : DataW.trod enc Tryz.prog w base sp held n 23 [v] = some x) : ∃ l, FunsR w w.heap.size v l := by
  have inh : Inhabited PF := ⟨⟨⟨#[]⟩, [], 0⟩⟩
  refine elR_of (α := PF) Tryz.underlying23 cellsU_fun (by decide) (fun i y f => ∃ pv, w.cell? (y.add (i * 3)) = some (.string f.name) ∧ w.cell? ((y.add (i * 3)).add 1) = some pv ∧ w.cell? ((y.add (i * 3)).add 2) = some (.int .i64 f.ret) ∧ IntsR w w.heap.size pv f.params) (fun i m y cs z hc hl ht => ?_) h
  obtain ⟨c0, c1, c2, rfl⟩ := listU3 hl
  obtain ⟨xs, k, _, _, _, hxl, hf⟩ := DataW.trod_struct Tryz.underlying78 ht
  obtain ⟨y0, y1, y2, rfl⟩ := listU3 hxl
  have g0 : DataW.trod enc Tryz.prog w base sp held k 9 [c0] = some y0 := by simpa [cellsU_str] using hf 0 _ rfl
  have g1 : DataW.trod enc Tryz.prog w base sp held k 43 [c1] = some y1 := by simpa [cellsU_ints] using hf 1 _ rfl
  have g2 : DataW.trod enc Tryz.prog w base sp held k 3 [c2] = some y2 := by simpa [cellsU_int] using hf 2 _ rfl
  obtain ⟨s, e0, _, _⟩ := DataW.trod_string Tryz.underlying9 g0
  obtain ⟨ps, hp⟩ := intsR_of g1
  obtain ⟨r, e2, _, _⟩ := DataW.trod_int Tryz.underlying3 g2
  simp only [List.cons.injEq, and_true] at e0 e2
  subst e0 e2
  exact ⟨⟨s, ps, r⟩, c1, by simpa [Addr.add] using hc 0 (by decide), hc 1 (by decide), hc 2 (by decide), hp⟩
set_option maxRecDepth 100000 in
theorem stmtsR_of {v : Value} {x : DataW H × List MemPlace} (h : DataW.trod enc Tryz.prog w base sp held n 24 [v] = some x) : ∃ l, StmtsR w w.heap.size v l := by
  have inh : Inhabited PS := ⟨⟨⟨#[]⟩, 0, 0, []⟩⟩
  refine elR_of (α := PS) Tryz.underlying24 cellsU_stmt (by decide) (fun i y f => ∃ pv, w.cell? (y.add (i * 4)) = some (.string f.kind) ∧ w.cell? ((y.add (i * 4)).add 1) = some (.int .i64 f.x) ∧ w.cell? ((y.add (i * 4)).add 2) = some (.int .i64 f.y) ∧ w.cell? ((y.add (i * 4)).add 3) = some pv ∧ IntsR w w.heap.size pv f.args) (fun i m y cs z hc hl ht => ?_) h
  obtain ⟨c0, c1, c2, c3, rfl⟩ := listU4 hl
  obtain ⟨xs, k, _, _, _, hxl, hf⟩ := DataW.trod_struct Tryz.underlying76 ht
  obtain ⟨y0, y1, y2, y3, rfl⟩ := listU4 hxl
  have g0 : DataW.trod enc Tryz.prog w base sp held k 9 [c0] = some y0 := by simpa [cellsU_str] using hf 0 _ rfl
  have g1 : DataW.trod enc Tryz.prog w base sp held k 3 [c1] = some y1 := by simpa [cellsU_int] using hf 1 _ rfl
  have g2 : DataW.trod enc Tryz.prog w base sp held k 3 [c2] = some y2 := by simpa [cellsU_int] using hf 2 _ rfl
  have g3 : DataW.trod enc Tryz.prog w base sp held k 43 [c3] = some y3 := by simpa [cellsU_ints] using hf 3 _ rfl
  obtain ⟨s, e0, _, _⟩ := DataW.trod_string Tryz.underlying9 g0
  obtain ⟨a, e1, _, _⟩ := DataW.trod_int Tryz.underlying3 g1
  obtain ⟨b, e2, _, _⟩ := DataW.trod_int Tryz.underlying3 g2
  obtain ⟨ps, hp⟩ := intsR_of g3
  simp only [List.cons.injEq, and_true] at e0 e1 e2
  subst e0 e1 e2
  exact ⟨⟨s, a, b, ps⟩, c3, by simpa [Addr.add] using hc 0 (by decide), hc 1 (by decide), hc 2 (by decide), hc 3 (by decide), hp⟩
end
theorem StrsR.form {w : World} {n0 : Nat} {v : Value} {l : List ByteArray} (h : StrsR w n0 v l) : ∃ a c, v = .slice a l.length c := by
  obtain ⟨a, c, h, _⟩ := h
  exact ⟨a, c, h⟩
theorem FunsR.form {w : World} {n0 : Nat} {v : Value} {l : List PF} (h : FunsR w n0 v l) : ∃ a c, v = .slice a l.length c := by
  obtain ⟨a, c, h, _⟩ := h
  exact ⟨a, c, h⟩
theorem StmtsR.form {w : World} {n0 : Nat} {v : Value} {l : List PS} (h : StmtsR w n0 v l) : ∃ a c, v = .slice a l.length c := by
  obtain ⟨a, c, h, _⟩ := h
  exact ⟨a, c, h⟩
set_option maxRecDepth 100000 in
theorem prog_of {H : Type} {enc : TypeId × Value → H} {w : World} {base b0 : Nat} {sp : Nat → Bool} {held : Bool} {v : Value} {d : DataW H} {p : List MemPlace} (hv : Value.okWide Tryz.prog w .any b0 26 v) (h : DataW.Trod enc Tryz.prog w base sp held 26 v d p) :
    ∃ (a1 a2 a3 : Option Addr) (c1 c2 c3 : Nat) (P : PP), v = pval a1 a2 a3 c1 c2 c3 P ∧ ProgR w w.heap.size (.slice a1 P.vars.length c1) (.slice a2 P.funs.length c2) (.slice a3 P.stmts.length c3) P := by
  obtain ⟨v0, v1, v2, y0, y1, y2, n, rfl, h0, h1, h2⟩ := open_agg3 Tryz.underlying26 (by kernel_rfl) cellsU_prog hv h
  obtain ⟨vs, hvs⟩ := strsR_of h0
  obtain ⟨fs, hfs⟩ := funsR_of h1
  obtain ⟨ss, hss⟩ := stmtsR_of h2
  obtain ⟨a1, c1, rfl⟩ := hvs.form
  obtain ⟨a2, c2, rfl⟩ := hfs.form
  obtain ⟨a3, c3, rfl⟩ := hss.form
  exact ⟨a1, a2, a3, c1, c2, c3, ⟨vs, fs, ss⟩, rfl, hvs, hfs, hss⟩
end Go.Proofs.YtngdpnlgnpdkcaaGreatDoor
namespace Go.Proofs.YtngdpnlgnpdkcaaGreatDoor
open Go Go.RowKit
def SetsR (w : World) (n0 : Nat) (v : Value) (L : List (List Int)) : Prop := ElR n0 v L.length fun i y => ∀ l, L[i]? = some l → ∃ u, w.cell? (y.add i) = some u ∧ IntsR w n0 u l
theorem SetsR.old {w w' : World} {n0 : Nat} {v : Value} {L : List (List Int)} (h : SetsR w n0 v L) (k : Old n0 w w') : SetsR w' n0 v L :=
  ElR.mono h (Nat.le_refl _) fun i y _ hy hE l hl => by
    obtain ⟨u, h1, h2⟩ := hE l hl
    exact ⟨u, k.cellx h1 (by rw [add_block]; exact hy), h2.old k⟩
theorem SetsR.lift {w : World} {n0 n1 : Nat} {v : Value} {L : List (List Int)} (h : SetsR w n0 v L) (hn : n0 ≤ n1) : SetsR w n1 v L :=
  ElR.mono h hn fun i y _ _ hE l hl => by
    obtain ⟨u, h1, h2⟩ := hE l hl
    exact ⟨u, h1, ElR.lift h2 hn⟩
theorem SetsR.ext {w w' : World} {n0 : Nat} {v : Value} {L : List (List Int)} (h : SetsR w n0 v L) (x : Ext w w') : SetsR w' n0 v L := h.old (x.old _)
theorem SetsR.form {w : World} {n0 : Nat} {v : Value} {L : List (List Int)} (h : SetsR w n0 v L) : ∃ a c, v = .slice a L.length c := by
  obtain ⟨a, c, h, _⟩ := h
  exact ⟨a, c, h⟩
theorem SetsR.len {w : World} {n0 : Nat} {v : Value} {L : List (List Int)} (h : SetsR w n0 v L) : (L.length : Int) ≤ 9223372036854775807 := by
  obtain ⟨a, c, _, h2, h3, _⟩ := h
  omega
theorem SetsR.at {w : World} {n0 : Nat} {a : Option Addr} {n cap : Nat} {L : List (List Int)} (h : SetsR w n0 (.slice a n cap) L) {k : Nat} (hk : k < L.length) : ∃ y l b c, a = some y ∧ L[k]? = some l ∧ w.cell? (y.add k) = some (.slice b l.length c) ∧ IntsR w n0 (.slice b l.length c) l := by
  obtain ⟨a', cap', h1, h2, h3, h4, h5⟩ := h
  obtain ⟨rfl, rfl, rfl⟩ : a = a' ∧ n = L.length ∧ cap = cap' := by simpa using h1
  obtain ⟨y, rfl⟩ := h4 (by omega)
  obtain ⟨l, hl⟩ : ∃ l, L[k]? = some l := ⟨_, List.getElem?_eq_getElem hk⟩
  obtain ⟨u, e1, e2⟩ := (h5 y rfl (by omega)).2 k hk l hl
  obtain ⟨b, c, rfl, _⟩ := id e2
  exact ⟨y, l, b, c, rfl, hl, e1, e2⟩
theorem IntsR.len {w : World} {n0 : Nat} {v : Value} {l : List Int} (h : IntsR w n0 v l) : (l.length : Int) ≤ 9223372036854775807 := by
  obtain ⟨a, c, _, h2, h3, _⟩ := h
  omega
section
variable {H : Type} {enc : TypeId × Value → H} {w : World} {base : Nat} {sp : Nat → Bool} {held : Bool} {n : Nat}
end
def fewSets (L : List (List Int)) : Prop := L.length ≤ 50 ∧ ∀ l ∈ L, l.length ≤ 60
theorem rows_info : (Tryz.prog.info? 43).map (fun i => (i.zero, i.size, i.bytes)) = some (some (.slice none 0 0), 1, 24) := by kernel_rfl
def Made (w : World) (vs : List Value) (L : List (List Int)) : Prop := vs.length = L.length ∧ ∀ (i : Nat) v l, vs[i]? = some v → L[i]? = some l → IntsT w v l
theorem Made.keep {X : Nat → Prop} {w w' : World} {vs : List Value} {L : List (List Int)} (h : Made w vs L) (k : Keep X w w') (hX : ∀ b, X b → ¬ IsInt w b) : Made w' vs L :=
  ⟨h.1, fun i v l h1 h2 => (h.2 i v l h1 h2).keep k hX⟩
theorem Made.ext {w w' : World} {vs : List Value} {L : List (List Int)} (h : Made w vs L) (x : Ext w w') : Made w' vs L := ⟨h.1, fun i v l h1 h2 => (h.2 i v l h1 h2).ext x⟩
theorem Made.snoc {w : World} {vs : List Value} {L : List (List Int)} {v : Value} {l : List Int} (h : Made w vs L) (hv : IntsT w v l) : Made w (vs ++ [v]) (L ++ [l]) := by
  refine ⟨by simp [h.1], fun i u m h1 h2 => ?_⟩
  have hlen := h.1
  rcases Nat.lt_trichotomy i L.length with hi | hi | hi
  · rw [List.getElem?_append_left (by omega)] at h1 h2
    exact h.2 i u m h1 h2
  · subst hi
    rw [List.getElem?_append_right (by omega), show L.length - vs.length = 0 by omega] at h1
    rw [List.getElem?_append_right (Nat.le_refl _), Nat.sub_self] at h2
    obtain rfl := Option.some.inj h1
    obtain rfl := Option.some.inj h2
    exact hv
  · rw [List.getElem?_eq_none (by simp; omega)] at h1
    cases h1
theorem SetsR.made {w : World} {base : Nat} {v : Value} {vs : List Value} {L : List (List Int)} (h : w.ownsRow base 43 1 v L.length vs) (hm : Made w vs L) : SetsR w w.heap.size v L := by
  rcases h.2 with ⟨rfl, h0⟩ | ⟨g, cap, cur, rfl, hb, hg, hn, hc, hcs, ht⟩
  · unfold SetsR
    rw [h0]
    exact ⟨none, 0, rfl, Nat.le_refl _, by decide, fun h => absurd h (by omega), fun y hy => by cases hy⟩
  · refine ⟨_, cap, rfl, hn, by unfold maxLen at hc; omega, fun _ => ⟨_, rfl⟩, fun y hy h0 => ?_⟩
    obtain rfl := Option.some.inj hy
    have hB : Blk w g cur 43 := hg
    refine ⟨hB.lt, fun i hi l hl => ?_⟩
    have hi2 : i < vs.length := by rw [hm.1]; exact hi
    obtain ⟨u, hu⟩ : ∃ u, vs[i]? = some u := ⟨_, List.getElem?_eq_getElem hi2⟩
    refine ⟨u, ?_, (hm.2 i u l hu hl).1⟩
    rw [show (⟨g, 0, none⟩ : Addr).add i = ⟨g, i, none⟩ from by by_cases h0 : i = 0 <;> simp [Addr.add, h0]]
    exact own_get h i hu
structure PW (w : World) (n0 : Nat) (ad : Nat → Addr) (a1 a2 a3 : Option Addr) (c1 c2 c3 : Nat) (P : PP) : Prop where
  errs : ErrsP w ad
  prog : ProgR w n0 (.slice a1 P.vars.length c1) (.slice a2 P.funs.length c2) (.slice a3 P.stmts.length c3) P
  z1 : ∀ s ∈ P.vars, s.size ≤ 1000000
  z2 : ∀ s ∈ P.names, s.size ≤ 1000000
  well : P.Well
theorem PW.ext {w w' : World} {n0 : Nat} {ad : Nat → Addr} {a1 a2 a3 : Option Addr} {c1 c2 c3 : Nat} {P : PP} (h : PW w n0 ad a1 a2 a3 c1 c2 c3 P) (x : Ext w w') : PW w' n0 ad a1 a2 a3 c1 c2 c3 P := ⟨h.errs.ext x, h.prog.ext x, h.z1, h.z2, h.well⟩
theorem PW.lift {w : World} {n0 n1 : Nat} {ad : Nat → Addr} {a1 a2 a3 : Option Addr} {c1 c2 c3 : Nat} {P : PP} (h : PW w n0 ad a1 a2 a3 c1 c2 c3 P) (hn : n0 ≤ n1) : PW w n1 ad a1 a2 a3 c1 c2 c3 P := ⟨h.errs, h.prog.lift hn, h.z1, h.z2, h.well⟩
def PP.objectsV (P : PP) : Nat := P.nodesV + P.funs.length
def PP.funV (P : PP) (o : Int) : Int := if 0 ≤ o - P.nodesV ∧ o - P.nodesV < P.funs.length then o - P.nodesV else -1
theorem PP.nodesV_le2 (P : PP) : P.nodesV ≤ P.vars.length + P.stmts.length := by
  unfold PP.nodesV
  have := P.newsN_le P.stmts.length
  omega
set_option maxRecDepth 100000 in
set_option maxHeartbeats 1600000 in
theorem progobjects_any (a1 a2 a3 : Option Addr) (c1 c2 c3 : Nat) (P : PP) (w : World) (n0 : Nat) (ad : Nat → Addr) (h : PW w n0 ad a1 a2 a3 c1 c2 c3 P) :
    Calls Tryz.prog 24 #[pval a1 a2 a3 c1 c2 c3 P] w fun e w' => e = .returned (.int .i64 (P.objectsV : Int)) ∧ Ext w w' := by
  have HM := fun w1 (x : Ext w w1) => hid (prognodes2_any a1 a2 a3 c1 c2 c3 P w1 n0 (h.prog.ext x) (by have := h.well.few; omega) (by have := h.well.few; omega))
  obtain ⟨W, hW⟩ : ∃ W, W = w.alloc (.cells (pcells a1 a2 a3 c1 c2 c3 P) 26) := ⟨_, rfl⟩
  have HX : Hid (Ext w W) := hid (by rw [hW]; exact (Ext.refl _).alloc _)
  have HBx : Hid (Blk W w.heap.size (pcells a1 a2 a3 c1 c2 c3 P) 26) := hid (by rw [hW]; exact Blk.new _ _ _)
  have HWe : Hid (W = w.alloc (.cells #[.slice a1 P.vars.length c1, .slice a2 P.funs.length c2, .slice a3 P.stmts.length c3] 26)) := hid (by rw [hW]; rfl)
  have HPW := hid h
  have HK := fun w1 (x : Ext w w1) => hid (check_well (h.errs.ext x) (h.prog.ext x) h.z1 h.z2 h.well)
  have HN := fun w1 (x : Ext w w1) => hid (prognodes_any a1 a2 a3 c1 c2 c3 P w1 n0 ad (h.errs.ext x) (h.prog.ext x) h.z1 h.z2 h.well)
  obtain ⟨hf1, hf2, hf3⟩ := h.well.few
  have hnl := P.nodesV_le2
  have d0 := HBx.out.av 0 rfl
  have d1 := HBx.out.av 1 rfl
  have d2 := HBx.out.av 2 rfl
  simp only [pcells, qA0, qA1, qA2] at d0 d1 d2
  unfold pval at HK HN ⊢
  clear hW h
  unfold pval at HM
  have Ho : Hid ((P.objectsV : Int) = (P.nodesV : Int) + (P.funs.length : Int)) := hid (by unfold PP.objectsV; omega)
  go_enter Tryz.func24, Tryz.ntmps24
  go_wp2_with fail
  rw [← HWe.out]
  have HK1 := HK W HX.out
  refine HK1.out.mono ?_
  intro e w1 hx
  obtain ⟨rfl, hx1⟩ := hx
  have e0 := (HBx.out.ext hx1).kc (X := fun _ => False) (fun e => e) 0 rfl
  have e1 := (HBx.out.ext hx1).kc (X := fun _ => False) (fun e => e) 1 rfl
  have e2 := (HBx.out.ext hx1).kc (X := fun _ => False) (fun e => e) 2 rfl
  simp only [pcells, qA0, qA1, qA2] at e0 e1 e2
  have Hx1 := hid (HX.out.trans hx1)
  clear HK HK1 HN hx1 d0 d1 d2
  generalize P.nodesV = N at *
  go_wp2
  refine wp_flowT (fun _ => False) (by kernel_rfl) (by kernel_rfl) ?_
  repeat (apply FlowT.d; (intro w1 hk; unfold does; go_simp; (try go_ints); (first | exact DetR.mk | (simp only [↓IntWalk.iteOmega, Oper.doesUpon_value]; exact DetR.mk) | (simp only [↓IntWalk.iteOmega]; go_simp; (try go_ints); exact DetR.mk))); simp only [Act.put, qS0, qS1, qS2])
  apply FlowT.d
  · intro w1 hk
    unfold does
    go_simp
    exact CallR.det ((HM w1 (Hx1.out.trans hk.ext)).out)
  simp only [Act.put, qS0, qS1, qS2]
  repeat (apply FlowT.d; (intro w1 hk; unfold does; go_simp; (try go_ints); (first | exact DetR.mk | (simp only [↓IntWalk.iteOmega, Oper.doesUpon_value]; exact DetR.mk) | (simp only [↓IntWalk.iteOmega]; go_simp; (try go_ints); exact DetR.mk))); simp only [Act.put, qS0, qS1, qS2])
  refine FlowT.fin fun w2 hx2 hk2 => ?_
  have Hx2 := hid (Hx1.out.trans hx2)
  clear hx2 hk2 e0 e1 e2 HM
  go_wp2
  go_ret
  exact ⟨by rw [Ho.out]; rfl, Hx2.out⟩
set_option maxRecDepth 100000 in
set_option maxHeartbeats 1600000 in
theorem progfun_any (a1 a2 a3 : Option Addr) (c1 c2 c3 : Nat) (P : PP) (o : Int) (w : World) (n0 : Nat) (ad : Nat → Addr) (h : PW w n0 ad a1 a2 a3 c1 c2 c3 P) (ho : 0 ≤ o ∧ o < 1000) :
    Calls Tryz.prog 103 #[pval a1 a2 a3 c1 c2 c3 P, .int .i64 o] w fun e w' => e = .returned (.int .i64 (P.funV o)) ∧ Ext w w' := by
  obtain ⟨W, hW⟩ : ∃ W, W = w.alloc (.cells (pcells a1 a2 a3 c1 c2 c3 P) 26) := ⟨_, rfl⟩
  have HX : Hid (Ext w W) := hid (by rw [hW]; exact (Ext.refl _).alloc _)
  have HBx : Hid (Blk W w.heap.size (pcells a1 a2 a3 c1 c2 c3 P) 26) := hid (by rw [hW]; exact Blk.new _ _ _)
  have HWe : Hid (W = w.alloc (.cells #[.slice a1 P.vars.length c1, .slice a2 P.funs.length c2, .slice a3 P.stmts.length c3] 26)) := hid (by rw [hW]; rfl)
  have HPW := hid h
  have HK := fun w1 (x : Ext w w1) => hid (check_well (h.errs.ext x) (h.prog.ext x) h.z1 h.z2 h.well)
  have HN := fun w1 (x : Ext w w1) => hid (prognodes_any a1 a2 a3 c1 c2 c3 P w1 n0 ad (h.errs.ext x) (h.prog.ext x) h.z1 h.z2 h.well)
  obtain ⟨hf1, hf2, hf3⟩ := h.well.few
  have hnl := P.nodesV_le2
  have d0 := HBx.out.av 0 rfl
  have d1 := HBx.out.av 1 rfl
  have d2 := HBx.out.av 2 rfl
  simp only [pcells, qA0, qA1, qA2] at d0 d1 d2
  unfold pval at HK HN ⊢
  clear hW h
  obtain ⟨ho1, ho2⟩ := ho
  obtain ⟨N, hN⟩ : ∃ N, N = P.nodesV := ⟨_, rfl⟩
  have Hf : Hid (P.funV o = if 0 ≤ o - (N : Int) ∧ o - (N : Int) < P.funs.length then o - (N : Int) else -1) := hid (by unfold PP.funV; rw [hN])
  rw [← hN] at hnl HN
  clear hN
  go_enter Tryz.func103, Tryz.ntmps103
  go_wp2_with fail
  rw [← HWe.out]
  have HN1 := HN W HX.out
  refine HN1.out.mono ?_
  intro e w1 hx
  obtain ⟨rfl, hx1⟩ := hx
  have Hx1 := hid hx1
  clear d0 d1 d2
  have d0 := (HBx.out.ext Hx1.out).av 0 rfl
  have d1 := (HBx.out.ext Hx1.out).av 1 rfl
  have d2 := (HBx.out.ext Hx1.out).av 2 rfl
  simp only [pcells, qA0, qA1, qA2] at d0 d1 d2
  have HK1 := HK w1 (HX.out.trans hx1)
  clear HN HN1 HK hx1
  go_wp2_with fail
  refine HK1.out.mono ?_
  intro e w2 hx
  obtain ⟨rfl, hx2⟩ := hx
  have Hx2 := hid (Hx1.out.trans hx2)
  clear d0 d1 d2 HK1 hx2
  have d0 := (HBx.out.ext Hx2.out).av 0 rfl
  have d1 := (HBx.out.ext Hx2.out).av 1 rfl
  have d2 := (HBx.out.ext Hx2.out).av 2 rfl
  simp only [pcells, qA0, qA1, qA2] at d0 d1 d2
  by_cases hlo : o - (N : Int) < 0
  · have Hr : Hid (P.funV o = -1) := hid (by rw [Hf.out, if_neg (by omega)])
    go_wp2
    go_ret
    exact ⟨by rw [Hr.out]; rfl, HX.out.trans Hx2.out⟩
  · by_cases hhi : (P.funs.length : Int) ≤ o - (N : Int)
    · have Hr : Hid (P.funV o = -1) := hid (by rw [Hf.out, if_neg (by omega)])
      go_wp2
      go_ret
      exact ⟨by rw [Hr.out]; rfl, HX.out.trans Hx2.out⟩
    · have Hr : Hid (P.funV o = o - (N : Int)) := hid (by rw [Hf.out, if_pos (by omega)])
      go_wp2
      go_ret
      exact ⟨by rw [Hr.out]; rfl, HX.out.trans Hx2.out⟩
end Go.Proofs.YtngdpnlgnpdkcaaGreatDoor
namespace Go.Proofs
open Go.Shelf
def Tryz.lays189_ren : Go.Shelf.Ren := ⟨fun | 189 => 91 | 125 => 107 | 257 => 122 | 128 => 141 | 129 => 142 | 294 => 148 | 295 => 149 | 296 => 150 | 297 => 151 | 298 => 152 | 299 => 153 | 216 => 154 | 300 => 155 | 301 => 156 | 328 => 170 | 329 => 165 | 330 => 166 | 331 => 171 | 332 => 172 | 215 => 173 | 343 => 184 | n => n, fun | 28 => 43 | 3 => 3 | 46 => 167 | 0 => 0 | 51 => 205 | 53 => 207 | 4 => 4 | 183 => 199 | 182 => 198 | 131 => 89 | 5 => 5 | 9 => 9 | 218 => 240 | 222 => 244 | 228 => 256 | 229 => 99 | n => n, fun | n => n⟩
theorem Tryz.lays189 : Go.Proofs.Lays.n189 Tryz.prog Tryz.lays189_ren := {
  mixed := by kernel_rfl
  f125 := Tryz.func107.trans (congrArg some (by kernel_rfl))
  f128 := Tryz.func141.trans (congrArg some (by kernel_rfl))
  f129 := Tryz.func142.trans (congrArg some (by kernel_rfl))
  f189 := Tryz.func91.trans (congrArg some (by kernel_rfl))
  f215 := Tryz.func173.trans (congrArg some (by kernel_rfl))
  f216 := Tryz.func154.trans (congrArg some (by kernel_rfl))
  f257 := Tryz.func122.trans (congrArg some (by kernel_rfl))
  f294 := Tryz.func148.trans (congrArg some (by kernel_rfl))
  f295 := Tryz.func149.trans (congrArg some (by kernel_rfl))
  f296 := Tryz.func150.trans (congrArg some (by kernel_rfl))
  f297 := Tryz.func151.trans (congrArg some (by kernel_rfl))
  f298 := Tryz.func152.trans (congrArg some (by kernel_rfl))
  f299 := Tryz.func153.trans (congrArg some (by kernel_rfl))
  f300 := Tryz.func155.trans (congrArg some (by kernel_rfl))
  f301 := Tryz.func156.trans (congrArg some (by kernel_rfl))
  f328 := Tryz.func170.trans (congrArg some (by kernel_rfl))
  f329 := Tryz.func165.trans (congrArg some (by kernel_rfl))
  f330 := Tryz.func166.trans (congrArg some (by kernel_rfl))
  f331 := Tryz.func171.trans (congrArg some (by kernel_rfl))
  f332 := Tryz.func172.trans (congrArg some (by kernel_rfl))
  f343 := Tryz.func184.trans (congrArg some (by kernel_rfl))
  t0 := Tryz.underlying0
  a0 := Tryz.isAgg0
  z0 := Tryz.sizeOf0
  v0 := Tryz.zeroValue0
  t3 := Tryz.underlying3
  a3 := Tryz.isAgg3
  z3 := Tryz.sizeOf3
  v3 := Tryz.zeroValue3
  t4 := Tryz.underlying4
  a4 := Tryz.isAgg4
  z4 := Tryz.sizeOf4
  v4 := Tryz.zeroValue4
  t5 := Tryz.underlying5
  a5 := Tryz.isAgg5
  z5 := Tryz.sizeOf5
  v5 := Tryz.zeroValue5
  t9 := Tryz.underlying9
  a9 := Tryz.isAgg9
  z9 := Tryz.sizeOf9
  v9 := Tryz.zeroValue9
  t28 := Tryz.underlying43
  a28 := Tryz.isAgg43
  z28 := Tryz.sizeOf43
  v28 := Tryz.zeroValue43
  t46 := Tryz.underlying167
  a46 := Tryz.isAgg167
  z46 := Tryz.sizeOf167
  v46 := Tryz.zeroValue167
  t51 := Tryz.underlying205
  a51 := Tryz.isAgg205
  z51 := Tryz.sizeOf205
  v51 := Tryz.zeroValue205
  t53 := Tryz.underlying207
  a53 := Tryz.isAgg207
  z53 := Tryz.sizeOf207
  v53 := Tryz.zeroValue207
  t131 := Tryz.underlying89
  a131 := Tryz.isAgg89
  z131 := Tryz.sizeOf89
  v131 := Tryz.zeroValue89
  t182 := Tryz.underlying198
  a182 := Tryz.isAgg198
  z182 := Tryz.sizeOf198
  v182 := Tryz.zeroValue198
  t183 := Tryz.underlying199
  a183 := Tryz.isAgg199
  z183 := Tryz.sizeOf199
  v183 := Tryz.zeroValue199
  t218 := Tryz.underlying240
  a218 := Tryz.isAgg240
  z218 := Tryz.sizeOf240
  v218 := Tryz.zeroValue240
  t222 := Tryz.underlying244
  a222 := Tryz.isAgg244
  z222 := Tryz.sizeOf244
  v222 := Tryz.zeroValue244
  t228 := Tryz.underlying256
  a228 := Tryz.isAgg256
  z228 := Tryz.sizeOf256
  v228 := Tryz.zeroValue256
  t229 := Tryz.underlying99
  a229 := Tryz.isAgg99
  z229 := Tryz.sizeOf99
  v229 := Tryz.zeroValue99 }
open Go.Sort Go.RowKit in
theorem Tryz.slices_Sort_int (blk off cap : Nat) (zs : List Int) (w : World) (hH : Holds (Value.int .i64) w blk off zs.toArray) (hblk : blk < w.heap.size) (hsz : zs.length < 4611686018427387904) :
    Calls Tryz.prog 91 #[.slice (some ⟨blk, off, none⟩) zs.length cap] w fun e w' =>
      e = .returned (.tuple #[]) ∧ ∃ n os, w' = grow (putRow (Value.int .i64) (Sort.ahead w n) blk off (zs.mergeSort fun x y => decide (x ≤ y)).toArray) os := Any.slices_Sort_int Tryz.lays189 blk off cap zs w hH hblk hsz
def Tryz.laysNm220_ren : Go.Shelf.Ren := ⟨fun | 20 => 50 | n => n, fun | 22 => 43 | 3 => 3 | 4 => 4 | 0 => 0 | n => n, fun | n => n⟩
theorem Tryz.laysNm220 : Go.Proofs.Lays2.n20 Tryz.prog Tryz.laysNm220_ren := {
  mixed := by kernel_rfl
  f20 := Tryz.func50.trans (congrArg some (by kernel_rfl))
  t0 := Tryz.underlying0
  a0 := Tryz.isAgg0
  z0 := Tryz.sizeOf0
  v0 := Tryz.zeroValue0
  t3 := Tryz.underlying3
  a3 := Tryz.isAgg3
  z3 := Tryz.sizeOf3
  v3 := Tryz.zeroValue3
  t4 := Tryz.underlying4
  a4 := Tryz.isAgg4
  z4 := Tryz.sizeOf4
  v4 := Tryz.zeroValue4
  t22 := Tryz.underlying43
  a22 := Tryz.isAgg43
  z22 := Tryz.sizeOf43
  v22 := Tryz.zeroValue43
  i3 := by kernel_rfl }
open Go.RowKit Go.Lib Go.Sort in
theorem Tryz.slices_Compact_int (blk off cap : Nat) (zs : List Int) (w : World) (hH : Holds (Value.int .i64) w blk off zs.toArray) (hsz : zs.length ≤ 9223372036854775807) (hcap : zs.length ≤ cap) :
    Calls Tryz.prog 50 #[.slice (some ⟨blk, off, none⟩) zs.length cap] w fun e w' => e = .returned (.slice (some ⟨blk, off, none⟩) (Lib.compact zs).length cap) ∧ ∃ q, w' = putRow (Value.int .i64) (Sort.ahead w q) blk off (Lib.compact zs ++ List.replicate (zs.length - (Lib.compact zs).length) 0).toArray := Any.slices_Compact_int Tryz.laysNm220 blk off cap zs w hH hsz hcap
open Go.RowKit Go.Lib Go.Sort in
theorem Tryz.slices_Compact_int_empty (a : Option Addr) (cap : Nat) (w : World) :
    Calls Tryz.prog 50 #[.slice a 0 cap] w fun e w' => e = .returned (.slice a 0 cap) ∧ w' = w := Any.slices_Compact_int_empty Tryz.laysNm220 a cap w
open Go.RowKit Go.Sort in
theorem Tryz.slices_Sort_int_none (p : Option Addr) (cap : Nat) (w : World) :
    Calls Tryz.prog 91 #[.slice p 0 cap] w fun e w' => e = .returned (.tuple #[]) ∧ w' = w := Any.slices_Sort_int_none Tryz.lays189 p cap w
end Go.Proofs
namespace Go.Proofs.YtngdpnlgnpdkcaaGreatDoor
open Go Go.RowKit
set_option maxRecDepth 100000 in
set_option maxHeartbeats 800000 in
theorem clone_big (v : Value) (l : List Int) (w : World) (n0 : Nat) (h : IntsR w n0 v l) (hl : l.length ≤ 100000) :
    Calls Tryz.prog 97 #[v] w fun e w' => ∃ v', e = .returned v' ∧ Ext w w' ∧ IRow w.heap.size w' v' l := by
  obtain ⟨a, cap, rfl, h2, h3, h4, h5⟩ := id h
  have hl2 : 0 + l.length ≤ 1000000 := by omega
  cases a with
  | none =>
    have h0 : l.length = 0 := by
      rcases Nat.eq_zero_or_pos l.length with e | e
      · exact e
      · obtain ⟨x, hx⟩ := h4 e; cases hx
    obtain rfl : l = [] := List.eq_nil_of_length_eq_zero h0
    have he := Lib.run_eql_slice_nil (P := Tryz.prog) w 43 3 none 0 cap 0 0 Tryz.underlying43
    clear h h2 h3 h4 h5 h0
    go_enter Tryz.func97, Tryz.ntmps97
    go_wp2
    go_ret
    exact ⟨_, rfl, Ext.refl _, IRow.nil _ _⟩
  | some x =>
    have Hs := hid h.src
    have hnil : IRow w.heap.size (w.alloc (.cells #[] 3)) (.slice (some ⟨w.heap.size, 0, none⟩) 0 0) [] := World.ownsRow_made w #[] 0 (Nat.le_refl _) (by unfold maxLen; omega) rfl
    have Hnil := hid hnil
    have hb : w.heap.size ≤ (w.alloc (.cells #[] 3)).heap.size := by simp
    have hx1 : Hid (Ext w (w.alloc (.cells #[] 3))) := hid ((Ext.refl _).alloc _)
    have hs1 : Hid (Src (w.alloc (.cells #[] 3)) (some x) l.length 1 (icells l)) := hid (h.old ((hx1.out).old n0)).src
    have he := Lib.run_eql_slice_nil (P := Tryz.prog) w 43 3 (some x) l.length cap 0 0 Tryz.underlying43
    clear h h2 h3 h4 h5 hnil
    go_enter Tryz.func97, Tryz.ntmps97
    go_wp2_with (at_builtin; refine wpList_append_src w.heap.size hb 43 3 (.int .i64 0) 1 8 Tryz.underlying43 ints_info rfl (by omega) (by omega) rfl _ _ rfl (.slice (some ⟨w.heap.size, 0, none⟩) 0 0) 0 [] rfl Hnil.out (some x) l.length cap (icells l) rfl hs1.out hl2 ?_; intro v' w' h1 h2 h4; have h3 := Keep.new hx1.out h2 (fun k hk => by simp [Value.ownBlock] at hk; omega))
    go_ret
    exact ⟨_, rfl, h3, by unfold IRow; simpa using h1⟩
theorem sort_row (v : Value) (l : List Int) (w : World) (base : Nat) (h : IRow base w v l) (hl : l.length ≤ 100000) :
    Calls Tryz.prog 91 #[v] w fun e w' => e = .returned (.tuple #[]) ∧ IRow base w' v (l.mergeSort fun x y => decide (x ≤ y)) ∧ Keep (fun b => v.ownBlock = some b) w w' := by
  rcases h.case with ⟨rfl, rfl⟩ | ⟨g, cap, rfl⟩
  · refine (Tryz.slices_Sort_int_none none 0 w).mono ?_
    rintro e w' ⟨rfl, rfl⟩
    exact ⟨rfl, by simpa using h, Keep.refl _ _⟩
  · obtain ⟨_, _, _, _, cur, hb, _, _⟩ := h.cur
    refine (Tryz.slices_Sort_int g 0 cap l w h.holds hb.lt (by omega)).mono ?_
    rintro e w' ⟨rfl, q, os, rfl⟩
    obtain ⟨p1, p2⟩ := h.put (q := q) (os := os) (ys := l.mergeSort fun x y => decide (x ≤ y)) (by simp) l.length (by simp)
    refine ⟨rfl, ?_, p2.mono fun b _ e => by simp [Value.ownBlock, e]⟩
    rwa [List.take_of_length_le (by simp)] at p1
theorem compact_row (v : Value) (l : List Int) (w : World) (base : Nat) (h : IRow base w v l) (hl : l.length ≤ 100000) :
    Calls Tryz.prog 50 #[v] w fun e w' => ∃ v', e = .returned v' ∧ IRow base w' v' (Lib.compact l) ∧ Keep (fun b => v.ownBlock = some b) w w' := by
  rcases h.case with ⟨rfl, rfl⟩ | ⟨g, cap, rfl⟩
  · refine (Tryz.slices_Compact_int_empty none 0 w).mono ?_
    rintro e w' ⟨rfl, rfl⟩
    exact ⟨_, rfl, h, Keep.refl _ _⟩
  · obtain ⟨_, _, h2, h3, cur, hb, _, _⟩ := h.cur
    have hcl := Lib.compact_length_le l
    refine (Tryz.slices_Compact_int g 0 cap l w h.holds (by omega) h2).mono ?_
    rintro e w' ⟨rfl, q, rfl⟩
    obtain ⟨p1, p2⟩ := h.put (q := q) (os := #[]) (ys := Lib.compact l ++ List.replicate (l.length - (Lib.compact l).length) 0) (by simp; omega) (Lib.compact l).length (by simp)
    rw [Sort.grow_empty] at p1 p2
    refine ⟨_, rfl, ?_, p2.mono fun b _ e => by simp [Value.ownBlock, e]⟩
    rwa [List.take_left] at p1
theorem Keep.fresh {w w1 w2 : World} {base : Nat} {v : Value} {l : List Int} (hx : Ext w w1) (h : IRow base w1 v l) (hb : w.heap.size ≤ base) (k : Keep (fun b => v.ownBlock = some b) w1 w2) : Ext w w2 :=
  Keep.new hx k fun b hb' => Nat.le_trans hb (h.lt hb').1
def OfR (ad : Nat → Addr) (l : List Int) (n0 : Nat) (w : World) (t : Value) : Prop :=
  (InR l ∧ ∃ v, t = .tuple #[v, .nilIface] ∧ IRow n0 w v (sset l)) ∨ (¬ InR l ∧ t = .tuple #[.slice none 0 0, evOf ad 2])
theorem ofBad {l : List Int} {x : Int} (hx : x ∈ l) (h : x < 0 ∨ 1000 ≤ x) : ¬ InR l := fun g => by
  have := g x hx
  omega
set_option maxRecDepth 100000 in
set_option maxHeartbeats 1600000 in
theorem setof_any (v : Value) (l : List Int) (w : World) (n0 : Nat) (ad : Nat → Addr) (hE : ErrS w ad) (h : IntsR w n0 v l) (hl : l.length ≤ 100000) :
    Calls Tryz.prog 162 #[v] w fun e w' => ∃ t, e = .returned t ∧ OfR ad l w.heap.size w' t ∧ Ext w w' := by
  have HC := fun w1 (x : Ext w w1) => hid (clone_big v l w1 n0 (h.old (x.old n0)) hl)
  obtain ⟨a, cap, rfl, h2, h3, h4, h5⟩ := id h
  have HE := hid hE
  have H4 := hid h4
  have H5 := hid h5
  have g2 := hE.at2
  unfold evOf at g2
  have hml : (l.length : Int) ≤ 9223372036854775807 := by omega
  clear h h2 h3 h4 h5 hE
  go_enter Tryz.func162, Tryz.ntmps162
  go_wp2
  go_loopw [9] (fun t9 wr => ∃ k : Nat, t9 = .int .i64 (k : Int) ∧ k ≤ l.length ∧ (∀ j t, j < k → l[j]? = some t → 0 ≤ t ∧ t < 1000) ∧ Ext w wr) (fun t9 _ => l.length - (intOf t9).toNat)
  case atStart => exact ⟨0, rfl, Nat.zero_le _, fun j t h => by omega, Ext.refl _⟩
  case round =>
    obtain ⟨k, rfl, hk, hp, hx⟩ := hrel
    have Hp := hid hp
    have Hx := hid hx
    have gx2 : ∀ w1, Keep (fun _ => False) wr w1 → w1.cell? ⟨3, 0, none⟩ = some (.iface 273 (.pointer (some (ad 2)))) := fun w1 kk => (hx.trans kk.ext).cellx g2
    clear hp
    by_cases hlt : k < l.length
    · obtain ⟨y, rfl⟩ := H4.out (by omega)
      obtain ⟨q, hq⟩ : ∃ q, l[k]? = some q := ⟨_, List.getElem?_eq_getElem hlt⟩
      have hc := hx.cellx ((H5.out y rfl (by omega)).2 k hlt q hq)
      have Hq := hid hq
      clear hq hx
      by_cases hq0 : q < 0
      · have Hr := hid (ofBad (List.mem_of_getElem? Hq.out) (by omega))
        go_wp2
        refine wp_flowT (fun _ => False) (by kernel_rfl) (by kernel_rfl) ?_
        repeat (apply FlowT.d; (intro w1 hk; unfold does; go_simp; (try go_ints); (first | exact DetR.mk | (simp only [↓IntWalk.iteOmega, Oper.doesUpon_value]; exact DetR.mk) | (simp only [↓IntWalk.iteOmega]; go_simp; (try go_ints); exact DetR.mk))); simp only [Act.put, qS0, qS1, qS2])
        refine FlowT.fin fun w1 hx1 hk1 => ?_
        have Hx1 := hid (Hx.out.trans hx1)
        clear hx1 hk1
        go_wp2
        go_ret2
        exact ⟨_, rfl, .inr ⟨Hr.out, rfl⟩, Hx1.out⟩
      · by_cases hq1 : 1000 ≤ q
        · have Hr := hid (ofBad (List.mem_of_getElem? Hq.out) (by omega))
          go_wp2
          refine wp_flowT (fun _ => False) (by kernel_rfl) (by kernel_rfl) ?_
          repeat (apply FlowT.d; (intro w1 hk; unfold does; go_simp; (try go_ints); (first | exact DetR.mk | (simp only [↓IntWalk.iteOmega, Oper.doesUpon_value]; exact DetR.mk) | (simp only [↓IntWalk.iteOmega]; go_simp; (try go_ints); exact DetR.mk))); simp only [Act.put, qS0, qS1, qS2])
          refine FlowT.fin fun w1 hx1 hk1 => ?_
          have Hx1 := hid (Hx.out.trans hx1)
          clear hx1 hk1
          go_wp2
          go_ret2
          exact ⟨_, rfl, .inr ⟨Hr.out, rfl⟩, Hx1.out⟩
        · have Hb : Hid (0 ≤ q ∧ q < 1000) := hid (by omega)
          clear gx2
          go_wp2
          go_roundw
          case rel =>
            refine ⟨k + 1, by go_num, by omega, fun j t hj ht => ?_, Hx.out⟩
            by_cases hjk : j = k
            · subst hjk
              obtain rfl := Option.some.inj (Hq.out.symm.trans ht)
              exact Hb.out
            · exact Hp.out j t (by omega) ht
          case measure => simp [intOf]; omega
    · obtain rfl : k = l.length := by omega
      have Hin : Hid (InR l) := hid fun t ht => by
        obtain ⟨j, hj, e⟩ := List.mem_iff_getElem.1 ht
        exact Hp.out j t hj (by rw [List.getElem?_eq_getElem hj, e])
      have HC1 := HC wr hx
      clear HC hx gx2
      go_wp2_with fail
      refine HC1.out.mono ?_
      intro e w1 hx
      obtain ⟨v1, rfl, hx1, hr1⟩ := hx
      obtain ⟨a1, p1, rfl⟩ := hr1.form
      have HS := hid (sort_row _ l w1 wr.heap.size hr1 hl)
      have Hr1 := hid hr1
      have Hx1 := hid hx1
      clear HC1 hr1 hx1
      go_wp2_with fail
      refine HS.out.mono ?_
      intro e w2 hx
      obtain ⟨rfl, hr2, hk2⟩ := hx
      have HK := hid (compact_row _ _ w2 wr.heap.size hr2 (by simpa using hl))
      have Hr2 := hid hr2
      have Hk2 := hid (Keep.fresh Hx1.out Hr1.out (Nat.le_refl _) hk2)
      clear HS hr2 hk2
      go_wp2_with fail
      refine HK.out.mono ?_
      intro e w3 hx
      obtain ⟨v3, rfl, hr3, hk3⟩ := hx
      have Hr3 : Hid (IRow w.heap.size w3 v3 (sset l)) := hid (by rw [compact_sort Hin.out] at hr3; exact hr3.base Hx.out.size)
      have Hk3 := hid (Keep.fresh Hk2.out Hr2.out (Nat.le_refl _) hk3)
      obtain ⟨a3, p3, rfl⟩ := Hr3.out.form
      clear HK hr3 hk3
      go_wp2
      go_ret2
      exact ⟨_, rfl, .inl ⟨Hin.out, _, rfl, Hr3.out⟩, Hx.out.trans Hk3.out⟩
structure RV where
  kind : ByteArray
  a : Int
  b : Int
  k : Int
  args : List Int
def RV.val (r : RV) (av : Value) : Value := .agg #[.string r.kind, .int .i64 r.a, .int .i64 r.b, .int .i64 r.k, av]
def bBase : ByteArray := ⟨#[98, 97, 115, 101]⟩
def bCall : ByteArray := ⟨#[99, 97, 108, 108]⟩
def PP.ruleV (P : PP) (k : Nat) (x : PS) : RV :=
  bif x.isK kAddr then ⟨bBase, x.x, x.y, k, []⟩ else
  bif x.isK kNew then ⟨bBase, x.x, P.placeV k, k, []⟩ else
  bif x.isK kFun then ⟨bBase, x.x, (P.nodesV : Int) + x.y, k, []⟩ else
  bif x.isK kCall then ⟨bCall, x.y, x.x, k, x.args⟩ else ⟨x.kind, x.y, x.x, k, []⟩
theorem IntsT.nil (w : World) : IntsT w (.slice none 0 0) [] := ⟨⟨none, 0, rfl, Nat.le_refl _, by decide, fun h => absurd h (by decide), fun y hy => by cases hy⟩, fun b hb => by cases hb⟩
theorem store5_old {w : World} {n : Nat} {v : Value} {l : List Int} {c : Array Value} (h : IntsT w v l) (hB : Blk w n c 87) (b0 b1 b2 b3 b4 : Value) : IntsT (((((w.setCell ⟨n, 0, none⟩ b0).setCell ⟨n, 1, none⟩ b1).setCell ⟨n, 2, none⟩ b2).setCell ⟨n, 3, none⟩ b3).setCell ⟨n, 4, none⟩ b4) v l :=
  h.keep (store5_keep w n b0 b1 b2 b3 b4) fun b e => by subst e; exact IsInt.not hB (by decide)
set_option maxRecDepth 100000 in
set_option maxHeartbeats 6400000 in
theorem consrule_addr (a1 a2 a3 : Option Addr) (c1 c2 c3 : Nat) (P : PP) (k : Nat) (x : PS) (hxk : P.stmts[k]? = some x) (w : World) (n0 : Nat) (ad : Nat → Addr) (h : PW w n0 ad a1 a2 a3 c1 c2 c3 P) (hkx : x.isK kAddr = true) :
    Calls Tryz.prog 80 #[pval a1 a2 a3 c1 c2 c3 P, .int .i64 (k : Int)] w fun e w' => ∃ av, e = .returned ((P.ruleV k x).val av) ∧ IntsT w' av (P.ruleV k x).args ∧ Ext w w' := by
  obtain ⟨W1, hW1⟩ : ∃ W1, W1 = w.alloc (.cells (pcells a1 a2 a3 c1 c2 c3 P) 26) := ⟨_, rfl⟩
  have hx1 : Ext w W1 := by rw [hW1]; exact (Ext.refl _).alloc _
  obtain ⟨W2, hW2⟩ : ∃ W2, W2 = W1.alloc (.cells #[.string ⟨#[]⟩, .int .i64 0, .int .i64 0, .int .i64 0, .slice none 0 0] 87) := ⟨_, rfl⟩
  have hx2 : Ext W1 W2 := by rw [hW2]; exact (Ext.refl _).alloc _
  have hk : k < P.stmts.length := by
    rcases Nat.lt_or_ge k P.stmts.length with h | h
    · exact h
    · rw [List.getElem?_eq_none h] at hxk; cases hxk
  have hml := h.prog.stmts.len
  obtain ⟨y, x', av, cv, rfl, hxk', e0, e1, e2, e3, hI⟩ := (h.prog.ext (hx1.trans hx2)).stmts.at hk
  obtain rfl := Option.some.inj (hxk.symm.trans hxk')
  obtain ⟨W3, hW3⟩ : ∃ W3, W3 = W2.alloc (.cells (scells x av cv) 76) := ⟨_, rfl⟩
  have hx3 : Ext W2 W3 := by rw [hW3]; exact (Ext.refl _).alloc _
  have s1 : W1.heap.size = w.heap.size + 1 := by rw [hW1, heap_size_alloc]
  have s2 : W2.heap.size = w.heap.size + 1 + 1 := by rw [hW2, heap_size_alloc, s1]
  have HX := hid ((hx1.trans hx2).trans hx3)
  have HB0 : Hid (Blk W3 w.heap.size (pcells a1 a2 (some y) c1 c2 c3 P) 26) := hid (by
    have : Blk W1 w.heap.size (pcells a1 a2 (some y) c1 c2 c3 P) 26 := by rw [hW1]; exact Blk.new _ _ _
    exact this.ext (hx2.trans hx3))
  have HB1 : Hid (Blk W3 (w.heap.size + 1) #[.string ⟨#[]⟩, .int .i64 0, .int .i64 0, .int .i64 0, .slice none 0 0] 87) := hid (by
    have : Blk W2 (w.heap.size + 1) #[.string ⟨#[]⟩, .int .i64 0, .int .i64 0, .int .i64 0, .slice none 0 0] 87 := by rw [← s1, hW2]; exact Blk.new _ _ _
    exact this.ext hx3)
  have HB2 : Hid (Blk W3 (w.heap.size + 1 + 1) (scells x av cv) 76) := hid (by rw [← s2, hW3]; exact Blk.new _ _ _)
  have HI := hid (hI.old (hx3.old n0))
  have HPW := hid h
  have Hxk := hid hxk
  rw [hW2, hW1] at e0 e1 e2 e3
  unfold pcells at e0 e1 e2 e3
  have HWe : Hid (W3 = ((w.alloc (.cells #[.slice a1 P.vars.length c1, .slice a2 P.funs.length c2, .slice (some y) P.stmts.length c3] 26)).alloc (.cells #[.string ⟨#[]⟩, .int .i64 0, .int .i64 0, .int .i64 0, .slice none 0 0] 87)).alloc (.cells #[.string x.kind, .int .i64 x.x, .int .i64 x.y, .slice av x.args.length cv] 76)) := hid (by rw [hW3, hW2, hW1]; rfl)
  obtain ⟨hf1, hf2, hf3⟩ := h.well.few
  clear hW1 hW2 hW3 hx1 hx2 hx3 s1 s2 hxk hxk' hI h
  unfold pval
  have Hr : Hid (P.ruleV k x = ⟨bBase, x.x, x.y, k, []⟩) := hid (by unfold PP.ruleV; rw [hkx]; rfl)
  have hkk := hkx
  unfold PS.isK kAddr at hkk
  clear hkx
  clear HWe
  go_enter Tryz.func80, Tryz.ntmps80
  go_wp2
  obtain ⟨V, hV⟩ : ∃ V, V = ((w.alloc (.cells #[.slice a1 P.vars.length c1, .slice a2 P.funs.length c2, .slice (some y) P.stmts.length c3] 26)).alloc (.cells #[.string ⟨#[98, 97, 115, 101]⟩, .int .i64 x.x, .int .i64 x.y, .int .i64 (k : Int), .slice none 0 0] 87)).alloc (.cells #[.string x.kind, .int .i64 x.x, .int .i64 x.y, .slice av x.args.length cv] 76) := ⟨_, rfl⟩
  have hxV : Ext w V := by rw [hV]; exact (((Ext.refl _).alloc _).alloc _).alloc _
  have HB9 : Blk V (w.heap.size + 1) #[.string ⟨#[98, 97, 115, 101]⟩, .int .i64 x.x, .int .i64 x.y, .int .i64 (k : Int), .slice none 0 0] 87 := by
    rw [hV]
    have := (Blk.new (w.alloc (.cells #[.slice a1 P.vars.length c1, .slice a2 P.funs.length c2, .slice (some y) P.stmts.length c3] 26)) #[.string ⟨#[98, 97, 115, 101]⟩, .int .i64 x.x, .int .i64 x.y, .int .i64 (k : Int), .slice none 0 0] 87).alloc (.cells #[.string x.kind, .int .i64 x.x, .int .i64 x.y, .slice av x.args.length cv] 76)
    rwa [heap_size_alloc] at this
  rw [← hV]
  exact bodyPost_ret (v := .agg #[.string ⟨#[98, 97, 115, 101]⟩, .int .i64 x.x, .int .i64 x.y, .int .i64 (k : Int), .slice none 0 0]) (by simp [results, Tryz.results80, go_sem, HB9.av 0 rfl, HB9.av 1 rfl, HB9.av 2 rfl, HB9.av 3 rfl, HB9.av 4 rfl]) rfl ⟨_, by rw [Hr.out]; rfl, by rw [Hr.out]; exact IntsT.nil _, hxV⟩
set_option maxRecDepth 100000 in
set_option maxHeartbeats 6400000 in
theorem consrule_copy (a1 a2 a3 : Option Addr) (c1 c2 c3 : Nat) (P : PP) (k : Nat) (x : PS) (hxk : P.stmts[k]? = some x) (w : World) (n0 : Nat) (ad : Nat → Addr) (h : PW w n0 ad a1 a2 a3 c1 c2 c3 P) (hkx : x.isK kCopy = true) :
    Calls Tryz.prog 80 #[pval a1 a2 a3 c1 c2 c3 P, .int .i64 (k : Int)] w fun e w' => ∃ av, e = .returned ((P.ruleV k x).val av) ∧ IntsT w' av (P.ruleV k x).args ∧ Ext w w' := by
  obtain ⟨W1, hW1⟩ : ∃ W1, W1 = w.alloc (.cells (pcells a1 a2 a3 c1 c2 c3 P) 26) := ⟨_, rfl⟩
  have hx1 : Ext w W1 := by rw [hW1]; exact (Ext.refl _).alloc _
  obtain ⟨W2, hW2⟩ : ∃ W2, W2 = W1.alloc (.cells #[.string ⟨#[]⟩, .int .i64 0, .int .i64 0, .int .i64 0, .slice none 0 0] 87) := ⟨_, rfl⟩
  have hx2 : Ext W1 W2 := by rw [hW2]; exact (Ext.refl _).alloc _
  have hk : k < P.stmts.length := by
    rcases Nat.lt_or_ge k P.stmts.length with h | h
    · exact h
    · rw [List.getElem?_eq_none h] at hxk; cases hxk
  have hml := h.prog.stmts.len
  obtain ⟨y, x', av, cv, rfl, hxk', e0, e1, e2, e3, hI⟩ := (h.prog.ext (hx1.trans hx2)).stmts.at hk
  obtain rfl := Option.some.inj (hxk.symm.trans hxk')
  obtain ⟨W3, hW3⟩ : ∃ W3, W3 = W2.alloc (.cells (scells x av cv) 76) := ⟨_, rfl⟩
  have hx3 : Ext W2 W3 := by rw [hW3]; exact (Ext.refl _).alloc _
  have s1 : W1.heap.size = w.heap.size + 1 := by rw [hW1, heap_size_alloc]
  have s2 : W2.heap.size = w.heap.size + 1 + 1 := by rw [hW2, heap_size_alloc, s1]
  have HX := hid ((hx1.trans hx2).trans hx3)
  have HB0 : Hid (Blk W3 w.heap.size (pcells a1 a2 (some y) c1 c2 c3 P) 26) := hid (by
    have : Blk W1 w.heap.size (pcells a1 a2 (some y) c1 c2 c3 P) 26 := by rw [hW1]; exact Blk.new _ _ _
    exact this.ext (hx2.trans hx3))
  have HB1 : Hid (Blk W3 (w.heap.size + 1) #[.string ⟨#[]⟩, .int .i64 0, .int .i64 0, .int .i64 0, .slice none 0 0] 87) := hid (by
    have : Blk W2 (w.heap.size + 1) #[.string ⟨#[]⟩, .int .i64 0, .int .i64 0, .int .i64 0, .slice none 0 0] 87 := by rw [← s1, hW2]; exact Blk.new _ _ _
    exact this.ext hx3)
  have HB2 : Hid (Blk W3 (w.heap.size + 1 + 1) (scells x av cv) 76) := hid (by rw [← s2, hW3]; exact Blk.new _ _ _)
  have HI := hid (hI.old (hx3.old n0))
  have HPW := hid h
  have Hxk := hid hxk
  rw [hW2, hW1] at e0 e1 e2 e3
  unfold pcells at e0 e1 e2 e3
  have HWe : Hid (W3 = ((w.alloc (.cells #[.slice a1 P.vars.length c1, .slice a2 P.funs.length c2, .slice (some y) P.stmts.length c3] 26)).alloc (.cells #[.string ⟨#[]⟩, .int .i64 0, .int .i64 0, .int .i64 0, .slice none 0 0] 87)).alloc (.cells #[.string x.kind, .int .i64 x.x, .int .i64 x.y, .slice av x.args.length cv] 76)) := hid (by rw [hW3, hW2, hW1]; rfl)
  obtain ⟨hf1, hf2, hf3⟩ := h.well.few
  clear hW1 hW2 hW3 hx1 hx2 hx3 s1 s2 hxk hxk' hI h
  unfold pval
  have h1 : (x.kind.toList == [97, 100, 100, 114]) = false := isK_ne hkx (k' := kAddr) rfl
  have h5 : (x.kind.toList == [110, 101, 119]) = false := isK_ne hkx (k' := kNew) rfl
  have h6 : (x.kind.toList == [102, 117, 110]) = false := isK_ne hkx (k' := kFun) rfl
  have h7 : (x.kind.toList == [99, 97, 108, 108]) = false := isK_ne hkx (k' := kCall) rfl
  have Hr : Hid (P.ruleV k x = ⟨x.kind, x.y, x.x, k, []⟩) := hid (by unfold PP.ruleV; rw [isK_ne hkx (k' := kAddr) rfl, isK_ne hkx (k' := kNew) rfl, isK_ne hkx (k' := kFun) rfl, isK_ne hkx (k' := kCall) rfl]; rfl)
  clear hkx
  clear HWe
  go_enter Tryz.func80, Tryz.ntmps80
  go_wp2
  obtain ⟨V, hV⟩ : ∃ V, V = ((w.alloc (.cells #[.slice a1 P.vars.length c1, .slice a2 P.funs.length c2, .slice (some y) P.stmts.length c3] 26)).alloc (.cells #[.string x.kind, .int .i64 x.y, .int .i64 x.x, .int .i64 (k : Int), .slice none 0 0] 87)).alloc (.cells #[.string x.kind, .int .i64 x.x, .int .i64 x.y, .slice av x.args.length cv] 76) := ⟨_, rfl⟩
  have hxV : Ext w V := by rw [hV]; exact (((Ext.refl _).alloc _).alloc _).alloc _
  have HB9 : Blk V (w.heap.size + 1) #[.string x.kind, .int .i64 x.y, .int .i64 x.x, .int .i64 (k : Int), .slice none 0 0] 87 := by
    rw [hV]
    have := (Blk.new (w.alloc (.cells #[.slice a1 P.vars.length c1, .slice a2 P.funs.length c2, .slice (some y) P.stmts.length c3] 26)) #[.string x.kind, .int .i64 x.y, .int .i64 x.x, .int .i64 (k : Int), .slice none 0 0] 87).alloc (.cells #[.string x.kind, .int .i64 x.x, .int .i64 x.y, .slice av x.args.length cv] 76)
    rwa [heap_size_alloc] at this
  rw [← hV]
  exact bodyPost_ret (v := .agg #[.string x.kind, .int .i64 x.y, .int .i64 x.x, .int .i64 (k : Int), .slice none 0 0]) (by simp [results, Tryz.results80, go_sem, HB9.av 0 rfl, HB9.av 1 rfl, HB9.av 2 rfl, HB9.av 3 rfl, HB9.av 4 rfl]) rfl ⟨_, by rw [Hr.out]; rfl, by rw [Hr.out]; exact IntsT.nil _, hxV⟩
set_option maxRecDepth 100000 in
set_option maxHeartbeats 6400000 in
theorem consrule_load (a1 a2 a3 : Option Addr) (c1 c2 c3 : Nat) (P : PP) (k : Nat) (x : PS) (hxk : P.stmts[k]? = some x) (w : World) (n0 : Nat) (ad : Nat → Addr) (h : PW w n0 ad a1 a2 a3 c1 c2 c3 P) (hkx : x.isK kLoad = true) :
    Calls Tryz.prog 80 #[pval a1 a2 a3 c1 c2 c3 P, .int .i64 (k : Int)] w fun e w' => ∃ av, e = .returned ((P.ruleV k x).val av) ∧ IntsT w' av (P.ruleV k x).args ∧ Ext w w' := by
  obtain ⟨W1, hW1⟩ : ∃ W1, W1 = w.alloc (.cells (pcells a1 a2 a3 c1 c2 c3 P) 26) := ⟨_, rfl⟩
  have hx1 : Ext w W1 := by rw [hW1]; exact (Ext.refl _).alloc _
  obtain ⟨W2, hW2⟩ : ∃ W2, W2 = W1.alloc (.cells #[.string ⟨#[]⟩, .int .i64 0, .int .i64 0, .int .i64 0, .slice none 0 0] 87) := ⟨_, rfl⟩
  have hx2 : Ext W1 W2 := by rw [hW2]; exact (Ext.refl _).alloc _
  have hk : k < P.stmts.length := by
    rcases Nat.lt_or_ge k P.stmts.length with h | h
    · exact h
    · rw [List.getElem?_eq_none h] at hxk; cases hxk
  have hml := h.prog.stmts.len
  obtain ⟨y, x', av, cv, rfl, hxk', e0, e1, e2, e3, hI⟩ := (h.prog.ext (hx1.trans hx2)).stmts.at hk
  obtain rfl := Option.some.inj (hxk.symm.trans hxk')
  obtain ⟨W3, hW3⟩ : ∃ W3, W3 = W2.alloc (.cells (scells x av cv) 76) := ⟨_, rfl⟩
  have hx3 : Ext W2 W3 := by rw [hW3]; exact (Ext.refl _).alloc _
  have s1 : W1.heap.size = w.heap.size + 1 := by rw [hW1, heap_size_alloc]
  have s2 : W2.heap.size = w.heap.size + 1 + 1 := by rw [hW2, heap_size_alloc, s1]
  have HX := hid ((hx1.trans hx2).trans hx3)
  have HB0 : Hid (Blk W3 w.heap.size (pcells a1 a2 (some y) c1 c2 c3 P) 26) := hid (by
    have : Blk W1 w.heap.size (pcells a1 a2 (some y) c1 c2 c3 P) 26 := by rw [hW1]; exact Blk.new _ _ _
    exact this.ext (hx2.trans hx3))
  have HB1 : Hid (Blk W3 (w.heap.size + 1) #[.string ⟨#[]⟩, .int .i64 0, .int .i64 0, .int .i64 0, .slice none 0 0] 87) := hid (by
    have : Blk W2 (w.heap.size + 1) #[.string ⟨#[]⟩, .int .i64 0, .int .i64 0, .int .i64 0, .slice none 0 0] 87 := by rw [← s1, hW2]; exact Blk.new _ _ _
    exact this.ext hx3)
  have HB2 : Hid (Blk W3 (w.heap.size + 1 + 1) (scells x av cv) 76) := hid (by rw [← s2, hW3]; exact Blk.new _ _ _)
  have HI := hid (hI.old (hx3.old n0))
  have HPW := hid h
  have Hxk := hid hxk
  rw [hW2, hW1] at e0 e1 e2 e3
  unfold pcells at e0 e1 e2 e3
  have HWe : Hid (W3 = ((w.alloc (.cells #[.slice a1 P.vars.length c1, .slice a2 P.funs.length c2, .slice (some y) P.stmts.length c3] 26)).alloc (.cells #[.string ⟨#[]⟩, .int .i64 0, .int .i64 0, .int .i64 0, .slice none 0 0] 87)).alloc (.cells #[.string x.kind, .int .i64 x.x, .int .i64 x.y, .slice av x.args.length cv] 76)) := hid (by rw [hW3, hW2, hW1]; rfl)
  obtain ⟨hf1, hf2, hf3⟩ := h.well.few
  clear hW1 hW2 hW3 hx1 hx2 hx3 s1 s2 hxk hxk' hI h
  unfold pval
  have h1 : (x.kind.toList == [97, 100, 100, 114]) = false := isK_ne hkx (k' := kAddr) rfl
  have h5 : (x.kind.toList == [110, 101, 119]) = false := isK_ne hkx (k' := kNew) rfl
  have h6 : (x.kind.toList == [102, 117, 110]) = false := isK_ne hkx (k' := kFun) rfl
  have h7 : (x.kind.toList == [99, 97, 108, 108]) = false := isK_ne hkx (k' := kCall) rfl
  have Hr : Hid (P.ruleV k x = ⟨x.kind, x.y, x.x, k, []⟩) := hid (by unfold PP.ruleV; rw [isK_ne hkx (k' := kAddr) rfl, isK_ne hkx (k' := kNew) rfl, isK_ne hkx (k' := kFun) rfl, isK_ne hkx (k' := kCall) rfl]; rfl)
  clear hkx
  clear HWe
  go_enter Tryz.func80, Tryz.ntmps80
  go_wp2
  obtain ⟨V, hV⟩ : ∃ V, V = ((w.alloc (.cells #[.slice a1 P.vars.length c1, .slice a2 P.funs.length c2, .slice (some y) P.stmts.length c3] 26)).alloc (.cells #[.string x.kind, .int .i64 x.y, .int .i64 x.x, .int .i64 (k : Int), .slice none 0 0] 87)).alloc (.cells #[.string x.kind, .int .i64 x.x, .int .i64 x.y, .slice av x.args.length cv] 76) := ⟨_, rfl⟩
  have hxV : Ext w V := by rw [hV]; exact (((Ext.refl _).alloc _).alloc _).alloc _
  have HB9 : Blk V (w.heap.size + 1) #[.string x.kind, .int .i64 x.y, .int .i64 x.x, .int .i64 (k : Int), .slice none 0 0] 87 := by
    rw [hV]
    have := (Blk.new (w.alloc (.cells #[.slice a1 P.vars.length c1, .slice a2 P.funs.length c2, .slice (some y) P.stmts.length c3] 26)) #[.string x.kind, .int .i64 x.y, .int .i64 x.x, .int .i64 (k : Int), .slice none 0 0] 87).alloc (.cells #[.string x.kind, .int .i64 x.x, .int .i64 x.y, .slice av x.args.length cv] 76)
    rwa [heap_size_alloc] at this
  rw [← hV]
  exact bodyPost_ret (v := .agg #[.string x.kind, .int .i64 x.y, .int .i64 x.x, .int .i64 (k : Int), .slice none 0 0]) (by simp [results, Tryz.results80, go_sem, HB9.av 0 rfl, HB9.av 1 rfl, HB9.av 2 rfl, HB9.av 3 rfl, HB9.av 4 rfl]) rfl ⟨_, by rw [Hr.out]; rfl, by rw [Hr.out]; exact IntsT.nil _, hxV⟩
set_option maxRecDepth 100000 in
set_option maxHeartbeats 6400000 in
theorem consrule_store (a1 a2 a3 : Option Addr) (c1 c2 c3 : Nat) (P : PP) (k : Nat) (x : PS) (hxk : P.stmts[k]? = some x) (w : World) (n0 : Nat) (ad : Nat → Addr) (h : PW w n0 ad a1 a2 a3 c1 c2 c3 P) (hkx : x.isK kStore = true) :
    Calls Tryz.prog 80 #[pval a1 a2 a3 c1 c2 c3 P, .int .i64 (k : Int)] w fun e w' => ∃ av, e = .returned ((P.ruleV k x).val av) ∧ IntsT w' av (P.ruleV k x).args ∧ Ext w w' := by
  obtain ⟨W1, hW1⟩ : ∃ W1, W1 = w.alloc (.cells (pcells a1 a2 a3 c1 c2 c3 P) 26) := ⟨_, rfl⟩
  have hx1 : Ext w W1 := by rw [hW1]; exact (Ext.refl _).alloc _
  obtain ⟨W2, hW2⟩ : ∃ W2, W2 = W1.alloc (.cells #[.string ⟨#[]⟩, .int .i64 0, .int .i64 0, .int .i64 0, .slice none 0 0] 87) := ⟨_, rfl⟩
  have hx2 : Ext W1 W2 := by rw [hW2]; exact (Ext.refl _).alloc _
  have hk : k < P.stmts.length := by
    rcases Nat.lt_or_ge k P.stmts.length with h | h
    · exact h
    · rw [List.getElem?_eq_none h] at hxk; cases hxk
  have hml := h.prog.stmts.len
  obtain ⟨y, x', av, cv, rfl, hxk', e0, e1, e2, e3, hI⟩ := (h.prog.ext (hx1.trans hx2)).stmts.at hk
  obtain rfl := Option.some.inj (hxk.symm.trans hxk')
  obtain ⟨W3, hW3⟩ : ∃ W3, W3 = W2.alloc (.cells (scells x av cv) 76) := ⟨_, rfl⟩
  have hx3 : Ext W2 W3 := by rw [hW3]; exact (Ext.refl _).alloc _
  have s1 : W1.heap.size = w.heap.size + 1 := by rw [hW1, heap_size_alloc]
  have s2 : W2.heap.size = w.heap.size + 1 + 1 := by rw [hW2, heap_size_alloc, s1]
  have HX := hid ((hx1.trans hx2).trans hx3)
  have HB0 : Hid (Blk W3 w.heap.size (pcells a1 a2 (some y) c1 c2 c3 P) 26) := hid (by
    have : Blk W1 w.heap.size (pcells a1 a2 (some y) c1 c2 c3 P) 26 := by rw [hW1]; exact Blk.new _ _ _
    exact this.ext (hx2.trans hx3))
  have HB1 : Hid (Blk W3 (w.heap.size + 1) #[.string ⟨#[]⟩, .int .i64 0, .int .i64 0, .int .i64 0, .slice none 0 0] 87) := hid (by
    have : Blk W2 (w.heap.size + 1) #[.string ⟨#[]⟩, .int .i64 0, .int .i64 0, .int .i64 0, .slice none 0 0] 87 := by rw [← s1, hW2]; exact Blk.new _ _ _
    exact this.ext hx3)
  have HB2 : Hid (Blk W3 (w.heap.size + 1 + 1) (scells x av cv) 76) := hid (by rw [← s2, hW3]; exact Blk.new _ _ _)
  have HI := hid (hI.old (hx3.old n0))
  have HPW := hid h
  have Hxk := hid hxk
  rw [hW2, hW1] at e0 e1 e2 e3
  unfold pcells at e0 e1 e2 e3
  have HWe : Hid (W3 = ((w.alloc (.cells #[.slice a1 P.vars.length c1, .slice a2 P.funs.length c2, .slice (some y) P.stmts.length c3] 26)).alloc (.cells #[.string ⟨#[]⟩, .int .i64 0, .int .i64 0, .int .i64 0, .slice none 0 0] 87)).alloc (.cells #[.string x.kind, .int .i64 x.x, .int .i64 x.y, .slice av x.args.length cv] 76)) := hid (by rw [hW3, hW2, hW1]; rfl)
  obtain ⟨hf1, hf2, hf3⟩ := h.well.few
  clear hW1 hW2 hW3 hx1 hx2 hx3 s1 s2 hxk hxk' hI h
  unfold pval
  have h1 : (x.kind.toList == [97, 100, 100, 114]) = false := isK_ne hkx (k' := kAddr) rfl
  have h5 : (x.kind.toList == [110, 101, 119]) = false := isK_ne hkx (k' := kNew) rfl
  have h6 : (x.kind.toList == [102, 117, 110]) = false := isK_ne hkx (k' := kFun) rfl
  have h7 : (x.kind.toList == [99, 97, 108, 108]) = false := isK_ne hkx (k' := kCall) rfl
  have Hr : Hid (P.ruleV k x = ⟨x.kind, x.y, x.x, k, []⟩) := hid (by unfold PP.ruleV; rw [isK_ne hkx (k' := kAddr) rfl, isK_ne hkx (k' := kNew) rfl, isK_ne hkx (k' := kFun) rfl, isK_ne hkx (k' := kCall) rfl]; rfl)
  clear hkx
  clear HWe
  go_enter Tryz.func80, Tryz.ntmps80
  go_wp2
  obtain ⟨V, hV⟩ : ∃ V, V = ((w.alloc (.cells #[.slice a1 P.vars.length c1, .slice a2 P.funs.length c2, .slice (some y) P.stmts.length c3] 26)).alloc (.cells #[.string x.kind, .int .i64 x.y, .int .i64 x.x, .int .i64 (k : Int), .slice none 0 0] 87)).alloc (.cells #[.string x.kind, .int .i64 x.x, .int .i64 x.y, .slice av x.args.length cv] 76) := ⟨_, rfl⟩
  have hxV : Ext w V := by rw [hV]; exact (((Ext.refl _).alloc _).alloc _).alloc _
  have HB9 : Blk V (w.heap.size + 1) #[.string x.kind, .int .i64 x.y, .int .i64 x.x, .int .i64 (k : Int), .slice none 0 0] 87 := by
    rw [hV]
    have := (Blk.new (w.alloc (.cells #[.slice a1 P.vars.length c1, .slice a2 P.funs.length c2, .slice (some y) P.stmts.length c3] 26)) #[.string x.kind, .int .i64 x.y, .int .i64 x.x, .int .i64 (k : Int), .slice none 0 0] 87).alloc (.cells #[.string x.kind, .int .i64 x.x, .int .i64 x.y, .slice av x.args.length cv] 76)
    rwa [heap_size_alloc] at this
  rw [← hV]
  exact bodyPost_ret (v := .agg #[.string x.kind, .int .i64 x.y, .int .i64 x.x, .int .i64 (k : Int), .slice none 0 0]) (by simp [results, Tryz.results80, go_sem, HB9.av 0 rfl, HB9.av 1 rfl, HB9.av 2 rfl, HB9.av 3 rfl, HB9.av 4 rfl]) rfl ⟨_, by rw [Hr.out]; rfl, by rw [Hr.out]; exact IntsT.nil _, hxV⟩
set_option maxRecDepth 100000 in
set_option maxHeartbeats 6400000 in
theorem consrule_new (a1 a2 a3 : Option Addr) (c1 c2 c3 : Nat) (P : PP) (k : Nat) (x : PS) (hxk : P.stmts[k]? = some x) (w : World) (n0 : Nat) (ad : Nat → Addr) (h : PW w n0 ad a1 a2 a3 c1 c2 c3 P) (hkx : x.isK kNew = true) :
    Calls Tryz.prog 80 #[pval a1 a2 a3 c1 c2 c3 P, .int .i64 (k : Int)] w fun e w' => ∃ av, e = .returned ((P.ruleV k x).val av) ∧ IntsT w' av (P.ruleV k x).args ∧ Ext w w' := by
  have HPl := fun w1 (x : Ext w w1) => hid (progplace_any a1 a2 a3 c1 c2 c3 P (k : Int) w1 n0 ad (h.errs.ext x) (h.prog.ext x) h.z1 h.z2 h.well)
  obtain ⟨W1, hW1⟩ : ∃ W1, W1 = w.alloc (.cells (pcells a1 a2 a3 c1 c2 c3 P) 26) := ⟨_, rfl⟩
  have hx1 : Ext w W1 := by rw [hW1]; exact (Ext.refl _).alloc _
  obtain ⟨W2, hW2⟩ : ∃ W2, W2 = W1.alloc (.cells #[.string ⟨#[]⟩, .int .i64 0, .int .i64 0, .int .i64 0, .slice none 0 0] 87) := ⟨_, rfl⟩
  have hx2 : Ext W1 W2 := by rw [hW2]; exact (Ext.refl _).alloc _
  have hk : k < P.stmts.length := by
    rcases Nat.lt_or_ge k P.stmts.length with h | h
    · exact h
    · rw [List.getElem?_eq_none h] at hxk; cases hxk
  have hml := h.prog.stmts.len
  obtain ⟨y, x', av, cv, rfl, hxk', e0, e1, e2, e3, hI⟩ := (h.prog.ext (hx1.trans hx2)).stmts.at hk
  obtain rfl := Option.some.inj (hxk.symm.trans hxk')
  obtain ⟨W3, hW3⟩ : ∃ W3, W3 = W2.alloc (.cells (scells x av cv) 76) := ⟨_, rfl⟩
  have hx3 : Ext W2 W3 := by rw [hW3]; exact (Ext.refl _).alloc _
  have s1 : W1.heap.size = w.heap.size + 1 := by rw [hW1, heap_size_alloc]
  have s2 : W2.heap.size = w.heap.size + 1 + 1 := by rw [hW2, heap_size_alloc, s1]
  have HX := hid ((hx1.trans hx2).trans hx3)
  have HB0 : Hid (Blk W3 w.heap.size (pcells a1 a2 (some y) c1 c2 c3 P) 26) := hid (by
    have : Blk W1 w.heap.size (pcells a1 a2 (some y) c1 c2 c3 P) 26 := by rw [hW1]; exact Blk.new _ _ _
    exact this.ext (hx2.trans hx3))
  have HB1 : Hid (Blk W3 (w.heap.size + 1) #[.string ⟨#[]⟩, .int .i64 0, .int .i64 0, .int .i64 0, .slice none 0 0] 87) := hid (by
    have : Blk W2 (w.heap.size + 1) #[.string ⟨#[]⟩, .int .i64 0, .int .i64 0, .int .i64 0, .slice none 0 0] 87 := by rw [← s1, hW2]; exact Blk.new _ _ _
    exact this.ext hx3)
  have HB2 : Hid (Blk W3 (w.heap.size + 1 + 1) (scells x av cv) 76) := hid (by rw [← s2, hW3]; exact Blk.new _ _ _)
  have HI := hid (hI.old (hx3.old n0))
  have HPW := hid h
  have Hxk := hid hxk
  rw [hW2, hW1] at e0 e1 e2 e3
  unfold pcells at e0 e1 e2 e3
  have HWe : Hid (W3 = ((w.alloc (.cells #[.slice a1 P.vars.length c1, .slice a2 P.funs.length c2, .slice (some y) P.stmts.length c3] 26)).alloc (.cells #[.string ⟨#[]⟩, .int .i64 0, .int .i64 0, .int .i64 0, .slice none 0 0] 87)).alloc (.cells #[.string x.kind, .int .i64 x.x, .int .i64 x.y, .slice av x.args.length cv] 76)) := hid (by rw [hW3, hW2, hW1]; rfl)
  obtain ⟨hf1, hf2, hf3⟩ := h.well.few
  clear hW1 hW2 hW3 hx1 hx2 hx3 s1 s2 hxk hxk' hI h
  unfold pval
  unfold pval at HPl
  have h1 : (x.kind.toList == [97, 100, 100, 114]) = false := isK_ne hkx (k' := kAddr) rfl
  have hkk := hkx
  unfold PS.isK kNew at hkk
  have Hr : Hid (P.ruleV k x = ⟨bBase, x.x, P.placeV k, k, []⟩) := hid (by unfold PP.ruleV; rw [isK_ne hkx (k' := kAddr) rfl, hkx]; rfl)
  clear hkx
  have x0 := Ext.refl W3
  have m0 := (HB2.out.ext x0).kc (X := fun _ => False) (fun e => e) 0 rfl
  have m1 := (HB2.out.ext x0).kc (X := fun _ => False) (fun e => e) 1 rfl
  have m2 := (HB2.out.ext x0).kc (X := fun _ => False) (fun e => e) 2 rfl
  have m3 := (HB2.out.ext x0).kc (X := fun _ => False) (fun e => e) 3 rfl
  have d0 := (HB0.out.ext x0).kc (X := fun _ => False) (fun e => e) 0 rfl
  have d1 := (HB0.out.ext x0).kc (X := fun _ => False) (fun e => e) 1 rfl
  have d2 := (HB0.out.ext x0).kc (X := fun _ => False) (fun e => e) 2 rfl
  simp only [pcells, scells, qA0, qA1, qA2] at m0 m1 m2 m3 d0 d1 d2
  clear x0
  go_enter Tryz.func80, Tryz.ntmps80
  go_wp2
  rw [← HWe.out]
  refine wp_flowT (fun _ => False) (by kernel_rfl) (by kernel_rfl) ?_
  repeat (apply FlowT.d; (intro w1 hk; unfold does; go_simp; (try go_ints); (first | exact DetR.mk | (simp only [↓IntWalk.iteOmega, Oper.doesUpon_value]; exact DetR.mk) | (simp only [↓IntWalk.iteOmega]; go_simp; (try go_ints); exact DetR.mk))); simp only [Act.put, qS0, qS1, qS2])
  apply FlowT.d
  · intro w1 hk
    unfold does
    go_simp
    exact CallR.det ((HPl w1 (HX.out.trans hk.ext)).out)
  simp only [Act.put, qS0, qS1, qS2]
  repeat (apply FlowT.d; (intro w1 hk; unfold does; go_simp; (try go_ints); (first | exact DetR.mk | (simp only [↓IntWalk.iteOmega, Oper.doesUpon_value]; exact DetR.mk) | (simp only [↓IntWalk.iteOmega]; go_simp; (try go_ints); exact DetR.mk))); simp only [Act.put, qS0, qS1, qS2])
  refine FlowT.last (fun _ w' => Blk w' (w.heap.size + 1) #[.string ⟨#[98, 97, 115, 101]⟩, .int .i64 x.x, .int .i64 (P.placeV k), .int .i64 (k : Int), .slice none 0 0] 87 ∧ IntsT w' (.slice none 0 0) (P.ruleV k x).args ∧ Ext w w') 7 rfl (by kernel_rfl) (by kernel_rfl) (fun w1 hC hk => ?_) (fun _ w2 hR => ?_)
  · have hB := HB1.out.ext hC
    have c0 := hB.av 0 rfl
    have c1 := hB.av 1 rfl
    have c2 := hB.av 2 rfl
    have c3 := hB.av 3 rfl
    have c4 := hB.av 4 rfl
    have f0 := hB.free
    unfold does
    go_simp
    exact ⟨store5 hB, by rw [Hr.out]; exact IntsT.nil _, Keep.new (HX.out.trans hC) (store5_keep _ _ _ _ _ _ _) (fun b hb => by omega)⟩
  obtain ⟨hB, hT, hxw⟩ := hR
  simp only [Act.put]
  have HT := hid hT
  have HBw := hid hB
  clear hT
  go_wp2
  exact bodyPost_ret (v := .agg #[.string ⟨#[98, 97, 115, 101]⟩, .int .i64 x.x, .int .i64 (P.placeV k), .int .i64 (k : Int), .slice none 0 0]) (by simp [results, Tryz.results80, go_sem, hB.av 0 rfl, hB.av 1 rfl, hB.av 2 rfl, hB.av 3 rfl, hB.av 4 rfl]) rfl ⟨_, by rw [Hr.out]; rfl, HT.out, hxw⟩
set_option maxRecDepth 100000 in
set_option maxHeartbeats 6400000 in
theorem consrule_fun (a1 a2 a3 : Option Addr) (c1 c2 c3 : Nat) (P : PP) (k : Nat) (x : PS) (hxk : P.stmts[k]? = some x) (w : World) (n0 : Nat) (ad : Nat → Addr) (h : PW w n0 ad a1 a2 a3 c1 c2 c3 P) (hkx : x.isK kFun = true) :
    Calls Tryz.prog 80 #[pval a1 a2 a3 c1 c2 c3 P, .int .i64 (k : Int)] w fun e w' => ∃ av, e = .returned ((P.ruleV k x).val av) ∧ IntsT w' av (P.ruleV k x).args ∧ Ext w w' := by
  have HNo := fun w1 (x : Ext w w1) => hid (prognodes_any a1 a2 a3 c1 c2 c3 P w1 n0 ad (h.errs.ext x) (h.prog.ext x) h.z1 h.z2 h.well)
  have hg := (PP.good (h.well.2 k x (by
    rcases Nat.lt_or_ge k P.stmts.length with h | h
    · exact h
    · rw [List.getElem?_eq_none h] at hxk; cases hxk) hxk)).yf hkx
  have hnl := P.nodesV_le2
  obtain ⟨W1, hW1⟩ : ∃ W1, W1 = w.alloc (.cells (pcells a1 a2 a3 c1 c2 c3 P) 26) := ⟨_, rfl⟩
  have hx1 : Ext w W1 := by rw [hW1]; exact (Ext.refl _).alloc _
  obtain ⟨W2, hW2⟩ : ∃ W2, W2 = W1.alloc (.cells #[.string ⟨#[]⟩, .int .i64 0, .int .i64 0, .int .i64 0, .slice none 0 0] 87) := ⟨_, rfl⟩
  have hx2 : Ext W1 W2 := by rw [hW2]; exact (Ext.refl _).alloc _
  have hk : k < P.stmts.length := by
    rcases Nat.lt_or_ge k P.stmts.length with h | h
    · exact h
    · rw [List.getElem?_eq_none h] at hxk; cases hxk
  have hml := h.prog.stmts.len
  obtain ⟨y, x', av, cv, rfl, hxk', e0, e1, e2, e3, hI⟩ := (h.prog.ext (hx1.trans hx2)).stmts.at hk
  obtain rfl := Option.some.inj (hxk.symm.trans hxk')
  obtain ⟨W3, hW3⟩ : ∃ W3, W3 = W2.alloc (.cells (scells x av cv) 76) := ⟨_, rfl⟩
  have hx3 : Ext W2 W3 := by rw [hW3]; exact (Ext.refl _).alloc _
  have s1 : W1.heap.size = w.heap.size + 1 := by rw [hW1, heap_size_alloc]
  have s2 : W2.heap.size = w.heap.size + 1 + 1 := by rw [hW2, heap_size_alloc, s1]
  have HX := hid ((hx1.trans hx2).trans hx3)
  have HB0 : Hid (Blk W3 w.heap.size (pcells a1 a2 (some y) c1 c2 c3 P) 26) := hid (by
    have : Blk W1 w.heap.size (pcells a1 a2 (some y) c1 c2 c3 P) 26 := by rw [hW1]; exact Blk.new _ _ _
    exact this.ext (hx2.trans hx3))
  have HB1 : Hid (Blk W3 (w.heap.size + 1) #[.string ⟨#[]⟩, .int .i64 0, .int .i64 0, .int .i64 0, .slice none 0 0] 87) := hid (by
    have : Blk W2 (w.heap.size + 1) #[.string ⟨#[]⟩, .int .i64 0, .int .i64 0, .int .i64 0, .slice none 0 0] 87 := by rw [← s1, hW2]; exact Blk.new _ _ _
    exact this.ext hx3)
  have HB2 : Hid (Blk W3 (w.heap.size + 1 + 1) (scells x av cv) 76) := hid (by rw [← s2, hW3]; exact Blk.new _ _ _)
  have HI := hid (hI.old (hx3.old n0))
  have HPW := hid h
  have Hxk := hid hxk
  rw [hW2, hW1] at e0 e1 e2 e3
  unfold pcells at e0 e1 e2 e3
  have HWe : Hid (W3 = ((w.alloc (.cells #[.slice a1 P.vars.length c1, .slice a2 P.funs.length c2, .slice (some y) P.stmts.length c3] 26)).alloc (.cells #[.string ⟨#[]⟩, .int .i64 0, .int .i64 0, .int .i64 0, .slice none 0 0] 87)).alloc (.cells #[.string x.kind, .int .i64 x.x, .int .i64 x.y, .slice av x.args.length cv] 76)) := hid (by rw [hW3, hW2, hW1]; rfl)
  obtain ⟨hf1, hf2, hf3⟩ := h.well.few
  clear hW1 hW2 hW3 hx1 hx2 hx3 s1 s2 hxk hxk' hI h
  unfold pval
  unfold pval at HNo
  have h1 : (x.kind.toList == [97, 100, 100, 114]) = false := isK_ne hkx (k' := kAddr) rfl
  have h5 : (x.kind.toList == [110, 101, 119]) = false := isK_ne hkx (k' := kNew) rfl
  have hkk := hkx
  unfold PS.isK kFun at hkk
  obtain ⟨N, hN⟩ : ∃ N, N = P.nodesV := ⟨_, rfl⟩
  have Hr : Hid (P.ruleV k x = ⟨bBase, x.x, (N : Int) + x.y, k, []⟩) := hid (by unfold PP.ruleV; rw [isK_ne hkx (k' := kAddr) rfl, isK_ne hkx (k' := kNew) rfl, hkx, hN]; rfl)
  rw [← hN] at HNo hnl
  obtain ⟨hg1, hg2⟩ := hg
  clear hkx hN
  have x0 := Ext.refl W3
  have m0 := (HB2.out.ext x0).kc (X := fun _ => False) (fun e => e) 0 rfl
  have m1 := (HB2.out.ext x0).kc (X := fun _ => False) (fun e => e) 1 rfl
  have m2 := (HB2.out.ext x0).kc (X := fun _ => False) (fun e => e) 2 rfl
  have m3 := (HB2.out.ext x0).kc (X := fun _ => False) (fun e => e) 3 rfl
  have d0 := (HB0.out.ext x0).kc (X := fun _ => False) (fun e => e) 0 rfl
  have d1 := (HB0.out.ext x0).kc (X := fun _ => False) (fun e => e) 1 rfl
  have d2 := (HB0.out.ext x0).kc (X := fun _ => False) (fun e => e) 2 rfl
  simp only [pcells, scells, qA0, qA1, qA2] at m0 m1 m2 m3 d0 d1 d2
  clear x0
  go_enter Tryz.func80, Tryz.ntmps80
  go_wp2
  rw [← HWe.out]
  refine wp_flowT (fun _ => False) (by kernel_rfl) (by kernel_rfl) ?_
  repeat (apply FlowT.d; (intro w1 hk; unfold does; go_simp; (try go_ints); (first | exact DetR.mk | (simp only [↓IntWalk.iteOmega, Oper.doesUpon_value]; exact DetR.mk) | (simp only [↓IntWalk.iteOmega]; go_simp; (try go_ints); exact DetR.mk))); simp only [Act.put, qS0, qS1, qS2])
  apply FlowT.d
  · intro w1 hk
    unfold does
    go_simp
    exact CallR.det ((HNo w1 (HX.out.trans hk.ext)).out)
  simp only [Act.put, qS0, qS1, qS2]
  repeat (apply FlowT.d; (intro w1 hk; unfold does; go_simp; (try go_ints); (first | exact DetR.mk | (simp only [↓IntWalk.iteOmega, Oper.doesUpon_value]; exact DetR.mk) | (simp only [↓IntWalk.iteOmega]; go_simp; (try go_ints); exact DetR.mk))); simp only [Act.put, qS0, qS1, qS2])
  refine FlowT.last (fun _ w' => Blk w' (w.heap.size + 1) #[.string ⟨#[98, 97, 115, 101]⟩, .int .i64 x.x, .int .i64 ((N : Int) + x.y), .int .i64 (k : Int), .slice none 0 0] 87 ∧ IntsT w' (.slice none 0 0) (P.ruleV k x).args ∧ Ext w w') 9 rfl (by kernel_rfl) (by kernel_rfl) (fun w1 hC hk => ?_) (fun _ w2 hR => ?_)
  · have hB := HB1.out.ext hC
    have c0 := hB.av 0 rfl
    have c1 := hB.av 1 rfl
    have c2 := hB.av 2 rfl
    have c3 := hB.av 3 rfl
    have c4 := hB.av 4 rfl
    have f0 := hB.free
    unfold does
    go_simp
    exact ⟨store5 hB, by rw [Hr.out]; exact IntsT.nil _, Keep.new (HX.out.trans hC) (store5_keep _ _ _ _ _ _ _) (fun b hb => by omega)⟩
  obtain ⟨hB, hT, hxw⟩ := hR
  simp only [Act.put]
  have HT := hid hT
  have HBw := hid hB
  clear hT
  go_wp2
  exact bodyPost_ret (v := .agg #[.string ⟨#[98, 97, 115, 101]⟩, .int .i64 x.x, .int .i64 ((N : Int) + x.y), .int .i64 (k : Int), .slice none 0 0]) (by simp [results, Tryz.results80, go_sem, hB.av 0 rfl, hB.av 1 rfl, hB.av 2 rfl, hB.av 3 rfl, hB.av 4 rfl]) rfl ⟨_, by rw [Hr.out]; rfl, HT.out, hxw⟩
theorem call_few {P : PP} {x : PS} (h0 : P.stmtErr x = 0) (h : x.isK kCall = true) : x.args.length ≤ 3 := by
  unfold PP.stmtErr at h0
  cases h1 : memB x.kind kindsS with
  | false => rw [h1] at h0; simp at h0
  | true =>
    cases h2 : P.bound x with
    | false => rw [h1, h2] at h0; simp at h0
    | true =>
      rw [h1, h2, h] at h0
      rcases Nat.lt_or_ge 3 x.args.length with h3 | h3
      · simp [h3] at h0
      · exact h3
set_option maxRecDepth 100000 in
set_option maxHeartbeats 6400000 in
theorem consrule_call (a1 a2 a3 : Option Addr) (c1 c2 c3 : Nat) (P : PP) (k : Nat) (x : PS) (hxk : P.stmts[k]? = some x) (w : World) (n0 : Nat) (ad : Nat → Addr) (h : PW w n0 ad a1 a2 a3 c1 c2 c3 P) (hkx : x.isK kCall = true) :
    Calls Tryz.prog 80 #[pval a1 a2 a3 c1 c2 c3 P, .int .i64 (k : Int)] w fun e w' => ∃ av, e = .returned ((P.ruleV k x).val av) ∧ IntsT w' av (P.ruleV k x).args ∧ Ext w w' := by
  have hfew := call_few (h.well.2 k x (by
    rcases Nat.lt_or_ge k P.stmts.length with h | h
    · exact h
    · rw [List.getElem?_eq_none h] at hxk; cases hxk) hxk) hkx
  obtain ⟨W1, hW1⟩ : ∃ W1, W1 = w.alloc (.cells (pcells a1 a2 a3 c1 c2 c3 P) 26) := ⟨_, rfl⟩
  have hx1 : Ext w W1 := by rw [hW1]; exact (Ext.refl _).alloc _
  obtain ⟨W2, hW2⟩ : ∃ W2, W2 = W1.alloc (.cells #[.string ⟨#[]⟩, .int .i64 0, .int .i64 0, .int .i64 0, .slice none 0 0] 87) := ⟨_, rfl⟩
  have hx2 : Ext W1 W2 := by rw [hW2]; exact (Ext.refl _).alloc _
  have hk : k < P.stmts.length := by
    rcases Nat.lt_or_ge k P.stmts.length with h | h
    · exact h
    · rw [List.getElem?_eq_none h] at hxk; cases hxk
  have hml := h.prog.stmts.len
  obtain ⟨y, x', av, cv, rfl, hxk', e0, e1, e2, e3, hI⟩ := (h.prog.ext (hx1.trans hx2)).stmts.at hk
  obtain rfl := Option.some.inj (hxk.symm.trans hxk')
  obtain ⟨W3, hW3⟩ : ∃ W3, W3 = W2.alloc (.cells (scells x av cv) 76) := ⟨_, rfl⟩
  have hx3 : Ext W2 W3 := by rw [hW3]; exact (Ext.refl _).alloc _
  have s1 : W1.heap.size = w.heap.size + 1 := by rw [hW1, heap_size_alloc]
  have s2 : W2.heap.size = w.heap.size + 1 + 1 := by rw [hW2, heap_size_alloc, s1]
  have HX := hid ((hx1.trans hx2).trans hx3)
  have HB0 : Hid (Blk W3 w.heap.size (pcells a1 a2 (some y) c1 c2 c3 P) 26) := hid (by
    have : Blk W1 w.heap.size (pcells a1 a2 (some y) c1 c2 c3 P) 26 := by rw [hW1]; exact Blk.new _ _ _
    exact this.ext (hx2.trans hx3))
  have HB1 : Hid (Blk W3 (w.heap.size + 1) #[.string ⟨#[]⟩, .int .i64 0, .int .i64 0, .int .i64 0, .slice none 0 0] 87) := hid (by
    have : Blk W2 (w.heap.size + 1) #[.string ⟨#[]⟩, .int .i64 0, .int .i64 0, .int .i64 0, .slice none 0 0] 87 := by rw [← s1, hW2]; exact Blk.new _ _ _
    exact this.ext hx3)
  have HB2 : Hid (Blk W3 (w.heap.size + 1 + 1) (scells x av cv) 76) := hid (by rw [← s2, hW3]; exact Blk.new _ _ _)
  have HI := hid (hI.old (hx3.old n0))
  have HPW := hid h
  have Hxk := hid hxk
  rw [hW2, hW1] at e0 e1 e2 e3
  unfold pcells at e0 e1 e2 e3
  have HWe : Hid (W3 = ((w.alloc (.cells #[.slice a1 P.vars.length c1, .slice a2 P.funs.length c2, .slice (some y) P.stmts.length c3] 26)).alloc (.cells #[.string ⟨#[]⟩, .int .i64 0, .int .i64 0, .int .i64 0, .slice none 0 0] 87)).alloc (.cells #[.string x.kind, .int .i64 x.x, .int .i64 x.y, .slice av x.args.length cv] 76)) := hid (by rw [hW3, hW2, hW1]; rfl)
  obtain ⟨hf1, hf2, hf3⟩ := h.well.few
  clear hW1 hW2 hW3 hx1 hx2 hx3 s1 s2 hxk hxk' hI h
  unfold pval
  have HCl := fun w1 (y : Ext W3 w1) => hid (clone_big (.slice av x.args.length cv) x.args w1 n0 (HI.out.old (y.old n0)) (by omega))
  have h1 : (x.kind.toList == [97, 100, 100, 114]) = false := isK_ne hkx (k' := kAddr) rfl
  have h5 : (x.kind.toList == [110, 101, 119]) = false := isK_ne hkx (k' := kNew) rfl
  have h6 : (x.kind.toList == [102, 117, 110]) = false := isK_ne hkx (k' := kFun) rfl
  have hkk := hkx
  unfold PS.isK kCall at hkk
  have Hr : Hid (P.ruleV k x = ⟨bCall, x.y, x.x, k, x.args⟩) := hid (by unfold PP.ruleV; rw [isK_ne hkx (k' := kAddr) rfl, isK_ne hkx (k' := kNew) rfl, isK_ne hkx (k' := kFun) rfl, hkx]; rfl)
  clear hkx
  have x0 := Ext.refl W3
  have m0 := (HB2.out.ext x0).kc (X := fun _ => False) (fun e => e) 0 rfl
  have m1 := (HB2.out.ext x0).kc (X := fun _ => False) (fun e => e) 1 rfl
  have m2 := (HB2.out.ext x0).kc (X := fun _ => False) (fun e => e) 2 rfl
  have m3 := (HB2.out.ext x0).kc (X := fun _ => False) (fun e => e) 3 rfl
  have d0 := (HB0.out.ext x0).kc (X := fun _ => False) (fun e => e) 0 rfl
  have d1 := (HB0.out.ext x0).kc (X := fun _ => False) (fun e => e) 1 rfl
  have d2 := (HB0.out.ext x0).kc (X := fun _ => False) (fun e => e) 2 rfl
  simp only [pcells, scells, qA0, qA1, qA2] at m0 m1 m2 m3 d0 d1 d2
  clear x0
  go_enter Tryz.func80, Tryz.ntmps80
  go_wp2
  rw [← HWe.out]
  refine wp_flowT (fun _ => False) (by kernel_rfl) (by kernel_rfl) ?_
  repeat (apply FlowT.d; (intro w1 hk; unfold does; go_simp; (try go_ints); (first | exact DetR.mk | (simp only [↓IntWalk.iteOmega, Oper.doesUpon_value]; exact DetR.mk) | (simp only [↓IntWalk.iteOmega]; go_simp; (try go_ints); exact DetR.mk))); simp only [Act.put, qS0, qS1, qS2])
  refine FlowT.s (fun v w' => (∃ a c, v = .slice a x.args.length c) ∧ IntsT w' v x.args ∧ Ext W3 w') 7 rfl (by kernel_rfl) (fun _ _ _ ⟨h1, h2, h3⟩ y => ⟨h1, h2.ext y, h3.trans y⟩) (fun w1 hC hk => ?_) ?_
  · unfold does
    go_simp
    refine CallR.act ((HCl w1 hC).out.mono ?_)
    rintro e w2 ⟨v, rfl, hx, hr⟩
    exact ⟨v, rfl, (hC.trans hx).keep _, hr.form, IntsT.of_row hr, hC.trans hx⟩
  rintro _ ⟨_, ⟨a9, c9, rfl⟩, _, _⟩
  simp only [Act.put, qS0, qS1, qS2]
  repeat (apply FlowT.d; (intro w1 hk; unfold does; go_simp; (try go_ints); (first | exact DetR.mk | (simp only [↓IntWalk.iteOmega, Oper.doesUpon_value]; exact DetR.mk) | (simp only [↓IntWalk.iteOmega]; go_simp; (try go_ints); exact DetR.mk))); simp only [Act.put, qS0, qS1, qS2])
  refine FlowT.last (fun _ w' => Blk w' (w.heap.size + 1) #[.string ⟨#[99, 97, 108, 108]⟩, .int .i64 x.y, .int .i64 x.x, .int .i64 (k : Int), .slice a9 x.args.length c9] 87 ∧ IntsT w' (.slice a9 x.args.length c9) (P.ruleV k x).args ∧ Ext w w') 9 rfl (by kernel_rfl) (by kernel_rfl) (fun w1 hC hk => ?_) (fun _ w2 hR => ?_)
  · obtain ⟨_, hT, hC⟩ := hC
    have hB := HB1.out.ext hC
    have c0 := hB.av 0 rfl
    have c1 := hB.av 1 rfl
    have c2 := hB.av 2 rfl
    have c3 := hB.av 3 rfl
    have c4 := hB.av 4 rfl
    have f0 := hB.free
    unfold does
    go_simp
    exact ⟨store5 hB, by rw [Hr.out]; exact store5_old hT hB _ _ _ _ _, Keep.new (HX.out.trans hC) (store5_keep _ _ _ _ _ _ _) (fun b hb => by omega)⟩
  obtain ⟨hB, hT, hxw⟩ := hR
  simp only [Act.put]
  have HT := hid hT
  have HBw := hid hB
  clear hT
  go_wp2
  exact bodyPost_ret (v := .agg #[.string ⟨#[99, 97, 108, 108]⟩, .int .i64 x.y, .int .i64 x.x, .int .i64 (k : Int), .slice a9 x.args.length c9]) (by simp [results, Tryz.results80, go_sem, hB.av 0 rfl, hB.av 1 rfl, hB.av 2 rfl, hB.av 3 rfl, hB.av 4 rfl]) rfl ⟨_, by rw [Hr.out]; rfl, HT.out, hxw⟩
theorem consrule_any (a1 a2 a3 : Option Addr) (c1 c2 c3 : Nat) (P : PP) (k : Nat) (x : PS) (hxk : P.stmts[k]? = some x) (w : World) (n0 : Nat) (ad : Nat → Addr) (h : PW w n0 ad a1 a2 a3 c1 c2 c3 P) :
    Calls Tryz.prog 80 #[pval a1 a2 a3 c1 c2 c3 P, .int .i64 (k : Int)] w fun e w' => ∃ av, e = .returned ((P.ruleV k x).val av) ∧ IntsT w' av (P.ruleV k x).args ∧ Ext w w' := by
  have hk : k < P.stmts.length := by
    rcases Nat.lt_or_ge k P.stmts.length with h | h
    · exact h
    · rw [List.getElem?_eq_none h] at hxk; cases hxk
  rcases kind_cases (h.well.2 k x hk hxk) with g | g | g | g | g | g | g
  · exact consrule_addr a1 a2 a3 c1 c2 c3 P k x hxk w n0 ad h g
  · exact consrule_copy a1 a2 a3 c1 c2 c3 P k x hxk w n0 ad h g
  · exact consrule_load a1 a2 a3 c1 c2 c3 P k x hxk w n0 ad h g
  · exact consrule_store a1 a2 a3 c1 c2 c3 P k x hxk w n0 ad h g
  · exact consrule_new a1 a2 a3 c1 c2 c3 P k x hxk w n0 ad h g
  · exact consrule_fun a1 a2 a3 c1 c2 c3 P k x hxk w n0 ad h g
  · exact consrule_call a1 a2 a3 c1 c2 c3 P k x hxk w n0 ad h g
structure R2 where
  r : RV
  v : Value
def R2.cells (x : R2) : List Value := [.string x.r.kind, .int .i64 x.r.a, .int .i64 x.r.b, .int .i64 x.r.k, x.v]
theorem R2.cells_len (x : R2) : x.cells.length = 5 := rfl
structure RulesT (w : World) (base : Nat) (v : Value) (L : List RV) (rs : List R2) : Prop where
  eq : rs.map R2.r = L
  row : w.ownsRow base 87 5 v L.length (rs.flatMap R2.cells)
  args : ∀ x ∈ rs, IntsT w x.v x.r.args
theorem RulesT.ext {w w' : World} {base : Nat} {v : Value} {L : List RV} {rs : List R2} (h : RulesT w base v L rs) (x : Ext w w') : RulesT w' base v L rs := ⟨h.eq, own_ext h.row x, fun y hy => (h.args y hy).ext x⟩
theorem RulesT.low {w : World} {base b2 : Nat} {v : Value} {L : List RV} {rs : List R2} (h : RulesT w base v L rs) (hb : b2 ≤ base) : RulesT w b2 v L rs := ⟨h.eq, own_low h.row hb, h.args⟩
def PP.stAt (P : PP) (k : Nat) : PS := P.stmts.getD k ⟨⟨#[]⟩, 0, 0, []⟩
def PP.rulesUp (P : PP) (n : Nat) : List RV := (List.range n).map fun k => P.ruleV k (P.stAt k)
def PP.rulesV (P : PP) : List RV := P.rulesUp P.stmts.length
theorem PP.rulesUp_succ (P : PP) (n : Nat) : P.rulesUp (n + 1) = P.rulesUp n ++ [P.ruleV n (P.stAt n)] := by
  unfold PP.rulesUp; rw [List.range_succ, List.map_append]; rfl
theorem PP.rulesUp_len (P : PP) (n : Nat) : (P.rulesUp n).length = n := by simp [PP.rulesUp]
theorem stAt_some {P : PP} {k : Nat} (h : k < P.stmts.length) : P.stmts[k]? = some (P.stAt k) := by
  unfold PP.stAt
  rw [List.getD_eq_getElem?_getD, List.getElem?_eq_getElem h]; rfl
theorem rule_info : (Tryz.prog.info? 87).map (fun i => (i.zero, i.size, i.bytes)) = some (some (.agg #[.string ⟨#[]⟩, .int .i64 0, .int .i64 0, .int .i64 0, .slice none 0 0]), 5, 64) := by kernel_rfl
set_option maxRecDepth 100000 in
set_option maxHeartbeats 3200000 in
theorem consof_yes (a1 a2 a3 : Option Addr) (c1 c2 c3 : Nat) (P : PP) (w : World) (n0 : Nat) (ad : Nat → Addr) (h : PW w n0 ad a1 a2 a3 c1 c2 c3 P) :
    Calls Tryz.prog 34 #[pval a1 a2 a3 c1 c2 c3 P] w fun e w' => ∃ v rs, e = .returned (.tuple #[v, .nilIface]) ∧ RulesT w' w.heap.size v P.rulesV rs ∧ Ext w w' := by
  have HRu := fun k (hk : k < P.stmts.length) w1 (x : Ext w w1) => hid (consrule_any a1 a2 a3 c1 c2 c3 P k _ (stAt_some hk) w1 n0 ad (h.ext x))
  obtain ⟨W, hW⟩ : ∃ W, W = w.alloc (.cells (pcells a1 a2 a3 c1 c2 c3 P) 26) := ⟨_, rfl⟩
  have HX : Hid (Ext w W) := hid (by rw [hW]; exact (Ext.refl _).alloc _)
  have HBx : Hid (Blk W w.heap.size (pcells a1 a2 a3 c1 c2 c3 P) 26) := hid (by rw [hW]; exact Blk.new _ _ _)
  have HWe : Hid (W = w.alloc (.cells #[.slice a1 P.vars.length c1, .slice a2 P.funs.length c2, .slice a3 P.stmts.length c3] 26)) := hid (by rw [hW]; rfl)
  have HK := hid (check_well (h.errs.ext HX.out) (h.prog.ext HX.out) h.z1 h.z2 h.well)
  obtain ⟨hf1, hf2, hf3⟩ := h.well.few
  have d0 := HBx.out.av 0 rfl
  have d1 := HBx.out.av 1 rfl
  have d2 := HBx.out.av 2 rfl
  simp only [pcells, qA0, qA1, qA2] at d0 d1 d2
  unfold pval at HK HRu ⊢
  clear hW h
  go_enter Tryz.func34, Tryz.ntmps34
  go_wp2_with fail
  rw [← HWe.out]
  refine HK.out.mono ?_
  intro e w1 hx
  obtain ⟨rfl, hx1⟩ := hx
  have Hx1 := hid hx1
  clear HK hx1 d0 d1 d2
  have d2 := (HBx.out.ext Hx1.out).av 2 rfl
  simp only [pcells, qA0, qA1, qA2] at d2
  go_wp2
  go_loopw [5, 15] (fun t5 t15 wr => ∃ (k : Nat) (rs : List R2), t15 = .int .i64 (k : Int) ∧ k ≤ P.stmts.length ∧ rs.map R2.r = P.rulesUp k ∧ wr.ownsRow W.heap.size 87 5 t5 k (rs.flatMap R2.cells) ∧ (∀ x ∈ rs, IntsT wr x.v x.r.args) ∧ Ext W wr) (fun _ t15 _ => P.stmts.length - (intOf t15).toNat)
  case atStart => exact ⟨0, [], rfl, Nat.zero_le _, rfl, World.ownsRow_nil _ _ _ _, (fun x h => by cases h), Hx1.out⟩
  case round =>
    obtain ⟨k, rs, rfl, hk, he, hr, ha, hx⟩ := hrel
    obtain ⟨a5, c5, rfl⟩ := row_form hr
    have He := hid he
    have Hr := hid hr
    have Ha := hid ha
    have Hx := hid hx
    clear he hr ha hx d2
    by_cases hlt : k < P.stmts.length
    · have HC := HRu k hlt wr (HX.out.trans Hx.out)
      obtain ⟨r, hr⟩ : ∃ r, r = P.ruleV k (P.stAt k) := ⟨_, rfl⟩
      rw [← hr] at HC
      have Hrr := hid hr
      have d0 := (HBx.out.ext Hx.out).av 0 rfl
      have d1 := (HBx.out.ext Hx.out).av 1 rfl
      have d2 := (HBx.out.ext Hx.out).av 2 rfl
      simp only [pcells, qA0, qA1, qA2] at d0 d1 d2
      clear HRu hr
      go_wp2_with fail
      refine HC.out.mono ?_
      intro e w2 hx
      obtain ⟨av, rfl, hT, hx2⟩ := hx
      obtain ⟨aa, ca, rfl⟩ := hT.form
      unfold RV.val
      have hxa : Hid (Ext w (w2.alloc (.cells #[.string r.kind, .int .i64 r.a, .int .i64 r.b, .int .i64 r.k, .slice aa r.args.length ca] 87))) := hid (((HX.out.trans Hx.out).trans hx2).alloc _)
      have hra : Ext wr (w2.alloc (.cells #[.string r.kind, .int .i64 r.a, .int .i64 r.b, .int .i64 r.k, .slice aa r.args.length ca] 87)) := hx2.alloc _
      have Hra := hid (own_ext Hr.out hra)
      have Hxr := hid ((Hx.out.trans hra))
      have Haa : Hid (∀ x ∈ rs ++ [⟨r, .slice aa r.args.length ca⟩], IntsT (w2.alloc (.cells #[.string r.kind, .int .i64 r.a, .int .i64 r.b, .int .i64 r.k, .slice aa r.args.length ca] 87)) x.v x.r.args) := hid fun x hx => by
        rcases List.mem_append.1 hx with hx | hx
        · exact (Ha.out x hx).ext hra
        · obtain rfl := List.mem_singleton.1 hx
          exact hT.ext ((Ext.refl _).alloc _)
      clear HC hT hx2 hra d0 d1 d2
      go_wp2_with (at_builtin; refine wpList_append_el W.heap.size Hxr.out.size 79 87 (.agg #[.string ⟨#[]⟩, .int .i64 0, .int .i64 0, .int .i64 0, .slice none 0 0]) 5 64 Tryz.underlying79 rule_info rfl (by omega) (by omega) rfl _ _ rfl (.slice a5 k c5) k (rs.flatMap R2.cells) rfl Hra.out w2.heap.size [.string r.kind, .int .i64 r.a, .int .i64 r.b, .int .i64 r.k, .slice aa r.args.length ca] rfl (by simp [Value.oneCell']) rfl (Blk.new _ _ _) (by omega) ?_; intro v' w' h1 h2 h4; obtain ⟨a', c', rfl⟩ := row_form h1; have h3 := hid (Keep.new Hxr.out h2 (fun k hk => (World.ownsRow.lt Hra.out k hk).1)); have ha5 := hid (fun x hx => (Haa.out x hx).keep h2 (fun b e => by obtain ⟨c, hc⟩ := own_ty Hra.out e; exact IsInt.not hc (by decide))); have h1 := hid h1; clear h2 h4)
      go_roundw
      case rel =>
        refine ⟨k + 1, rs ++ [⟨r, .slice aa r.args.length ca⟩], by go_num, by omega, ?_, ?_, ha5.out, h3.out⟩
        · rw [List.map_append, He.out, PP.rulesUp_succ, ← Hrr.out]; rfl
        · rw [List.flatMap_append]; simpa [R2.cells] using h1.out
      case measure => simp [intOf]; omega
    · obtain rfl : k = P.stmts.length := by omega
      clear HRu
      go_wp2
      go_ret2
      exact ⟨_, rs, rfl, ⟨He.out, by rw [show P.rulesV.length = P.stmts.length from P.rulesUp_len _]; exact own_low Hr.out HX.out.size, Ha.out⟩, HX.out.trans Hx.out⟩
def calledV (f : PF) (r : RV) : List (Int × Int) := if f.params.length = r.args.length then (f.ret, r.b) :: r.args.zip f.params else []
def eCells (e : Int × Int) : List Value := [.int .i64 e.1, .int .i64 e.2]
theorem eCells_len (e : Int × Int) : (eCells e).length = 2 := rfl
theorem edge_info : (Tryz.prog.info? 62).map (fun i => (i.zero, i.size, i.bytes)) = some (some (.agg #[.int .i64 0, .int .i64 0]), 2, 16) := by kernel_rfl
theorem zip_take {l m : List Int} {k : Nat} {q p : Int} (h1 : l[k]? = some q) (h2 : m[k]? = some p) : (l.zip m).take (k + 1) = (l.zip m).take k ++ [(q, p)] := by
  rw [List.take_add_one]
  congr 1
  have : (l.zip m)[k]? = some (q, p) := List.getElem?_zip_eq_some.2 ⟨h1, h2⟩
  rw [this]; rfl
def ERow (base : Nat) (w : World) (v : Value) (l : List (Int × Int)) : Prop := w.ownsRow base 62 2 v l.length (l.flatMap eCells)
theorem ERow.ext {base : Nat} {w w' : World} {v : Value} {l : List (Int × Int)} (h : ERow base w v l) (x : Ext w w') : ERow base w' v l := own_ext h x
theorem ERow.low {base b2 : Nat} {w : World} {v : Value} {l : List (Int × Int)} (h : ERow base w v l) (hb : b2 ≤ base) : ERow b2 w v l := own_low h hb
theorem ERow.nil (base : Nat) (w : World) : ERow base w (.slice none 0 0) [] := World.ownsRow_nil _ _ _ _
set_option maxRecDepth 100000 in
set_option maxHeartbeats 3200000 in
theorem conscalled_any (f : PF) (r : RV) (pv av : Value) (w : World) (n0 : Nat) (hp : IntsR w n0 pv f.params) (ha : IntsR w n0 av r.args) (hfew : f.params.length ≤ 100) :
    Calls Tryz.prog 104 #[.agg #[.string f.name, pv, .int .i64 f.ret], r.val av] w fun e w' => ∃ v, e = .returned v ∧ ERow w.heap.size w' v (calledV f r) ∧ Ext w w' := by
  obtain ⟨ap, cp, rfl, _⟩ := id hp
  obtain ⟨aa, ca, rfl, _⟩ := id ha
  have hpl := hp.len
  have hal := ha.len
  obtain ⟨W1, hW1⟩ : ∃ W1, W1 = w.alloc (.cells #[.string f.name, .slice ap f.params.length cp, .int .i64 f.ret] 78) := ⟨_, rfl⟩
  have hx1 : Ext w W1 := by rw [hW1]; exact (Ext.refl _).alloc _
  obtain ⟨W2, hW2⟩ : ∃ W2, W2 = W1.alloc (.cells #[.string r.kind, .int .i64 r.a, .int .i64 r.b, .int .i64 r.k, .slice aa r.args.length ca] 87) := ⟨_, rfl⟩
  have hx2 : Ext W1 W2 := by rw [hW2]; exact (Ext.refl _).alloc _
  have s1 : W1.heap.size = w.heap.size + 1 := by rw [hW1, heap_size_alloc]
  have HX := hid (hx1.trans hx2)
  have Hs2 : Hid (W2.heap.size = w.heap.size + 1 + 1) := hid (by rw [hW2, heap_size_alloc, s1])
  have HB0 : Hid (Blk W2 w.heap.size #[.string f.name, .slice ap f.params.length cp, .int .i64 f.ret] 78) := hid (by
    have : Blk W1 w.heap.size #[.string f.name, .slice ap f.params.length cp, .int .i64 f.ret] 78 := by rw [hW1]; exact Blk.new _ _ _
    exact this.ext hx2)
  have HB1 : Hid (Blk W2 (w.heap.size + 1) #[.string r.kind, .int .i64 r.a, .int .i64 r.b, .int .i64 r.k, .slice aa r.args.length ca] 87) := hid (by rw [← s1, hW2]; exact Blk.new _ _ _)
  have HWe : Hid (W2 = (w.alloc (.cells #[.string f.name, .slice ap f.params.length cp, .int .i64 f.ret] 78)).alloc (.cells #[.string r.kind, .int .i64 r.a, .int .i64 r.b, .int .i64 r.k, .slice aa r.args.length ca] 87)) := hid (by rw [hW2, hW1])
  have HP := hid hp
  have HA := hid ha
  unfold RV.val
  clear hp ha hW1 hW2 hx1 hx2 s1
  by_cases hl : f.params.length = r.args.length
  · have Hr : Hid (calledV f r = (f.ret, r.b) :: r.args.zip f.params) := hid (by unfold calledV; rw [if_pos hl])
    have Hl := hid hl
    have e0 : ((f.params.length : Int) != (r.args.length : Int)) = false := by rw [hl]; simp
    clear hl
    go_enter Tryz.func104, Tryz.ntmps104
    go_wp2
    rw [← HWe.out]
    obtain ⟨W3, hW3⟩ : ∃ W3, W3 = W2.alloc (.cells #[.int .i64 f.ret, .int .i64 r.b] 62) := ⟨_, rfl⟩
    have hx3 : Ext W2 W3 := by rw [hW3]; exact (Ext.refl _).alloc _
    have Hx3 := hid hx3
    have Hr0 : Hid (W3.ownsRow W2.heap.size 62 2 (.slice (some ⟨w.heap.size + 1 + 1, 0, none⟩) 1 1) 1 (eCells (f.ret, r.b))) := hid
      ⟨rfl, .inr ⟨w.heap.size + 1 + 1, 1, #[.int .i64 f.ret, .int .i64 r.b], rfl, by rw [Hs2.out]; exact Nat.le_refl _, by rw [hW3, ← Hs2.out]; exact Blk.new _ _ _, Nat.le_refl _, by unfold maxLen; omega, rfl, rfl⟩⟩
    rw [← hW3]
    clear hW3 hx3 e0
    go_loopw [5, 24] (fun t5 t24 wr => ∃ k : Nat, t24 = .int .i64 (k : Int) ∧ k ≤ f.params.length ∧ wr.ownsRow W2.heap.size 62 2 t5 (k + 1) (((f.ret, r.b) :: (r.args.zip f.params).take k).flatMap eCells) ∧ Ext W2 wr) (fun _ t24 _ => f.params.length - (intOf t24).toNat)
    case atStart => exact ⟨0, rfl, Nat.zero_le _, Hr0.out, Hx3.out⟩
    case round =>
      obtain ⟨k, rfl, hk, hr, hx⟩ := hrel
      obtain ⟨a5, c5, rfl⟩ := row_form hr
      have Hrow := hid hr
      have Hx := hid hx
      clear hr hx
      by_cases hlt : k < f.params.length
      · have hkr : k < r.args.length := by have := Hl.out; omega
        obtain ⟨y, p, hy, hpk, hcp⟩ := (HP.out.old ((HX.out.trans Hx.out).old n0)).at hlt
        obtain ⟨z, q, hz, hqk, hcq⟩ := (HA.out.old ((HX.out.trans Hx.out).old n0)).at hkr
        subst hy hz
        have Hzip := hid (zip_take hqk hpk)
        have d1 := (HB1.out.ext Hx.out).av 4 rfl
        simp only [qA0, qA1, qA2] at d1
        have hxa : Hid (Ext W2 (wr.alloc (.cells #[.int .i64 q, .int .i64 p] 62))) := hid (Hx.out.alloc _)
        have Hra := hid (own_ext Hrow.out ((Ext.refl wr).alloc (.cells #[.int .i64 q, .int .i64 p] 62)))
        clear hpk hqk
        go_wp2_with (at_builtin; refine wpList_append_el W2.heap.size hxa.out.size 55 62 (.agg #[.int .i64 0, .int .i64 0]) 2 16 Tryz.underlying55 edge_info rfl (by omega) (by omega) rfl _ _ rfl (.slice a5 (k + 1) c5) (k + 1) (((f.ret, r.b) :: (r.args.zip f.params).take k).flatMap eCells) rfl Hra.out wr.heap.size [.int .i64 q, .int .i64 p] rfl (by simp [Value.oneCell']) rfl (Blk.new _ _ _) (by omega) ?_; intro v' w' h1 h2 h4; obtain ⟨a', c', rfl⟩ := row_form h1; have h3 := hid (Keep.new hxa.out h2 (fun k hk => (World.ownsRow.lt Hra.out k hk).1)); have h1 := hid h1; clear h2 h4)
        go_roundw
        case rel =>
          refine ⟨k + 1, by go_num, by omega, ?_, h3.out⟩
          have e := h1.out
          rw [Hzip.out, ← List.cons_append, List.flatMap_append]
          simpa [eCells] using e
        case measure => simp [intOf]; omega
      · obtain rfl : k = f.params.length := by omega
        have Hz : Hid ((r.args.zip f.params).take f.params.length = r.args.zip f.params) := hid (List.take_of_length_le (by rw [List.length_zip]; omega))
        have Hln : Hid ((calledV f r).length = f.params.length + 1) := hid (by rw [Hr.out, List.length_cons, List.length_zip]; have := Hl.out; omega)
        go_wp2
        go_ret
        exact ⟨_, rfl, by unfold ERow; rw [Hln.out, Hr.out]; have := own_low Hrow.out HX.out.size; rw [Hz.out] at this; exact this, HX.out.trans Hx.out⟩
  · have Hr : Hid (calledV f r = []) := hid (by unfold calledV; rw [if_neg hl])
    have e0 : ((f.params.length : Int) != (r.args.length : Int)) = true := bne_iff_ne.2 (by omega)
    clear hl
    go_enter Tryz.func104, Tryz.ntmps104
    go_wp2
    go_ret
    exact ⟨_, rfl, by rw [Hr.out]; exact ERow.nil _ _, ((Ext.refl w).alloc _).alloc _⟩
theorem icells_set (R : List Int) (i : Nat) (y : Int) : (icells R).set i (.int .i64 y) = icells (R.set i y) := by
  unfold icells; rw [List.map_set]
theorem own_putI {w : World} {base g n cap : Nat} {e : TypeId} {R : List Int} (h : w.ownsRow base e 1 (.slice (some ⟨g, 0, none⟩) n cap) n (icells R)) (i : Nat) (hi : i < R.length) (y : Int) : (w.setCell ⟨g, i, none⟩ (.int .i64 y)).ownsRow base e 1 (.slice (some ⟨g, 0, none⟩) n cap) n (icells (R.set i y)) := by
  rw [← icells_set]
  exact own_set h i (by simpa [icells] using hi) _
theorem own_i {w : World} {base g n cap : Nat} {e : TypeId} {R : List Int} (h : w.ownsRow base e 1 (.slice (some ⟨g, 0, none⟩) n cap) n (icells R)) {i : Nat} {x : Int} (hx : R[i]? = some x) : w.cell? ⟨g, i, none⟩ = some (.int .i64 x) :=
  own_get h i (by unfold icells; rw [List.getElem?_map, hx]; rfl)
theorem filter_next {p : Int → Bool} {l : List Int} {j : Nat} {x : Int} (hx : l[j]? = some x) : (l.take (j + 1)).filter p = (l.take j).filter p ++ (if p x = true then [x] else []) := by
  rw [List.take_add_one, hx]
  simp only [Option.toList, List.filter_append, List.filter_cons, List.filter_nil]
set_option maxRecDepth 100000 in
set_option maxHeartbeats 800000 in
theorem indexfi_nodesc (b : Value) (p : Int → Bool) (v : Value) (l : List Int) (w : World) (n0 : Nat) (h : IntsR w n0 v l) (hF : ∀ n w1, Ext w w1 → Calls Tryz.prog 132 #[.int .i64 n, b] w1 fun e w' => e = .returned (.bool (p n)) ∧ Ext w1 w') :
    Calls Tryz.prog 64 #[v, .func (.func 132) #[] #[b]] w fun e w' => ∃ r : Int, e = .returned (.int .i64 r) ∧ IdxF p l r ∧ Ext w w' := by
  have HS := hid h
  have HF := hid hF
  obtain ⟨a, cap, rfl, h2, h3, h4, _⟩ := h
  have H4 := hid h4
  have hml : (l.length : Int) ≤ 9223372036854775807 := by omega
  clear h2 h3 h4 hF
  go_enter Tryz.func64, Tryz.ntmps64
  go_wp2
  go_loopw [8] (fun t8 wr => ∃ k : Nat, t8 = .int .i64 (k : Int) ∧ k ≤ l.length ∧ (∀ j t, j < k → l[j]? = some t → p t = false) ∧ Ext w wr) (fun t8 _ => l.length - (intOf t8).toNat)
  case atStart => exact ⟨0, rfl, Nat.zero_le _, fun j t h => by omega, Ext.refl _⟩
  case round =>
    obtain ⟨k, rfl, hk, hne, hx⟩ := hrel
    have Hne := hid hne
    clear hne
    by_cases hlt : k < l.length
    · obtain ⟨y, rfl⟩ := H4.out (by omega)
      have hxk : l[k]? = some (l[k]'hlt) := List.getElem?_eq_getElem hlt
      obtain ⟨t, ht⟩ : ∃ t, t = l[k]'hlt := ⟨_, rfl⟩
      rw [← ht] at hxk
      obtain ⟨a', cap', h1, _, _, _, h5⟩ := HS.out.old (hx.old n0)
      obtain ⟨rfl, rfl⟩ : some y = a' ∧ cap = cap' := by simpa using h1
      have hc := (h5 y rfl (by omega)).2 k hlt t hxk
      have HN := hid (HF.out t wr hx)
      have Hxk := hid hxk
      have Hx := hid hx
      clear hxk ht h1 h5 hx
      go_wp2_with fail
      refine HN.out.mono ?_
      intro e w1 hx1
      obtain ⟨rfl, hx1⟩ := hx1
      have Hx1 := hid (Hx.out.trans hx1)
      clear HN hx1 Hx hc
      cases he : p t with
      | true =>
        have Hin := hid (show IdxF p l (k : Int) from .inr ⟨k, t, rfl, hlt, Hxk.out, he, Hne.out⟩)
        go_wp2
        go_ret
        exact ⟨(k : Int), rfl, Hin.out, Hx1.out⟩
      | false =>
        have Hf := hid he
        clear he
        go_wp2
        go_roundw
        case rel =>
          refine ⟨k + 1, by go_num, by omega, fun j u hj hu => ?_, Hx1.out⟩
          by_cases hjk : j = k
          · subst hjk
            obtain rfl := Option.some.inj (Hxk.out.symm.trans hu)
            exact Hf.out
          · exact Hne.out j u (by omega) hu
        case measure => simp [intOf]; omega
    · obtain rfl : k = l.length := by omega
      have Hx := hid hx
      clear hx
      have Hnot := hid (show IdxF p l (-1) from .inl ⟨rfl, fun x hx => by
        obtain ⟨j, hj, e2⟩ := List.mem_iff_getElem.1 hx
        exact Hne.out j x hj (by rw [List.getElem?_eq_getElem hj, e2])⟩)
      go_wp2
      go_ret
      exact ⟨(-1 : Int), rfl, Hnot.out, Hx.out⟩
set_option maxRecDepth 100000 in
set_option maxHeartbeats 3200000 in
theorem idel_nodesc (b : Value) (p : Int → Bool) (lv : Value) (l : List Int) (w0 w : World) (n0 : Nat) (hx0 : Ext w0 w) (hb0 : w0.heap.size ≤ n0) (hr : IRow n0 w lv l) (hF : ∀ n w1, Ext w0 w1 → Calls Tryz.prog 132 #[.int .i64 n, b] w1 fun e w' => e = .returned (.bool (p n)) ∧ Ext w1 w') (hfew : l.length ≤ 100000) :
    Calls Tryz.prog 131 #[lv, .func (.func 132) #[] #[b]] w fun e w' => ∃ lv', e = .returned lv' ∧ IRow n0 w' lv' (l.filter fun x => !p x) ∧ Ext w0 w' := by
  have HI := hid (indexfi_nodesc b p lv l w w.heap.size (IntsR.own hr (Nat.le_refl _)) (fun n w1 x => hF n w1 (hx0.trans x)))
  have HF := hid hF
  obtain ⟨a, c, rfl⟩ := hr.form
  have Hr := hid hr
  have Hx0 := hid hx0
  have Hb0 := hid hb0
  clear hr hF hx0 hb0
  go_enter Tryz.func131, Tryz.ntmps131
  go_wp2_with fail
  refine HI.out.mono ?_
  intro e w1 hx
  obtain ⟨r, rfl, hidx, hx1⟩ := hx
  have Hx1 := hid (Hx0.out.trans hx1)
  have Hr1 := hid (Hr.out.ext hx1)
  clear HI hx1
  rcases hidx with ⟨rfl, hall⟩ | ⟨i0, x0, rfl, hi0, hx0, hd0, hlow⟩
  · have hf : Hid (l.filter (fun x => !p x) = l) := hid (List.filter_eq_self.2 fun x hx => by rw [hall x hx]; rfl)
    clear hall
    go_wp2
    go_ret
    exact ⟨_, rfl, by rw [hf.out]; exact Hr1.out, Hx1.out⟩
  · obtain ⟨gb, cp, he⟩ : ∃ g cap, Value.slice a l.length c = .slice (some ⟨g, 0, none⟩) l.length cap := by
      rcases Hr1.out.case with ⟨_, h⟩ | h
      · rw [h] at hi0; simp at hi0
      · exact h
    simp only [Value.slice.injEq, true_and] at he
    obtain ⟨rfl, rfl⟩ := he
    obtain ⟨_, hbase, hcap, hmx, _⟩ := Hr1.out.cur
    have hstart : l.take i0 = (l.take (i0 + 1)).filter fun x => !p x := by
      rw [filter_next hx0, hd0, List.filter_eq_self.2 fun x hx => ?_]
      · simp
      · obtain ⟨j, hj, e⟩ := List.mem_iff_getElem.1 hx
        rw [List.length_take] at hj
        rw [List.getElem_take] at e
        rw [hlow j x (by omega) (by rw [List.getElem?_eq_getElem (by omega), e])]; rfl
    have Hstart := hid hstart
    have Hbase := hid hbase
    have hmx' : (c : Int) ≤ 9223372036854775807 := by unfold maxLen at hmx; omega
    have hcl : (l.length : Int) ≤ (c : Int) := by omega
    have hi1 : ((i0 : Int) == -1) = false := beq_eq_false_iff_ne.2 (by omega)
    clear hstart hx0 hd0 hlow hbase hcap hmx
    go_wp2
    clear hi1
    go_loopw [5, 6] (fun t5 t6 wr => ∃ (i j : Nat) (R : List Int), t5 = .int .i64 (i : Int) ∧ t6 = .int .i64 (j : Int) ∧ i < j ∧ j ≤ l.length ∧ R.length = l.length ∧ R.take i = (l.take j).filter (fun x => !p x) ∧ R.drop j = l.drop j ∧
      wr.ownsRow n0 3 1 (.slice (some ⟨gb, 0, none⟩) l.length c) l.length (icells R) ∧ Ext w0 wr) (fun _ t6 _ => l.length - (intOf t6).toNat)
    case atStart => exact ⟨i0, i0 + 1, l, rfl, rfl, by omega, by omega, rfl, Hstart.out, rfl, Hr1.out, Hx1.out⟩
    case round =>
      obtain ⟨i, j, R, rfl, rfl, hij, hj, hRl, hT, hD, hrow, hx⟩ := hrel
      have HRl := hid hRl
      have HT := hid hT
      have HD := hid hD
      have Hrow := hid hrow
      have Hx := hid hx
      clear hRl hT hD Hstart hrow hx
      by_cases hlt : j < l.length
      · have hxj : R[j]? = some (l[j]'hlt) := by
          have := congrArg (fun l => l[0]?) HD.out
          simpa [List.getElem?_drop, List.getElem?_eq_getElem hlt] using this
        obtain ⟨x, hxd⟩ : ∃ x, x = l[j]'hlt := ⟨_, rfl⟩
        rw [← hxd] at hxj
        have hxk : l[j]? = some x := by rw [hxd]; exact List.getElem?_eq_getElem hlt
        have c0 := own_i Hrow.out hxj
        have HN := hid (HF.out x wr Hx.out)
        have Hxk := hid hxk
        have hji : (i : Int) < (l.length : Int) := by omega
        clear hxd hxj hxk
        go_wp2_with fail
        refine HN.out.mono ?_
        intro e w2 hx2
        obtain ⟨rfl, hx2⟩ := hx2
        have Hrow2 := hid (own_ext Hrow.out hx2)
        have Hx2 := hid (Hx.out.trans hx2)
        clear HN hx2 c0
        cases hf : p x with
        | true =>
          have Hf : Hid ((fun x => !p x) x = false) := hid (by show (!p x) = false; rw [hf]; rfl)
          clear hf
          go_wp2
          go_roundw
          case rel => exact ⟨i, j + 1, R, rfl, by go_num, by omega, by omega, HRl.out, by rw [filter_next Hxk.out, if_neg (by rw [Hf.out]; simp), HT.out]; simp, by rw [← List.drop_drop, HD.out, List.drop_drop], Hrow2.out, Hx2.out⟩
          case measure => simp [intOf]; omega
        | false =>
          have Hf : Hid ((fun x => !p x) x = true) := hid (by show (!p x) = true; rw [hf]; rfl)
          have hiR : i < R.length := by have := HRl.out; omega
          have y0 := own_i Hrow2.out (List.getElem?_eq_getElem hiR)
          have hfr := own_free Hrow2.out
          have hput := hid (own_putI Hrow2.out i hiR x)
          have hkp2 : Hid (Ext w0 (w2.setCell ⟨gb, i, none⟩ (.int .i64 x))) := hid (Keep.new Hx2.out (Keep.set (X := fun b => b = gb) (Keep.refl _ w2) rfl (.int .i64 x) : Keep (fun b => b = gb) w2 (w2.setCell ⟨gb, i, none⟩ (.int .i64 x))) fun b e => by rw [e]; exact Nat.le_trans Hb0.out Hbase.out)
          generalize hyv : R[i] = y at *
          clear hyv hf
          go_wp2
          go_roundw
          case rel => exact ⟨i + 1, j + 1, R.set i x, by go_num, by go_num, by omega, by omega, by rw [List.length_set]; exact HRl.out, by rw [take_set_succ R i x hiR, filter_next Hxk.out, if_pos Hf.out, HT.out], by rw [List.drop_set_of_lt (by omega), ← List.drop_drop, HD.out, List.drop_drop], hput.out, hkp2.out⟩
          case measure => simp [intOf]; omega
      · obtain rfl : j = l.length := by omega
        have hTf : R.take i = l.filter fun x => !p x := by rw [HT.out, List.take_length]
        have hRi : (l.filter fun x => !p x).length = i := by rw [← hTf, List.length_take, HRl.out]; omega
        obtain ⟨cu, hcu, hb0, hcap, hmx, hcs, htk⟩ := own_blk Hrow.out
        obtain ⟨ti, hi, hz0, hz1, hz2⟩ := info_parts ints_info
        have hsz : i + (l.length - i) * 1 ≤ cu.size := by rw [hcs]; omega
        have hclr := fun ty => run_clear_row (P := Tryz.prog) wr 43 ty 3 ti _ Tryz.underlying43 hi hz0 (by simp [Value.cells, Value.oneCell']) gb i (l.length - i) (c - i) (by omega) cu hcu hsz
        obtain ⟨cu', hcu'⟩ : ∃ cu', cu' = (cu.toList.take i ++ (Builtin.zeroCells (Value.int .i64 0).cells (l.length - i)).toList ++ cu.toList.drop (i + (l.length - i) * (Value.int .i64 0).cells.size)).toArray := ⟨_, rfl⟩
        rw [← hcu'] at hclr
        have hsz' : cu'.size = c * 1 := by
          have h6 : (Value.int .i64 0).cells.size = 1 := rfl
          rw [hcu', List.size_toArray, List.length_append, List.length_append, List.length_take, List.length_drop, Array.length_toList, Array.length_toList, size_zeroCells, h6, hcs]
          omega
        have htk' : cu'.toList.take (i * 1) = icells (l.filter fun x => !p x) := by
          rw [hcu', List.toList_toArray, List.append_assoc, Nat.mul_one, List.take_append_of_le_length (by rw [List.length_take, Array.length_toList]; omega), List.take_take, Nat.min_self, ← hTf]
          have h7 : cu.toList.take l.length = icells R := by simpa using htk
          have h8 := congrArg (fun l => l.take i) h7
          simp only [List.take_take, Nat.min_eq_left (show i ≤ l.length by omega)] at h8
          rw [h8]; unfold icells; rw [List.map_take]
        have hfin := hid (own_of_blk (setRow_blk hcu cu') hb0 (show i ≤ c by omega) hmx hsz' htk')
        have hkf : Hid (Ext w0 _) := hid (Keep.new Hx.out (setRow_keep wr gb cu') fun b e => by rw [e]; exact Nat.le_trans Hb0.out Hbase.out)
        have HRi := hid hRi
        have hci : (i : Int) ≤ (l.length : Int) := by omega
        clear hTf hRi hcu hb0 hcap hmx hcs htk hi hz0 hz1 hz2 hsz hcu' hsz' htk' HRl HT HD
        go_wp2
        go_ret
        exact ⟨.slice (some ⟨gb, 0, none⟩) i c, rfl, by unfold IRow; rw [HRi.out]; exact hfin.out, hkf.out⟩
def PP.nodesOf (P : PP) (l : List Int) : List Int := l.filter fun x => !decide ((P.nodesV : Int) ≤ x)
theorem consnodesc_any (g : Nat) (a1 a2 a3 : Option Addr) (c1 c2 c3 : Nat) (P : PP) (n : Int) (w : World) (n0 : Nat) (ad : Nat → Addr) (hB : Blk w g (pcells a1 a2 a3 c1 c2 c3 P) 26) (h : PW w n0 ad a1 a2 a3 c1 c2 c3 P) :
    Calls Tryz.prog 132 #[.int .i64 n, .pointer (some ⟨g, 0, none⟩)] w fun e w' => e = .returned (.bool (decide ((P.nodesV : Int) ≤ n))) ∧ Ext w w' := by
  have HN := hid (prognodes_any a1 a2 a3 c1 c2 c3 P w n0 ad h.errs h.prog h.z1 h.z2 h.well)
  have d0 := hB.av 0 rfl
  have d1 := hB.av 1 rfl
  have d2 := hB.av 2 rfl
  simp only [pcells, qA0, qA1, qA2] at d0 d1 d2
  unfold pval at HN
  clear hB h
  generalize P.nodesV = N at *
  go_enter Tryz.func132, Tryz.ntmps132
  go_wp2_with fail
  refine HN.out.mono ?_
  intro e w1 hx
  obtain ⟨rfl, hx1⟩ := hx
  have Hx1 := hid hx1
  clear HN hx1 d0 d1 d2
  by_cases hn : (N : Int) ≤ n
  · go_wp2
    go_ret
    exact ⟨by simp [hn], Hx1.out⟩
  · go_wp2
    go_ret
    exact ⟨by simp [hn], Hx1.out⟩
set_option maxRecDepth 100000 in
set_option maxHeartbeats 1600000 in
theorem consnodes_any (a1 a2 a3 : Option Addr) (c1 c2 c3 : Nat) (P : PP) (v : Value) (l : List Int) (w : World) (n0 : Nat) (ad : Nat → Addr) (h : PW w n0 ad a1 a2 a3 c1 c2 c3 P) (hl : IntsR w n0 v l) (hfew : l.length ≤ 100000) :
    Calls Tryz.prog 102 #[pval a1 a2 a3 c1 c2 c3 P, v] w fun e w' => ∃ v', e = .returned v' ∧ IRow w.heap.size w' v' (P.nodesOf l) ∧ Ext w w' := by
  obtain ⟨W, hW⟩ : ∃ W, W = w.alloc (.cells (pcells a1 a2 a3 c1 c2 c3 P) 26) := ⟨_, rfl⟩
  have HX : Hid (Ext w W) := hid (by rw [hW]; exact (Ext.refl _).alloc _)
  have HBx : Hid (Blk W w.heap.size (pcells a1 a2 a3 c1 c2 c3 P) 26) := hid (by rw [hW]; exact Blk.new _ _ _)
  have HWe : Hid (W = w.alloc (.cells #[.slice a1 P.vars.length c1, .slice a2 P.funs.length c2, .slice a3 P.stmts.length c3] 26)) := hid (by rw [hW]; rfl)
  have HPW := hid h
  have HC := hid (clone_big v l W n0 (hl.old (HX.out.old n0)) hfew)
  obtain ⟨av, cv, rfl, _⟩ := hl
  unfold pval
  clear hW h
  go_enter Tryz.func102, Tryz.ntmps102
  go_wp2_with fail
  rw [← HWe.out]
  refine HC.out.mono ?_
  intro e w1 hx
  obtain ⟨v1, rfl, hx1, hr1⟩ := hx
  have HD := hid (idel_nodesc (.pointer (some ⟨w.heap.size, 0, none⟩)) (fun o => decide ((P.nodesV : Int) ≤ o)) v1 l W w1 W.heap.size hx1 (Nat.le_refl _) hr1 (fun n w2 x => consnodesc_any w.heap.size a1 a2 a3 c1 c2 c3 P n w2 n0 ad (HBx.out.ext x) (HPW.out.ext (HX.out.trans x))) hfew)
  obtain ⟨a1', p1', rfl⟩ := hr1.form
  clear HC hx1 hr1
  go_wp2_with fail
  refine HD.out.mono ?_
  intro e w2 hx
  obtain ⟨v2, rfl, hr2, hx2⟩ := hx
  have Hr2 := hid (hr2.base HX.out.size)
  have Hx2 := hid (HX.out.trans hx2)
  clear HD hr2 hx2
  obtain ⟨a2', p2', rfl⟩ := Hr2.out.form
  go_wp2
  go_ret
  exact ⟨_, rfl, Hr2.out, Hx2.out⟩
def PP.callsOf (P : PP) (r : RV) (o : Int) : List (Int × Int) := if 0 ≤ P.funV o then calledV (P.funs.getD (P.funV o).toNat ⟨⟨#[]⟩, [], 0⟩) r else []
def PP.redges (P : PP) (r : RV) (has : List (List Int)) : List (Int × Int) :=
  bif r.kind.toList == kCopy then [(r.a, r.b)] else
  bif r.kind.toList == kLoad then (P.nodesOf (has.getD r.a.toNat [])).map fun o => (o, r.b) else
  bif r.kind.toList == kStore then (P.nodesOf (has.getD r.b.toNat [])).map fun o => (r.a, o) else
  bif r.kind.toList == kCall then (has.getD r.a.toNat []).flatMap (P.callsOf r) else []
set_option maxRecDepth 100000 in
set_option maxHeartbeats 6400000 in
theorem redges_copy (a1 a2 a3 : Option Addr) (c1 c2 c3 : Nat) (P : PP) (r : RV) (av hv : Value) (has : List (List Int)) (w : World) (n0 : Nat) (ad : Nat → Addr) (h : PW w n0 ad a1 a2 a3 c1 c2 c3 P) (ha : IntsR w n0 av r.args) (hh : SetsR w n0 hv has) (hfew : ∀ l ∈ has, l.length ≤ 10000) (hkd : (r.kind.toList == [99, 111, 112, 121]) = true) :
    Calls Tryz.prog 57 #[pval a1 a2 a3 c1 c2 c3 P, r.val av, hv] w fun e w' => ∃ v, e = .returned v ∧ ERow w.heap.size w' v (P.redges r has) ∧ Ext w w' := by
  obtain ⟨aa, ca, rfl, _⟩ := id ha
  obtain ⟨ah, ch, rfl⟩ := hh.form
  have hhl := hh.len
  have hal := ha.len
  obtain ⟨W1, hW1⟩ : ∃ W1, W1 = w.alloc (.cells (pcells a1 a2 a3 c1 c2 c3 P) 26) := ⟨_, rfl⟩
  have hx1 : Ext w W1 := by rw [hW1]; exact (Ext.refl _).alloc _
  obtain ⟨W, hW⟩ : ∃ W, W = W1.alloc (.cells #[.string r.kind, .int .i64 r.a, .int .i64 r.b, .int .i64 r.k, .slice aa r.args.length ca] 87) := ⟨_, rfl⟩
  have hx2 : Ext W1 W := by rw [hW]; exact (Ext.refl _).alloc _
  have s1 : W1.heap.size = w.heap.size + 1 := by rw [hW1, heap_size_alloc]
  have HX := hid (hx1.trans hx2)
  have HB0 : Hid (Blk W w.heap.size (pcells a1 a2 a3 c1 c2 c3 P) 26) := hid (by
    have : Blk W1 w.heap.size (pcells a1 a2 a3 c1 c2 c3 P) 26 := by rw [hW1]; exact Blk.new _ _ _
    exact this.ext hx2)
  have HB1 : Hid (Blk W (w.heap.size + 1) #[.string r.kind, .int .i64 r.a, .int .i64 r.b, .int .i64 r.k, .slice aa r.args.length ca] 87) := hid (by rw [← s1, hW]; exact Blk.new _ _ _)
  have HWe : Hid (W = (w.alloc (.cells #[.slice a1 P.vars.length c1, .slice a2 P.funs.length c2, .slice a3 P.stmts.length c3] 26)).alloc (.cells #[.string r.kind, .int .i64 r.a, .int .i64 r.b, .int .i64 r.k, .slice aa r.args.length ca] 87)) := hid (by rw [hW, hW1]; rfl)
  have HPW := hid h
  have HH := hid hh
  have HA := hid ha
  have Hfew := hid hfew
  unfold RV.val pval
  clear h ha hh hfew hW1 hW hx1 hx2 s1
  have Hr : Hid (P.redges r has = [(r.a, r.b)]) := hid (by unfold PP.redges kCopy; rw [hkd]; rfl)
  go_enter Tryz.func57, Tryz.ntmps57
  go_wp2
  go_ret
  refine ⟨_, rfl, ?_, ?_⟩
  · rw [Hr.out]
    refine ⟨rfl, .inr ⟨w.heap.size + 1 + 1, 1, #[.int .i64 r.a, .int .i64 r.b], rfl, by omega, ?_, Nat.le_refl _, by unfold maxLen; omega, rfl, rfl⟩⟩
    have := Blk.new W #[.int .i64 r.a, .int .i64 r.b] 62
    rw [HWe.out] at this
    simp only [heap_size_alloc] at this
    exact this
  · exact (((Ext.refl w).alloc _).alloc _).alloc _
set_option maxRecDepth 100000 in
set_option maxHeartbeats 6400000 in
theorem redges_load (a1 a2 a3 : Option Addr) (c1 c2 c3 : Nat) (P : PP) (r : RV) (av hv : Value) (has : List (List Int)) (w : World) (n0 : Nat) (ad : Nat → Addr) (h : PW w n0 ad a1 a2 a3 c1 c2 c3 P) (ha : IntsR w n0 av r.args) (hh : SetsR w n0 hv has) (hfew : ∀ l ∈ has, l.length ≤ 10000) (hkd : (r.kind.toList == [108, 111, 97, 100]) = true) (hidx : 0 ≤ r.a ∧ r.a < has.length) :
    Calls Tryz.prog 57 #[pval a1 a2 a3 c1 c2 c3 P, r.val av, hv] w fun e w' => ∃ v, e = .returned v ∧ ERow w.heap.size w' v (P.redges r has) ∧ Ext w w' := by
  obtain ⟨aa, ca, rfl, _⟩ := id ha
  obtain ⟨ah, ch, rfl⟩ := hh.form
  have hhl := hh.len
  have hal := ha.len
  obtain ⟨W1, hW1⟩ : ∃ W1, W1 = w.alloc (.cells (pcells a1 a2 a3 c1 c2 c3 P) 26) := ⟨_, rfl⟩
  have hx1 : Ext w W1 := by rw [hW1]; exact (Ext.refl _).alloc _
  obtain ⟨W, hW⟩ : ∃ W, W = W1.alloc (.cells #[.string r.kind, .int .i64 r.a, .int .i64 r.b, .int .i64 r.k, .slice aa r.args.length ca] 87) := ⟨_, rfl⟩
  have hx2 : Ext W1 W := by rw [hW]; exact (Ext.refl _).alloc _
  have s1 : W1.heap.size = w.heap.size + 1 := by rw [hW1, heap_size_alloc]
  have HX := hid (hx1.trans hx2)
  have HB0 : Hid (Blk W w.heap.size (pcells a1 a2 a3 c1 c2 c3 P) 26) := hid (by
    have : Blk W1 w.heap.size (pcells a1 a2 a3 c1 c2 c3 P) 26 := by rw [hW1]; exact Blk.new _ _ _
    exact this.ext hx2)
  have HB1 : Hid (Blk W (w.heap.size + 1) #[.string r.kind, .int .i64 r.a, .int .i64 r.b, .int .i64 r.k, .slice aa r.args.length ca] 87) := hid (by rw [← s1, hW]; exact Blk.new _ _ _)
  have HWe : Hid (W = (w.alloc (.cells #[.slice a1 P.vars.length c1, .slice a2 P.funs.length c2, .slice a3 P.stmts.length c3] 26)).alloc (.cells #[.string r.kind, .int .i64 r.a, .int .i64 r.b, .int .i64 r.k, .slice aa r.args.length ca] 87)) := hid (by rw [hW, hW1]; rfl)
  have HPW := hid h
  have HH := hid hh
  have HA := hid ha
  have Hfew := hid hfew
  unfold RV.val pval
  clear h ha hh hfew hW1 hW hx1 hx2 s1
  have hk0 : (r.kind.toList == [99, 111, 112, 121]) = false := by rw [eq_of_beq hkd]; rfl
  obtain ⟨K, hK⟩ := Int.eq_ofNat_of_zero_le hidx.1
  have hKl : K < has.length := by omega
  obtain ⟨y, l, bl, cl, hya, hl, hc, hI⟩ := (HH.out.old (HX.out.old n0)).at hKl
  subst hya
  have Hl : Hid (has.getD (r.a).toNat [] = l) := hid (by rw [hK, List.getD_eq_getElem?_getD]; show (has[K]?).getD [] = l; rw [hl]; rfl)
  have hll : l.length ≤ 10000 := Hfew.out l (List.mem_of_getElem? hl)
  have HI := hid hI
  have c0 : ∀ w1, Keep (fun _ => False) W w1 → w1.cell? (y.add K) = some (.slice bl l.length cl) := fun w1 k => k.ext.cellx hc
  obtain ⟨m, hm⟩ : ∃ m, m = P.nodesOf l := ⟨_, rfl⟩
  have hml : m.length ≤ 10000 := by rw [hm]; exact Nat.le_trans (List.length_filter_le _ _) hll
  have Hr : Hid (P.redges r has = m.map fun o => (o, r.b)) := hid (by unfold PP.redges kCopy kLoad; rw [hk0, hkd, Hl.out, hm]; rfl)
  have HN := fun w1 (x : Ext W w1) => hid (consnodes_any a1 a2 a3 c1 c2 c3 P (.slice bl l.length cl) l w1 n0 ad (HPW.out.ext (HX.out.trans x)) (HI.out.old (x.old n0)) (by omega))
  unfold pval at HN
  rw [← hm] at HN
  rw [hK] at HB1 HWe
  have x0 := Ext.refl W
  have d0 := (HB0.out.ext x0).kc (X := fun _ => False) (fun e => e) 0 rfl
  have d1 := (HB0.out.ext x0).kc (X := fun _ => False) (fun e => e) 1 rfl
  have d2 := (HB0.out.ext x0).kc (X := fun _ => False) (fun e => e) 2 rfl
  have m0 := (HB1.out.ext x0).kc (X := fun _ => False) (fun e => e) 0 rfl
  have m1 := (HB1.out.ext x0).kc (X := fun _ => False) (fun e => e) 1 rfl
  have m2 := (HB1.out.ext x0).kc (X := fun _ => False) (fun e => e) 2 rfl
  have m3 := (HB1.out.ext x0).kc (X := fun _ => False) (fun e => e) 3 rfl
  have m4 := (HB1.out.ext x0).kc (X := fun _ => False) (fun e => e) 4 rfl
  simp only [pcells, qA0, qA1, qA2] at d0 d1 d2 m0 m1 m2 m3 m4
  clear x0 hl hc hI hidx hm
  go_enter Tryz.func57, Tryz.ntmps57
  rw [hK]
  clear hK
  go_wp2
  rw [← HWe.out]
  refine wp_flow (fun _ => False) (by kernel_rfl) (by kernel_rfl) ?_
  apply Flow.d 0 _ rfl (by simp) (by kernel_rfl)
  · intro w1 hk; unfold does; go_simp; (try go_ints); exact DetR.mk
  simp only [qA0, qA1, qA2, Act.put, qS0, qS1, qS2]
  apply Flow.d 1 _ rfl (by simp) (by kernel_rfl)
  · intro w1 hk; unfold does; go_simp; (try go_ints); exact DetR.mk
  simp only [qA0, qA1, qA2, Act.put, qS0, qS1, qS2]
  apply Flow.d 2 _ rfl (by simp) (by kernel_rfl)
  · intro w1 hk; unfold does; go_simp; (try go_ints); exact DetR.mk
  simp only [qA0, qA1, qA2, Act.put, qS0, qS1, qS2]
  apply Flow.d 3 _ rfl (by simp) (by kernel_rfl)
  · intro w1 hk; unfold does; go_simp; (try go_ints); exact DetR.mk
  simp only [qA0, qA1, qA2, Act.put, qS0, qS1, qS2]
  apply Flow.d 4 _ rfl (by simp) (by kernel_rfl)
  · intro w1 hk; unfold does; go_simp; (try go_ints); exact DetR.mk
  simp only [qA0, qA1, qA2, Act.put, qS0, qS1, qS2]
  apply Flow.d 5 _ rfl (by simp) (by kernel_rfl)
  · intro w1 hk; unfold does; go_simp; (try go_ints); exact DetR.mk
  simp only [qA0, qA1, qA2, Act.put, qS0, qS1, qS2]
  apply Flow.d 8 _ rfl (by simp) (by kernel_rfl)
  · intro w1 hk; unfold does; go_simp; (try go_ints); exact DetR.mk
  simp only [qA0, qA1, qA2, Act.put, qS0, qS1, qS2]
  refine Flow.one 6 _ rfl (by kernel_rfl) (fun v w' => (∃ a c, v = .slice a m.length c) ∧ IRow W.heap.size w' v m ∧ Ext W w') (fun _ _ _ ⟨h1, h2, h3⟩ y => ⟨h1, h2.ext y, h3.trans y⟩) (fun w1 hC hk => ?_) ?_
  · unfold does
    go_simp
    refine CallR.act ((HN w1 hC).out.mono ?_)
    rintro e w2 ⟨v, rfl, hr, hx⟩
    exact ⟨v, rfl, (hC.trans hx).keep _, hr.form, hr.base hC.size, hC.trans hx⟩
  rintro _ ⟨_, ⟨a9, c9, rfl⟩, _, _⟩
  simp only [qA0, qA1, qA2, Act.put, qS0, qS1, qS2]
  apply Flow.d 7 _ rfl (by simp) (by kernel_rfl)
  · intro w1 hk; unfold does; go_simp; (try go_ints); exact DetR.mk
  simp only [qA0, qA1, qA2, Act.put, qS0, qS1, qS2]
  refine Flow.fin (by kernel_rfl) fun w3 hC hk3 => ?_
  obtain ⟨_, hrm, hx3⟩ := hC
  have Hrm := hid hrm
  have Hx3 := hid hx3
  clear hrm hx3 hk3 HN c0 d0 d1 d2 m0 m1 m2 m3 m4
  go_wp2
  go_loopw [7, 35] (fun t7 ti wr => ∃ (k : Nat) (E : List (Int × Int)), ti = .int .i64 (k : Int) ∧ k ≤ m.length ∧ E = ((m.take k).map fun o => (o, r.b)) ∧ wr.ownsRow w3.heap.size 62 2 t7 k (E.flatMap eCells) ∧ Ext w3 wr) (fun _ ti _ => m.length - (intOf ti).toNat)
  case atStart => exact ⟨0, [], rfl, Nat.zero_le _, rfl, World.ownsRow_nil _ _ _ _, Ext.refl _⟩
  case round =>
    obtain ⟨k, E, rfl, hk, hE, hr, hx⟩ := hrel
    obtain ⟨a7, c7, rfl⟩ := row_form hr
    have Hr7 := hid hr
    have Hx := hid hx
    have HE := hid hE
    have HrmX := hid (Hrm.out.ext hx)
    clear hr hx hE
    by_cases hlt : k < m.length
    · obtain ⟨g9, cp9, he9⟩ : ∃ g cap, Value.slice a9 m.length c9 = .slice (some ⟨g, 0, none⟩) m.length cap := by
        rcases HrmX.out.case with ⟨_, h⟩ | h
        · rw [h] at hlt; simp at hlt
        · exact h
      simp only [Value.slice.injEq, true_and] at he9
      obtain ⟨rfl, rfl⟩ := he9
      obtain ⟨o, ho⟩ : ∃ o, m[k]? = some o := ⟨_, List.getElem?_eq_getElem hlt⟩
      have hco := own_i HrmX.out ho
      have Hn : Hid (((m.take (k + 1)).map fun o => (o, r.b)) = E ++ [((fun o => (o, r.b)) o)]) := hid (by rw [List.take_add_one, ho, HE.out, List.map_append]; rfl)
      have q2 := (HB1.out.ext (Hx3.out.trans Hx.out)).av 2 rfl
      simp only [qA0, qA1, qA2] at q2
      have hxa : Hid (Ext w3 (wr.alloc (.cells #[.int .i64 o, .int .i64 r.b] 62))) := hid (Hx.out.alloc _)
      have Hra := hid (own_ext Hr7.out ((Ext.refl wr).alloc (.cells #[.int .i64 o, .int .i64 r.b] 62)))
      clear ho
      go_wp2_with (at_builtin; refine wpList_append_el w3.heap.size hxa.out.size 55 62 (.agg #[.int .i64 0, .int .i64 0]) 2 16 Tryz.underlying55 edge_info rfl (by omega) (by omega) rfl _ _ rfl (.slice a7 k c7) k (E.flatMap eCells) rfl Hra.out wr.heap.size [.int .i64 o, .int .i64 r.b] rfl (by simp [Value.oneCell']) rfl (Blk.new _ _ _) (by omega) ?_; intro v' w' h1 h2 h4; obtain ⟨a', c', rfl⟩ := row_form h1; have h3 := hid (Keep.new hxa.out h2 (fun k hk => (World.ownsRow.lt Hra.out k hk).1)); have h1 := hid h1; clear h2 h4)
      go_roundw
      case rel =>
        refine ⟨k + 1, _, by go_num, by omega, Hn.out.symm, ?_, h3.out⟩
        rw [List.flatMap_append]
        simpa [eCells] using h1.out
      case measure => simp [intOf]; omega
    · obtain rfl : k = m.length := by omega
      have HEn : Hid (P.redges r has = E) := hid (by rw [Hr.out, HE.out, List.take_of_length_le (Nat.le_refl _)])
      have hEl : Hid (E.length = m.length) := hid (by rw [HE.out, List.length_map, List.length_take, Nat.min_self])
      go_wp2
      go_ret
      exact ⟨_, rfl, by unfold ERow; rw [HEn.out, hEl.out]; exact own_low Hr7.out (HX.out.trans Hx3.out).size, HX.out.trans (Hx3.out.trans Hx.out)⟩
set_option maxRecDepth 100000 in
set_option maxHeartbeats 6400000 in
theorem redges_store (a1 a2 a3 : Option Addr) (c1 c2 c3 : Nat) (P : PP) (r : RV) (av hv : Value) (has : List (List Int)) (w : World) (n0 : Nat) (ad : Nat → Addr) (h : PW w n0 ad a1 a2 a3 c1 c2 c3 P) (ha : IntsR w n0 av r.args) (hh : SetsR w n0 hv has) (hfew : ∀ l ∈ has, l.length ≤ 10000) (hkd : (r.kind.toList == [115, 116, 111, 114, 101]) = true) (hidx : 0 ≤ r.b ∧ r.b < has.length) :
    Calls Tryz.prog 57 #[pval a1 a2 a3 c1 c2 c3 P, r.val av, hv] w fun e w' => ∃ v, e = .returned v ∧ ERow w.heap.size w' v (P.redges r has) ∧ Ext w w' := by
  obtain ⟨aa, ca, rfl, _⟩ := id ha
  obtain ⟨ah, ch, rfl⟩ := hh.form
  have hhl := hh.len
  have hal := ha.len
  obtain ⟨W1, hW1⟩ : ∃ W1, W1 = w.alloc (.cells (pcells a1 a2 a3 c1 c2 c3 P) 26) := ⟨_, rfl⟩
  have hx1 : Ext w W1 := by rw [hW1]; exact (Ext.refl _).alloc _
  obtain ⟨W, hW⟩ : ∃ W, W = W1.alloc (.cells #[.string r.kind, .int .i64 r.a, .int .i64 r.b, .int .i64 r.k, .slice aa r.args.length ca] 87) := ⟨_, rfl⟩
  have hx2 : Ext W1 W := by rw [hW]; exact (Ext.refl _).alloc _
  have s1 : W1.heap.size = w.heap.size + 1 := by rw [hW1, heap_size_alloc]
  have HX := hid (hx1.trans hx2)
  have HB0 : Hid (Blk W w.heap.size (pcells a1 a2 a3 c1 c2 c3 P) 26) := hid (by
    have : Blk W1 w.heap.size (pcells a1 a2 a3 c1 c2 c3 P) 26 := by rw [hW1]; exact Blk.new _ _ _
    exact this.ext hx2)
  have HB1 : Hid (Blk W (w.heap.size + 1) #[.string r.kind, .int .i64 r.a, .int .i64 r.b, .int .i64 r.k, .slice aa r.args.length ca] 87) := hid (by rw [← s1, hW]; exact Blk.new _ _ _)
  have HWe : Hid (W = (w.alloc (.cells #[.slice a1 P.vars.length c1, .slice a2 P.funs.length c2, .slice a3 P.stmts.length c3] 26)).alloc (.cells #[.string r.kind, .int .i64 r.a, .int .i64 r.b, .int .i64 r.k, .slice aa r.args.length ca] 87)) := hid (by rw [hW, hW1]; rfl)
  have HPW := hid h
  have HH := hid hh
  have HA := hid ha
  have Hfew := hid hfew
  unfold RV.val pval
  clear h ha hh hfew hW1 hW hx1 hx2 s1
  have hk0 : (r.kind.toList == [99, 111, 112, 121]) = false := by rw [eq_of_beq hkd]; rfl
  have hk1 : (r.kind.toList == [108, 111, 97, 100]) = false := by rw [eq_of_beq hkd]; rfl
  obtain ⟨K, hK⟩ := Int.eq_ofNat_of_zero_le hidx.1
  have hKl : K < has.length := by omega
  obtain ⟨y, l, bl, cl, hya, hl, hc, hI⟩ := (HH.out.old (HX.out.old n0)).at hKl
  subst hya
  have Hl : Hid (has.getD (r.b).toNat [] = l) := hid (by rw [hK, List.getD_eq_getElem?_getD]; show (has[K]?).getD [] = l; rw [hl]; rfl)
  have hll : l.length ≤ 10000 := Hfew.out l (List.mem_of_getElem? hl)
  have HI := hid hI
  have c0 : ∀ w1, Keep (fun _ => False) W w1 → w1.cell? (y.add K) = some (.slice bl l.length cl) := fun w1 k => k.ext.cellx hc
  obtain ⟨m, hm⟩ : ∃ m, m = P.nodesOf l := ⟨_, rfl⟩
  have hml : m.length ≤ 10000 := by rw [hm]; exact Nat.le_trans (List.length_filter_le _ _) hll
  have Hr : Hid (P.redges r has = m.map fun o => (r.a, o)) := hid (by unfold PP.redges kCopy kLoad kStore; rw [hk0, hk1, hkd, Hl.out, hm]; rfl)
  have HN := fun w1 (x : Ext W w1) => hid (consnodes_any a1 a2 a3 c1 c2 c3 P (.slice bl l.length cl) l w1 n0 ad (HPW.out.ext (HX.out.trans x)) (HI.out.old (x.old n0)) (by omega))
  unfold pval at HN
  rw [← hm] at HN
  rw [hK] at HB1 HWe
  have x0 := Ext.refl W
  have d0 := (HB0.out.ext x0).kc (X := fun _ => False) (fun e => e) 0 rfl
  have d1 := (HB0.out.ext x0).kc (X := fun _ => False) (fun e => e) 1 rfl
  have d2 := (HB0.out.ext x0).kc (X := fun _ => False) (fun e => e) 2 rfl
  have m0 := (HB1.out.ext x0).kc (X := fun _ => False) (fun e => e) 0 rfl
  have m1 := (HB1.out.ext x0).kc (X := fun _ => False) (fun e => e) 1 rfl
  have m2 := (HB1.out.ext x0).kc (X := fun _ => False) (fun e => e) 2 rfl
  have m3 := (HB1.out.ext x0).kc (X := fun _ => False) (fun e => e) 3 rfl
  have m4 := (HB1.out.ext x0).kc (X := fun _ => False) (fun e => e) 4 rfl
  simp only [pcells, qA0, qA1, qA2] at d0 d1 d2 m0 m1 m2 m3 m4
  clear x0 hl hc hI hidx hm
  go_enter Tryz.func57, Tryz.ntmps57
  rw [hK]
  clear hK
  go_wp2
  rw [← HWe.out]
  refine wp_flow (fun _ => False) (by kernel_rfl) (by kernel_rfl) ?_
  apply Flow.d 0 _ rfl (by simp) (by kernel_rfl)
  · intro w1 hk; unfold does; go_simp; (try go_ints); exact DetR.mk
  simp only [qA0, qA1, qA2, Act.put, qS0, qS1, qS2]
  apply Flow.d 1 _ rfl (by simp) (by kernel_rfl)
  · intro w1 hk; unfold does; go_simp; (try go_ints); exact DetR.mk
  simp only [qA0, qA1, qA2, Act.put, qS0, qS1, qS2]
  apply Flow.d 2 _ rfl (by simp) (by kernel_rfl)
  · intro w1 hk; unfold does; go_simp; (try go_ints); exact DetR.mk
  simp only [qA0, qA1, qA2, Act.put, qS0, qS1, qS2]
  apply Flow.d 3 _ rfl (by simp) (by kernel_rfl)
  · intro w1 hk; unfold does; go_simp; (try go_ints); exact DetR.mk
  simp only [qA0, qA1, qA2, Act.put, qS0, qS1, qS2]
  apply Flow.d 4 _ rfl (by simp) (by kernel_rfl)
  · intro w1 hk; unfold does; go_simp; (try go_ints); exact DetR.mk
  simp only [qA0, qA1, qA2, Act.put, qS0, qS1, qS2]
  apply Flow.d 5 _ rfl (by simp) (by kernel_rfl)
  · intro w1 hk; unfold does; go_simp; (try go_ints); exact DetR.mk
  simp only [qA0, qA1, qA2, Act.put, qS0, qS1, qS2]
  apply Flow.d 8 _ rfl (by simp) (by kernel_rfl)
  · intro w1 hk; unfold does; go_simp; (try go_ints); exact DetR.mk
  simp only [qA0, qA1, qA2, Act.put, qS0, qS1, qS2]
  refine Flow.one 6 _ rfl (by kernel_rfl) (fun v w' => (∃ a c, v = .slice a m.length c) ∧ IRow W.heap.size w' v m ∧ Ext W w') (fun _ _ _ ⟨h1, h2, h3⟩ y => ⟨h1, h2.ext y, h3.trans y⟩) (fun w1 hC hk => ?_) ?_
  · unfold does
    go_simp
    refine CallR.act ((HN w1 hC).out.mono ?_)
    rintro e w2 ⟨v, rfl, hr, hx⟩
    exact ⟨v, rfl, (hC.trans hx).keep _, hr.form, hr.base hC.size, hC.trans hx⟩
  rintro _ ⟨_, ⟨a9, c9, rfl⟩, _, _⟩
  simp only [qA0, qA1, qA2, Act.put, qS0, qS1, qS2]
  apply Flow.d 7 _ rfl (by simp) (by kernel_rfl)
  · intro w1 hk; unfold does; go_simp; (try go_ints); exact DetR.mk
  simp only [qA0, qA1, qA2, Act.put, qS0, qS1, qS2]
  refine Flow.fin (by kernel_rfl) fun w3 hC hk3 => ?_
  obtain ⟨_, hrm, hx3⟩ := hC
  have Hrm := hid hrm
  have Hx3 := hid hx3
  clear hrm hx3 hk3 HN c0 d0 d1 d2 m0 m1 m2 m3 m4
  go_wp2
  go_loopw [7, 57] (fun t7 ti wr => ∃ (k : Nat) (E : List (Int × Int)), ti = .int .i64 (k : Int) ∧ k ≤ m.length ∧ E = ((m.take k).map fun o => (r.a, o)) ∧ wr.ownsRow w3.heap.size 62 2 t7 k (E.flatMap eCells) ∧ Ext w3 wr) (fun _ ti _ => m.length - (intOf ti).toNat)
  case atStart => exact ⟨0, [], rfl, Nat.zero_le _, rfl, World.ownsRow_nil _ _ _ _, Ext.refl _⟩
  case round =>
    obtain ⟨k, E, rfl, hk, hE, hr, hx⟩ := hrel
    obtain ⟨a7, c7, rfl⟩ := row_form hr
    have Hr7 := hid hr
    have Hx := hid hx
    have HE := hid hE
    have HrmX := hid (Hrm.out.ext hx)
    clear hr hx hE
    by_cases hlt : k < m.length
    · obtain ⟨g9, cp9, he9⟩ : ∃ g cap, Value.slice a9 m.length c9 = .slice (some ⟨g, 0, none⟩) m.length cap := by
        rcases HrmX.out.case with ⟨_, h⟩ | h
        · rw [h] at hlt; simp at hlt
        · exact h
      simp only [Value.slice.injEq, true_and] at he9
      obtain ⟨rfl, rfl⟩ := he9
      obtain ⟨o, ho⟩ : ∃ o, m[k]? = some o := ⟨_, List.getElem?_eq_getElem hlt⟩
      have hco := own_i HrmX.out ho
      have Hn : Hid (((m.take (k + 1)).map fun o => (r.a, o)) = E ++ [((fun o => (r.a, o)) o)]) := hid (by rw [List.take_add_one, ho, HE.out, List.map_append]; rfl)
      have q2 := (HB1.out.ext (Hx3.out.trans Hx.out)).av 1 rfl
      simp only [qA0, qA1, qA2] at q2
      have hxa : Hid (Ext w3 (wr.alloc (.cells #[.int .i64 r.a, .int .i64 o] 62))) := hid (Hx.out.alloc _)
      have Hra := hid (own_ext Hr7.out ((Ext.refl wr).alloc (.cells #[.int .i64 r.a, .int .i64 o] 62)))
      clear ho
      go_wp2_with (at_builtin; refine wpList_append_el w3.heap.size hxa.out.size 55 62 (.agg #[.int .i64 0, .int .i64 0]) 2 16 Tryz.underlying55 edge_info rfl (by omega) (by omega) rfl _ _ rfl (.slice a7 k c7) k (E.flatMap eCells) rfl Hra.out wr.heap.size [.int .i64 r.a, .int .i64 o] rfl (by simp [Value.oneCell']) rfl (Blk.new _ _ _) (by omega) ?_; intro v' w' h1 h2 h4; obtain ⟨a', c', rfl⟩ := row_form h1; have h3 := hid (Keep.new hxa.out h2 (fun k hk => (World.ownsRow.lt Hra.out k hk).1)); have h1 := hid h1; clear h2 h4)
      go_roundw
      case rel =>
        refine ⟨k + 1, _, by go_num, by omega, Hn.out.symm, ?_, h3.out⟩
        rw [List.flatMap_append]
        simpa [eCells] using h1.out
      case measure => simp [intOf]; omega
    · obtain rfl : k = m.length := by omega
      have HEn : Hid (P.redges r has = E) := hid (by rw [Hr.out, HE.out, List.take_of_length_le (Nat.le_refl _)])
      have hEl : Hid (E.length = m.length) := hid (by rw [HE.out, List.length_map, List.length_take, Nat.min_self])
      go_wp2
      go_ret
      exact ⟨_, rfl, by unfold ERow; rw [HEn.out, hEl.out]; exact own_low Hr7.out (HX.out.trans Hx3.out).size, HX.out.trans (Hx3.out.trans Hx.out)⟩
theorem does_append_src {ops : Array Oper} {o : Oper} {a : Act} {w : World} {R : Value → World → Prop} (base : Nat) (hbase : base ≤ w.heap.size) (t e : TypeId) (z : Value) (size bytes : Nat) (ht : Tryz.prog.underlying t = some (.slice e)) (hinf : (Tryz.prog.info? e).map (fun i => (i.zero, i.size, i.bytes)) = some (some z, size, bytes)) (hz1 : z.cells.size = size) (hsz : 0 < size)
    (hb8 : bytes ≤ 64) (hg : o.guard = none) (s x : Operand) (ho : o.op = .call { callee := .builtin .append, args := #[s, x], argTypes := #[t, t] })
    (v : Value) (n : Nat) (xs : List Value) (hs : a.eval s = v) (hown : w.ownsRow base e size v n xs) (ad : Option Addr) (m c : Nat) (us : List Value) (hx : a.eval x = .slice ad m c) (hsrc : Src w ad m size us) (hl : n + m ≤ 1000000)
    (h : ∀ v' w', w'.ownsRow base e size v' (n + m) (xs ++ us) → Keep (fun k => v.ownBlock = some k) w w' → R v' w') : does Tryz.prog ops o a w R := by
  obtain ⟨v', w', hr, h2, h3, h4⟩ := run_append_src w base hbase t e z size bytes ht hinf hz1 hsz hb8 o.type v n xs hown ad m c us hsrc hl
  exact does_of_run hg (run_exec_append s x t ho hs hx hr) (h v' w' h2 h3)
theorem own_src {w : World} {base : Nat} {e : TypeId} {size n c : Nat} {a : Option Addr} {xs : List Value} (h : w.ownsRow base e size (.slice a n c) n xs) (h1 : ∀ u ∈ xs, u.oneCell' = true) : Src w a n size xs := by
  refine ⟨h.1, fun hn => ?_, fun x hx j u hu => ?_, h1⟩
  · obtain ⟨g, cp, he⟩ := own_some h hn
    simp only [Value.slice.injEq] at he
    exact ⟨_, he.1⟩
  · rcases h.2 with ⟨he, hn⟩ | ⟨g, cp, cur, he, _⟩
    · simp only [Value.slice.injEq] at he
      rw [he.1] at hx; cases hx
    · simp only [Value.slice.injEq] at he
      obtain ⟨rfl, _, rfl⟩ := he
      obtain rfl := Option.some.inj hx
      exact h.cells (g := g) rfl j u hu
theorem eCells_one {E : List (Int × Int)} : ∀ u ∈ E.flatMap eCells, u.oneCell' = true := fun u hu => by
  obtain ⟨e, _, h⟩ := List.mem_flatMap.1 hu
  simp only [eCells, List.mem_cons, List.mem_nil_iff, or_false] at h
  rcases h with rfl | rfl <;> rfl
theorem funV_lt {P : PP} {o : Int} (h : 0 ≤ P.funV o) : P.funV o < P.funs.length := by
  unfold PP.funV at h ⊢
  by_cases hc : 0 ≤ o - P.nodesV ∧ o - P.nodesV < P.funs.length
  · rw [if_pos hc]; exact hc.2
  · rw [if_neg hc] at h; omega
theorem called_few {P : PP} (hw : P.Well) {f : PF} (hf : f ∈ P.funs) (r : RV) : (calledV f r).length ≤ 4 := by
  have := (PP.goodF (PP.funs_ok hw.1) hf).few
  unfold calledV
  split
  · rw [List.length_cons, List.length_zip]; omega
  · simp
set_option maxRecDepth 100000 in
set_option maxHeartbeats 6400000 in
theorem redges_call (a1 a2 a3 : Option Addr) (c1 c2 c3 : Nat) (P : PP) (r : RV) (av hv : Value) (has : List (List Int)) (w : World) (n0 : Nat) (ad : Nat → Addr) (h : PW w n0 ad a1 a2 a3 c1 c2 c3 P) (ha : IntsR w n0 av r.args) (hh : SetsR w n0 hv has) (hfew : ∀ l ∈ has, l.length ≤ 10000) (hkd : (r.kind.toList == [99, 97, 108, 108]) = true) (hidx : 0 ≤ r.a ∧ r.a < has.length) (hin : ∀ l ∈ has, InR l) (hn0 : n0 ≤ w.heap.size) :
    Calls Tryz.prog 57 #[pval a1 a2 a3 c1 c2 c3 P, r.val av, hv] w fun e w' => ∃ v, e = .returned v ∧ ERow w.heap.size w' v (P.redges r has) ∧ Ext w w' := by
  obtain ⟨aa, ca, rfl, _⟩ := id ha
  obtain ⟨ah, ch, rfl⟩ := hh.form
  have hhl := hh.len
  have hal := ha.len
  obtain ⟨W1, hW1⟩ : ∃ W1, W1 = w.alloc (.cells (pcells a1 a2 a3 c1 c2 c3 P) 26) := ⟨_, rfl⟩
  have hx1 : Ext w W1 := by rw [hW1]; exact (Ext.refl _).alloc _
  obtain ⟨W, hW⟩ : ∃ W, W = W1.alloc (.cells #[.string r.kind, .int .i64 r.a, .int .i64 r.b, .int .i64 r.k, .slice aa r.args.length ca] 87) := ⟨_, rfl⟩
  have hx2 : Ext W1 W := by rw [hW]; exact (Ext.refl _).alloc _
  have s1 : W1.heap.size = w.heap.size + 1 := by rw [hW1, heap_size_alloc]
  have HX := hid (hx1.trans hx2)
  have HB0 : Hid (Blk W w.heap.size (pcells a1 a2 a3 c1 c2 c3 P) 26) := hid (by
    have : Blk W1 w.heap.size (pcells a1 a2 a3 c1 c2 c3 P) 26 := by rw [hW1]; exact Blk.new _ _ _
    exact this.ext hx2)
  have HB1 : Hid (Blk W (w.heap.size + 1) #[.string r.kind, .int .i64 r.a, .int .i64 r.b, .int .i64 r.k, .slice aa r.args.length ca] 87) := hid (by rw [← s1, hW]; exact Blk.new _ _ _)
  have HWe : Hid (W = (w.alloc (.cells #[.slice a1 P.vars.length c1, .slice a2 P.funs.length c2, .slice a3 P.stmts.length c3] 26)).alloc (.cells #[.string r.kind, .int .i64 r.a, .int .i64 r.b, .int .i64 r.k, .slice aa r.args.length ca] 87)) := hid (by rw [hW, hW1]; rfl)
  have HPW := hid h
  have HH := hid hh
  have HA := hid ha
  have Hfew := hid hfew
  unfold RV.val pval
  clear h ha hh hfew hW1 hW hx1 hx2 s1
  have hk0 : (r.kind.toList == [99, 111, 112, 121]) = false := by rw [eq_of_beq hkd]; rfl
  have hk1 : (r.kind.toList == [108, 111, 97, 100]) = false := by rw [eq_of_beq hkd]; rfl
  have hk2 : (r.kind.toList == [115, 116, 111, 114, 101]) = false := by rw [eq_of_beq hkd]; rfl
  obtain ⟨K, hK⟩ := Int.eq_ofNat_of_zero_le hidx.1
  have hKl : K < has.length := by omega
  obtain ⟨y, l, bl, cl, hya, hl, hc, hI⟩ := (HH.out.old (HX.out.old n0)).at hKl
  subst hya
  have Hl : Hid (has.getD (r.a).toNat [] = l) := hid (by rw [hK, List.getD_eq_getElem?_getD]; show (has[K]?).getD [] = l; rw [hl]; rfl)
  have hll : l.length ≤ 10000 := Hfew.out l (List.mem_of_getElem? hl)
  have HI := hid hI
  have c0 : ∀ w1, Keep (fun _ => False) W w1 → w1.cell? (y.add K) = some (.slice bl l.length cl) := fun w1 k => k.ext.cellx hc
  have Hin := hid (hin l (List.mem_of_getElem? hl))
  have Hr : Hid (P.redges r has = l.flatMap (P.callsOf r)) := hid (by unfold PP.redges kCopy kLoad kStore kCall; rw [hk0, hk1, hk2, hkd, Hl.out]; rfl)
  have HPF := fun o w1 (x : Ext W w1) (ho : 0 ≤ o ∧ o < 1000) => hid (progfun_any a1 a2 a3 c1 c2 c3 P o w1 n0 ad (HPW.out.ext (HX.out.trans x)) ho)
  have Hn0 : Hid (n0 ≤ W.heap.size) := hid (Nat.le_trans hn0 HX.out.size)
  unfold pval at HPF
  have HWk := hid HWe.out
  rw [hK] at HWk
  rw [HWk.out] at hc
  clear c0 hl hI hidx hin hn0
  go_enter Tryz.func57, Tryz.ntmps57
  rw [hK]
  clear hK
  go_wp2
  rw [← HWk.out]
  clear hc
  go_loopw [7, 77] (fun t7 t77 wr => ∃ (k : Nat) (E : List (Int × Int)), t77 = .int .i64 (k : Int) ∧ k ≤ l.length ∧ E = (l.take k).flatMap (P.callsOf r) ∧ E.length ≤ 4 * k ∧ wr.ownsRow W.heap.size 62 2 t7 E.length (E.flatMap eCells) ∧ Ext W wr) (fun _ t77 _ => l.length - (intOf t77).toNat)
  case atStart => exact ⟨0, [], rfl, Nat.zero_le _, rfl, Nat.zero_le _, World.ownsRow_nil _ _ _ _, Ext.refl _⟩
  case round =>
    obtain ⟨k, E, rfl, hk, hE, hEl, hr, hx⟩ := hrel
    obtain ⟨a7, c7, rfl⟩ := row_form hr
    have Hr7 := hid hr
    have Hx := hid hx
    have HE := hid hE
    clear hr hx hE
    by_cases hlt : k < l.length
    · obtain ⟨yl, o, hyl, ho, hco⟩ := (HI.out.old (Hx.out.old n0)).at hlt
      subst hyl
      have hob := Hin.out o (List.mem_of_getElem? ho)
      have HF := HPF o wr Hx.out hob
      have Hn : Hid ((l.take (k + 1)).flatMap (P.callsOf r) = E ++ P.callsOf r o) := hid (by rw [List.take_add_one, ho, HE.out, List.flatMap_append]; simp)
      obtain ⟨F, hF⟩ : ∃ F, F = P.funV o := ⟨_, rfl⟩
      rw [← hF] at HF
      have HFe := hid hF
      have d0 := (HB0.out.ext Hx.out).av 0 rfl
      have d1 := (HB0.out.ext Hx.out).av 1 rfl
      have d2 := (HB0.out.ext Hx.out).av 2 rfl
      simp only [pcells, qA0, qA1, qA2] at d0 d1 d2
      clear ho hob hF
      go_wp2_with fail
      refine HF.out.mono ?_
      intro e w1 hx
      obtain ⟨rfl, hx1⟩ := hx
      have Hx1 := hid (Hx.out.trans hx1)
      have Hr1 := hid (own_ext Hr7.out hx1)
      clear HF hx1 hco d0 d1 d2
      by_cases hF0 : 0 ≤ F
      · obtain ⟨N, rfl⟩ := Int.eq_ofNat_of_zero_le hF0
        have hN : N < P.funs.length := by have := funV_lt (P := P) (o := o) (by rw [← HFe.out]; exact hF0); rw [← HFe.out] at this; omega
        obtain ⟨yf, f, afp, cfp, hyf, hfk, e0, e1, e2, hIp⟩ := (HPW.out.prog.ext HX.out).funs.at hN
        subst hyf
        have hfm : f ∈ P.funs := List.mem_of_getElem? hfk
        have hq4 := called_few HPW.out.well hfm r
        have hpf := (PP.goodF (PP.funs_ok HPW.out.well.1) hfm).few
        obtain ⟨q, hq⟩ : ∃ q, q = calledV f r := ⟨_, rfl⟩
        have Hc : Hid (P.callsOf r o = q) := hid (by
          unfold PP.callsOf
          rw [if_pos (by rw [← HFe.out]; omega), ← HFe.out, hq]
          show calledV ((P.funs.getD N _)) r = _
          rw [List.getD_eq_getElem?_getD, hfk]; rfl)
        have HCl := fun wx (x : Ext w1 wx) => hid (conscalled_any f r (.slice afp f.params.length cfp) (.slice aa r.args.length ca) wx n0 (hIp.old ((Hx1.out.trans x).old n0)) (HA.out.old ((HX.out.trans (Hx1.out.trans x)).old n0)) (by omega))
        rw [← hq] at HCl hq4
        unfold RV.val at HCl
        have hnew : ∀ wx, Keep (fun b => W.heap.size ≤ b) w1 wx → Ext W wx := fun wx kk => Keep.new Hx1.out kk fun b hb => hb
        have f0 : ∀ wx, Keep (fun b => W.heap.size ≤ b) w1 wx → wx.cell? (yf.add (N * 3)) = some (.string f.name) := fun wx kk => (hnew wx kk).cellx e0
        have f1 : ∀ wx, Keep (fun b => W.heap.size ≤ b) w1 wx → wx.cell? ⟨(yf.add (N * 3)).block, (yf.add (N * 3)).off + 1, none⟩ = some (.slice afp f.params.length cfp) := fun wx kk => (hnew wx kk).cellx e1
        have f2 : ∀ wx, Keep (fun b => W.heap.size ≤ b) w1 wx → wx.cell? ⟨(yf.add (N * 3)).block, (yf.add (N * 3)).off + 2, none⟩ = some (.int .i64 f.ret) := fun wx kk => (hnew wx kk).cellx e2
        have nb0 : ¬ W.heap.size ≤ w.heap.size := by have := HB0.out.lt; omega
        have nb1 : ¬ W.heap.size ≤ w.heap.size + 1 := by have := HB1.out.lt; omega
        have d1 := (HB0.out.ext Hx1.out).kc (X := fun b => W.heap.size ≤ b) nb0 1 rfl
        have m0 := (HB1.out.ext Hx1.out).kc (X := fun b => W.heap.size ≤ b) nb1 0 rfl
        have m1 := (HB1.out.ext Hx1.out).kc (X := fun b => W.heap.size ≤ b) nb1 1 rfl
        have m2 := (HB1.out.ext Hx1.out).kc (X := fun b => W.heap.size ≤ b) nb1 2 rfl
        have m3 := (HB1.out.ext Hx1.out).kc (X := fun b => W.heap.size ≤ b) nb1 3 rfl
        have m4 := (HB1.out.ext Hx1.out).kc (X := fun b => W.heap.size ≤ b) nb1 4 rfl
        simp only [pcells, qA0, qA1, qA2] at d1 m0 m1 m2 m3 m4
        clear hfk e0 e1 e2 hIp hfm hq hnew nb0 nb1
        go_wp2
        refine wp_flowT (fun b => W.heap.size ≤ b) (by kernel_rfl) (by kernel_rfl) ?_
        repeat (apply FlowT.d; (intro w1 hk; unfold does; go_simp; (try go_ints); (first | exact DetR.mk | (simp only [↓IntWalk.iteOmega, Oper.doesUpon_value]; exact DetR.mk) | (simp only [↓IntWalk.iteOmega]; go_simp; (try go_ints); exact DetR.mk))); simp only [Act.put, qS0, qS1, qS2])
        refine FlowT.s (fun v w' => (∃ a c, v = .slice a q.length c) ∧ ERow W.heap.size w' v q ∧ w'.ownsRow W.heap.size 62 2 (.slice a7 E.length c7) E.length (E.flatMap eCells) ∧ Ext W w') 7 rfl (by kernel_rfl) (fun _ _ _ ⟨h1, h2, h3, h4⟩ y => ⟨h1, h2.ext y, own_ext h3 y, h4.trans y⟩) (fun w2 hC hk2 => ?_) ?_
        · unfold does
          go_simp
          refine CallR.act ((HCl w2 hC).out.mono ?_)
          rintro e w3 ⟨v, rfl, hr, hx⟩
          exact ⟨v, rfl, hk2.trans (hx.keep _), row_form hr, hr.low (Hx1.out.trans hC).size, own_ext Hr1.out (hC.trans hx), Hx1.out.trans (hC.trans hx)⟩
        rintro _ ⟨_, ⟨a8, c8, rfl⟩, _, _, _⟩
        simp only [Act.put, qS0, qS1, qS2]
        refine FlowT.s (fun v w' => (∃ a c, v = .slice a (E.length + q.length) c) ∧ w'.ownsRow W.heap.size 62 2 v (E.length + q.length) ((E ++ q).flatMap eCells) ∧ Ext W w') 8 rfl (by kernel_rfl) (fun _ _ _ ⟨h1, h2, h3⟩ y => ⟨h1, own_ext h2 y, h3.trans y⟩) (fun w2 hC hk2 => ?_) ?_
        · obtain ⟨_, hq8, hr8, hx8⟩ := hC
          refine does_append_src W.heap.size hx8.size 55 62 (.agg #[.int .i64 0, .int .i64 0]) 2 16 Tryz.underlying55 edge_info rfl (by omega) (by omega) rfl _ _ rfl (.slice a7 E.length c7) E.length (E.flatMap eCells) rfl hr8 a8 q.length c8 (q.flatMap eCells) rfl (own_src hq8 eCells_one) (by omega) ?_
          intro v' w' h1 h2
          exact ⟨hk2.trans (h2.mono fun b _ e => (World.ownsRow.lt hr8 b e).1), row_form h1, by rw [List.flatMap_append]; exact h1, Keep.new hx8 h2 (fun b e => (World.ownsRow.lt hr8 b e).1)⟩
        rintro _ ⟨_, ⟨a10, c10, rfl⟩, _, _⟩
        simp only [Act.put, qS0, qS1, qS2]
        repeat (apply FlowT.d; (intro w1 hk; unfold does; go_simp; (try go_ints); (first | exact DetR.mk | (simp only [↓IntWalk.iteOmega, Oper.doesUpon_value]; exact DetR.mk) | (simp only [↓IntWalk.iteOmega]; go_simp; (try go_ints); exact DetR.mk))); simp only [Act.put, qS0, qS1, qS2])
        refine FlowT.fin fun w4 hC4 hk4 => ?_
        obtain ⟨_, h5, h6⟩ := hC4
        have H5 := hid h5
        have H6 := hid h6
        clear h5 h6 hk4 HCl f0 f1 f2 d1 m0 m1 m2 m3 m4
        go_wp2
        go_roundw
        case rel => exact ⟨k + 1, E ++ q, by go_num, by omega, by rw [Hn.out, Hc.out], by rw [List.length_append]; omega, by rw [List.length_append]; exact H5.out, H6.out⟩
        case measure => simp [intOf]; omega
      · have Hc : Hid (P.callsOf r o = []) := hid (by unfold PP.callsOf; rw [if_neg (by rw [← HFe.out]; exact hF0)])
        go_wp2
        go_roundw
        case rel => exact ⟨k + 1, E, by go_num, by omega, by rw [Hn.out, Hc.out, List.append_nil], by omega, Hr1.out, Hx1.out⟩
        case measure => simp [intOf]; omega
    · obtain rfl : k = l.length := by omega
      have HEn : Hid (P.redges r has = E) := hid (by rw [Hr.out, HE.out, List.take_of_length_le (Nat.le_refl _)])
      go_wp2
      go_ret
      exact ⟨_, rfl, by unfold ERow; rw [HEn.out]; exact own_low Hr7.out HX.out.size, HX.out.trans Hx.out⟩
set_option maxRecDepth 100000 in
set_option maxHeartbeats 6400000 in
theorem redges_base (a1 a2 a3 : Option Addr) (c1 c2 c3 : Nat) (P : PP) (r : RV) (av hv : Value) (has : List (List Int)) (w : World) (n0 : Nat) (ad : Nat → Addr) (h : PW w n0 ad a1 a2 a3 c1 c2 c3 P) (ha : IntsR w n0 av r.args) (hh : SetsR w n0 hv has) (hfew : ∀ l ∈ has, l.length ≤ 10000) (hkd : (r.kind.toList == [98, 97, 115, 101]) = true) :
    Calls Tryz.prog 57 #[pval a1 a2 a3 c1 c2 c3 P, r.val av, hv] w fun e w' => ∃ v, e = .returned v ∧ ERow w.heap.size w' v (P.redges r has) ∧ Ext w w' := by
  obtain ⟨aa, ca, rfl, _⟩ := id ha
  obtain ⟨ah, ch, rfl⟩ := hh.form
  have hhl := hh.len
  have hal := ha.len
  obtain ⟨W1, hW1⟩ : ∃ W1, W1 = w.alloc (.cells (pcells a1 a2 a3 c1 c2 c3 P) 26) := ⟨_, rfl⟩
  have hx1 : Ext w W1 := by rw [hW1]; exact (Ext.refl _).alloc _
  obtain ⟨W, hW⟩ : ∃ W, W = W1.alloc (.cells #[.string r.kind, .int .i64 r.a, .int .i64 r.b, .int .i64 r.k, .slice aa r.args.length ca] 87) := ⟨_, rfl⟩
  have hx2 : Ext W1 W := by rw [hW]; exact (Ext.refl _).alloc _
  have s1 : W1.heap.size = w.heap.size + 1 := by rw [hW1, heap_size_alloc]
  have HX := hid (hx1.trans hx2)
  have HB0 : Hid (Blk W w.heap.size (pcells a1 a2 a3 c1 c2 c3 P) 26) := hid (by
    have : Blk W1 w.heap.size (pcells a1 a2 a3 c1 c2 c3 P) 26 := by rw [hW1]; exact Blk.new _ _ _
    exact this.ext hx2)
  have HB1 : Hid (Blk W (w.heap.size + 1) #[.string r.kind, .int .i64 r.a, .int .i64 r.b, .int .i64 r.k, .slice aa r.args.length ca] 87) := hid (by rw [← s1, hW]; exact Blk.new _ _ _)
  have HWe : Hid (W = (w.alloc (.cells #[.slice a1 P.vars.length c1, .slice a2 P.funs.length c2, .slice a3 P.stmts.length c3] 26)).alloc (.cells #[.string r.kind, .int .i64 r.a, .int .i64 r.b, .int .i64 r.k, .slice aa r.args.length ca] 87)) := hid (by rw [hW, hW1]; rfl)
  have HPW := hid h
  have HH := hid hh
  have HA := hid ha
  have Hfew := hid hfew
  unfold RV.val pval
  clear h ha hh hfew hW1 hW hx1 hx2 s1
  have hk0 : (r.kind.toList == [99, 111, 112, 121]) = false := by rw [eq_of_beq hkd]; rfl
  have hk1 : (r.kind.toList == [108, 111, 97, 100]) = false := by rw [eq_of_beq hkd]; rfl
  have hk2 : (r.kind.toList == [115, 116, 111, 114, 101]) = false := by rw [eq_of_beq hkd]; rfl
  have hk3 : (r.kind.toList == [99, 97, 108, 108]) = false := by rw [eq_of_beq hkd]; rfl
  have Hr : Hid (P.redges r has = []) := hid (by unfold PP.redges kCopy kLoad kStore kCall; rw [hk0, hk1, hk2, hk3]; rfl)
  clear hkd
  go_enter Tryz.func57, Tryz.ntmps57
  go_wp2
  go_ret
  exact ⟨_, rfl, by rw [Hr.out]; exact ERow.nil _ _, ((Ext.refl w).alloc _).alloc _⟩
theorem bBase_list : (bBase.toList == [98, 97, 115, 101]) = true := by decide +kernel
theorem bCall_list : (bCall.toList == [99, 97, 108, 108]) = true := by decide +kernel
structure SetsOk (P : PP) (has : List (List Int)) : Prop where
  len : has.length = P.nodesV
  ok : ∀ l ∈ has, chkE l = 0 ∧ ∀ x ∈ l, x < P.objectsV
theorem SetsOk.inr {P : PP} {has : List (List Int)} (h : SetsOk P has) : ∀ l ∈ has, InR l := fun l hl => (chkE_zero.1 (h.ok l hl).1).1
theorem srt_few {l : List Int} (h : chkE l = 0) : l.length ≤ 1000 := by
  obtain ⟨h1, h2⟩ := chkE_zero.1 h
  rw [← sset_self h2 h1]
  unfold sset
  rw [List.length_map]
  have := List.length_filter_le (fun n : Nat => decide ((n : Int) ∈ l)) (List.range 1000)
  rw [List.length_range] at this
  exact this
theorem nodes_vars (P : PP) : P.vars.length ≤ P.nodesV := by unfold PP.nodesV; omega
theorem redges_any (a1 a2 a3 : Option Addr) (c1 c2 c3 : Nat) (P : PP) (k : Nat) (hk : k < P.stmts.length) (av hv : Value) (has : List (List Int)) (w : World) (n0 : Nat) (ad : Nat → Addr) (h : PW w n0 ad a1 a2 a3 c1 c2 c3 P) (ha : IntsR w n0 av (P.ruleV k (P.stAt k)).args) (hh : SetsR w n0 hv has) (hs : SetsOk P has) (hn0 : n0 ≤ w.heap.size) :
    Calls Tryz.prog 57 #[pval a1 a2 a3 c1 c2 c3 P, (P.ruleV k (P.stAt k)).val av, hv] w fun e w' => ∃ v, e = .returned v ∧ ERow w.heap.size w' v (P.redges (P.ruleV k (P.stAt k)) has) ∧ Ext w w' := by
  have h0 := h.well.2 k (P.stAt k) hk (stAt_some hk)
  have hg := PP.good h0
  have hfew : ∀ l ∈ has, l.length ≤ 10000 := fun l hl => by have := srt_few (hs.ok l hl).1; omega
  have hnv := nodes_vars P
  have hl := hs.len
  obtain ⟨x, hx⟩ : ∃ x, x = P.stAt k := ⟨_, rfl⟩
  rw [← hx] at h0 hg ha ⊢
  rcases kind_cases h0 with g | g | g | g | g | g | g
  · have e : P.ruleV k x = ⟨bBase, x.x, x.y, k, []⟩ := by unfold PP.ruleV; rw [g]; rfl
    exact redges_base a1 a2 a3 c1 c2 c3 P _ av hv has w n0 ad h ha hh hfew (by rw [e]; exact bBase_list)
  · have e : P.ruleV k x = ⟨x.kind, x.y, x.x, k, []⟩ := by unfold PP.ruleV; rw [isK_ne g (k' := kAddr) rfl, isK_ne g (k' := kNew) rfl, isK_ne g (k' := kFun) rfl, isK_ne g (k' := kCall) rfl]; rfl
    exact redges_copy a1 a2 a3 c1 c2 c3 P _ av hv has w n0 ad h ha hh hfew (by rw [e]; exact g)
  · have e : P.ruleV k x = ⟨x.kind, x.y, x.x, k, []⟩ := by unfold PP.ruleV; rw [isK_ne g (k' := kAddr) rfl, isK_ne g (k' := kNew) rfl, isK_ne g (k' := kFun) rfl, isK_ne g (k' := kCall) rfl]; rfl
    have hy := hg.yv (isK_ne g (k' := kFun) rfl) (isK_ne g (k' := kNew) rfl)
    exact redges_load a1 a2 a3 c1 c2 c3 P _ av hv has w n0 ad h ha hh hfew (by rw [e]; exact g) (by rw [e]; show 0 ≤ x.y ∧ x.y < has.length; omega)
  · have e : P.ruleV k x = ⟨x.kind, x.y, x.x, k, []⟩ := by unfold PP.ruleV; rw [isK_ne g (k' := kAddr) rfl, isK_ne g (k' := kNew) rfl, isK_ne g (k' := kFun) rfl, isK_ne g (k' := kCall) rfl]; rfl
    have hy := hg.gx
    exact redges_store a1 a2 a3 c1 c2 c3 P _ av hv has w n0 ad h ha hh hfew (by rw [e]; exact g) (by rw [e]; show 0 ≤ x.x ∧ x.x < has.length; omega)
  · have e : P.ruleV k x = ⟨bBase, x.x, P.placeV k, k, []⟩ := by unfold PP.ruleV; rw [isK_ne g (k' := kAddr) rfl, g]; rfl
    exact redges_base a1 a2 a3 c1 c2 c3 P _ av hv has w n0 ad h ha hh hfew (by rw [e]; exact bBase_list)
  · have e : P.ruleV k x = ⟨bBase, x.x, (P.nodesV : Int) + x.y, k, []⟩ := by unfold PP.ruleV; rw [isK_ne g (k' := kAddr) rfl, isK_ne g (k' := kNew) rfl, g]; rfl
    exact redges_base a1 a2 a3 c1 c2 c3 P _ av hv has w n0 ad h ha hh hfew (by rw [e]; exact bBase_list)
  · have e : P.ruleV k x = ⟨bCall, x.y, x.x, k, x.args⟩ := by unfold PP.ruleV; rw [isK_ne g (k' := kAddr) rfl, isK_ne g (k' := kNew) rfl, isK_ne g (k' := kFun) rfl, g]; rfl
    have hy := hg.yv (isK_ne g (k' := kFun) rfl) (isK_ne g (k' := kNew) rfl)
    exact redges_call a1 a2 a3 c1 c2 c3 P _ av hv has w n0 ad h ha hh hfew (by rw [e]; exact bCall_list) (by rw [e]; show 0 ≤ x.y ∧ x.y < has.length; omega) hs.inr hn0
end Go.Proofs.YtngdpnlgnpdkcaaGreatDoor
namespace Go.Proofs.YtngdpnlgnpdkcaaGreatDoor
def lexLt (a b : Int × Int) : Prop := a.1 < b.1 ∨ (a.1 = b.1 ∧ a.2 < b.2)
def lexLe (a b : Int × Int) : Prop := lexLt a b ∨ a = b
theorem lexLt.irr (a : Int × Int) : ¬ lexLt a a := by unfold lexLt; omega
theorem lexLt.trans {a b c : Int × Int} (h : lexLt a b) (k : lexLt b c) : lexLt a c := by unfold lexLt at *; omega
theorem lexLt.tri (a b : Int × Int) : lexLt a b ∨ a = b ∨ lexLt b a := by
  obtain ⟨a1, a2⟩ := a
  obtain ⟨b1, b2⟩ := b
  unfold lexLt
  simp only [Prod.mk.injEq]
  omega
theorem lexLe.lt {a b : Int × Int} (h : lexLe a b) (hn : a ≠ b) : lexLt a b := h.elim id fun e => absurd e hn
theorem lexLe.trans_lt {a b c : Int × Int} (h : lexLe a b) (k : lexLt b c) : lexLt a c := h.elim (fun h => h.trans k) (fun e => by rw [e]; exact k)
abbrev SrtP (l : List (Int × Int)) : Prop := l.Pairwise lexLt
theorem srtP_uniq : ∀ {a b : List (Int × Int)}, SrtP a → SrtP b → (∀ x, x ∈ a ↔ x ∈ b) → a = b
  | [], [], _, _, _ => rfl
  | [], y :: b, _, _, h => absurd ((h y).2 (List.mem_cons_self ..)) (List.not_mem_nil)
  | x :: a, [], _, _, h => absurd ((h x).1 (List.mem_cons_self ..)) (List.not_mem_nil)
  | x :: a, y :: b, ha, hb, h => by
    obtain ⟨ha1, ha2⟩ := List.pairwise_cons.1 ha
    obtain ⟨hb1, hb2⟩ := List.pairwise_cons.1 hb
    have hxy : x = y := by
      have h1 : x ∈ y :: b := (h x).1 (List.mem_cons_self ..)
      have h2 : y ∈ x :: a := (h y).2 (List.mem_cons_self ..)
      rcases List.mem_cons.1 h1 with e | e
      · exact e
      · rcases List.mem_cons.1 h2 with f | f
        · exact f.symm
        · exact absurd ((hb1 x e).trans (ha1 y f)) (lexLt.irr _)
    subst hxy
    congr 1
    refine srtP_uniq ha2 hb2 fun z => ⟨fun hz => ?_, fun hz => ?_⟩
    · rcases List.mem_cons.1 ((h z).1 (List.mem_cons_of_mem _ hz)) with e | e
      · have := ha1 z hz; rw [e] at this; exact absurd this (lexLt.irr _)
      · exact e
    · rcases List.mem_cons.1 ((h z).2 (List.mem_cons_of_mem _ hz)) with e | e
      · have := hb1 z hz; rw [e] at this; exact absurd this (lexLt.irr _)
      · exact e
theorem compactP_upto (zs : List (Int × Int)) (hz : zs.Pairwise lexLe) : ∀ m, m ≤ zs.length → (∀ x, x ∈ Go.Lib.compactUpTo zs.toArray m ↔ x ∈ zs.take m) ∧ SrtP (Go.Lib.compactUpTo zs.toArray m)
  | 0, _ => ⟨fun x => by simp [Go.Lib.compactUpTo], by simp [Go.Lib.compactUpTo]⟩
  | m + 1, hm => by
    obtain ⟨h1, h2⟩ := compactP_upto zs hz m (by omega)
    have hg : zs.toArray[m]! = zs[m]'(by omega) := by simp [getElem!_pos, show m < zs.length by omega]
    have ht : zs.take (m + 1) = zs.take m ++ [zs[m]'(by omega)] := by rw [List.take_add_one, List.getElem?_eq_getElem (by omega)]; rfl
    rw [Go.Lib.compactUpTo_succ]
    by_cases hk : Go.Lib.keeps zs.toArray m = true
    · rw [if_pos hk, hg, ht]
      refine ⟨fun x => by rw [List.mem_append, List.mem_append, h1], ?_⟩
      refine List.pairwise_append.2 ⟨h2, List.pairwise_singleton _ _, fun a ha b hb => ?_⟩
      obtain rfl := List.mem_singleton.1 hb
      have ha' := (h1 a).1 ha
      obtain ⟨i, hi, rfl⟩ := List.getElem_of_mem ha'
      rw [List.length_take] at hi
      rw [List.getElem_take]
      unfold Go.Lib.keeps at hk
      rcases of_decide_eq_true hk with e | e
      · omega
      · have hg2 : zs.toArray[m - 1]! = zs[m - 1]'(by omega) := by simp [getElem!_pos, show m - 1 < zs.length by omega]
        rw [hg, hg2] at e
        have p1 : lexLt (zs[m - 1]'(by omega)) (zs[m]'(by omega)) := (List.pairwise_iff_getElem.1 hz (m - 1) m (by omega) (by omega) (by omega)).lt fun h => e h.symm
        have p2 : lexLe (zs[i]'(by omega)) (zs[m - 1]'(by omega)) := by
          rcases Nat.lt_or_ge i (m - 1) with h | h
          · exact List.pairwise_iff_getElem.1 hz i (m - 1) (by omega) (by omega) h
          · have : i = m - 1 := by omega
            subst this; exact .inr rfl
        exact p2.trans_lt p1
    · rw [if_neg hk, List.append_nil]
      refine ⟨fun x => ?_, h2⟩
      rw [h1, ht, List.mem_append]
      refine ⟨.inl, fun h => h.elim id fun hx => ?_⟩
      obtain rfl := List.mem_singleton.1 hx
      unfold Go.Lib.keeps at hk
      have hk' : ¬ (m = 0 ∨ zs.toArray[m]! ≠ zs.toArray[m - 1]!) := fun h => hk (decide_eq_true h)
      have hg2 : zs.toArray[m - 1]! = zs[m - 1]'(by omega) := by simp [getElem!_pos, show m - 1 < zs.length by omega]
      have e : zs[m]'(by omega) = zs[m - 1]'(by omega) := by
        rcases Classical.em (zs[m]'(by omega) = zs[m - 1]'(by omega)) with e | e
        · exact e
        · exact absurd (.inr (by rw [hg, hg2]; exact e)) hk'
      have hm0 : m ≠ 0 := fun h => hk' (.inl h)
      rw [e]
      have : zs[m - 1]'(by omega) = (zs.take m)[m - 1]'(by rw [List.length_take]; omega) := by rw [List.getElem_take]
      rw [this]
      exact List.getElem_mem _
theorem compactP (zs : List (Int × Int)) (hz : zs.Pairwise lexLe) : (∀ x, x ∈ Go.Lib.compact zs ↔ x ∈ zs) ∧ SrtP (Go.Lib.compact zs) := by
  obtain ⟨h1, h2⟩ := compactP_upto zs hz _ (Nat.le_refl _)
  refine ⟨fun x => ?_, by unfold Go.Lib.compact; exact h2⟩
  have := h1 x
  unfold Go.Lib.compact
  rw [this, List.take_of_length_le (Nat.le_refl _)]
end Go.Proofs.YtngdpnlgnpdkcaaGreatDoor
namespace Go.Proofs.YtngdpnlgnpdkcaaGreatDoor
open Go Go.RowKit
def PP.edges0 (P : PP) (has : List (List Int)) : List (Int × Int) := P.rulesV.flatMap fun r => P.redges r has
def PP.sedges (P : PP) (x : PS) (has : List (List Int)) : List (Int × Int) := P.redges (P.ruleV 0 x) has
theorem redges_nil {P : PP} {r : RV} {has : List (List Int)} (h : r.kind = bBase) : P.redges r has = [] := by
  have e := eq_of_beq bBase_list
  unfold PP.redges kCopy kLoad kStore kCall
  rw [h, e]; rfl
end Go.Proofs.YtngdpnlgnpdkcaaGreatDoor
