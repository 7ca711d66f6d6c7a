/- Texts of one proof, put together: U5 U6 U7 F9. -/
import Derived.Test.YtohfdecefikinaaGreatDoorZCM05
import Derived.Test.YtohfdecefikinaaGreatDoorZCM06
import Derived.Lib.IndexBytes

/- Programs: a statement's numbers, and is it well? -/
namespace Go.Proofs.YtohfdecefikinaaGreatDoor
set_option linter.unusedSimpArgs false
set_option linter.unusedVariables false
open Go Go.RowKit

def PS.isK (s : PS) (k : List UInt8) : Bool := s.kind.toList == k
def kFun : List UInt8 := [102, 117, 110]
def kNew : List UInt8 := [110, 101, 119]
def kCall : List UInt8 := [99, 97, 108, 108]
def PP.boundY (P : PP) (s : PS) : Bool := bif s.isK kFun then decide (0 ≤ s.y) && decide (s.y < (P.funs.length : Int)) else bif s.isK kNew then true else P.inV s.y
def PP.bound (P : PP) (s : PS) : Bool := P.inV s.x && P.boundY s && P.allV s.args
def kindsS : List ByteArray := [⟨#[97, 100, 100, 114]⟩, ⟨#[99, 111, 112, 121]⟩, ⟨#[108, 111, 97, 100]⟩, ⟨#[115, 116, 111, 114, 101]⟩, ⟨#[110, 101, 119]⟩, ⟨#[102, 117, 110]⟩, ⟨#[99, 97, 108, 108]⟩]
def PP.stmtErr (P : PP) (s : PS) : Nat := bif !memB s.kind kindsS then 4 else bif !P.bound s then 2 else bif s.isK kCall && decide (3 < s.args.length) then 9 else bif (!s.isK kCall && decide (0 < s.args.length)) || (s.isK kNew && !decide (s.y = 0)) then 3 else 0
/-- A statement as a value. -/
def sval (s : PS) (a : Option Addr) (cap : Nat) : Value := .agg #[.string s.kind, .int .i64 s.x, .int .i64 s.y, .slice a s.args.length cap]
def scells (s : PS) (a : Option Addr) (cap : Nat) : Array Value := #[.string s.kind, .int .i64 s.x, .int .i64 s.y, .slice a s.args.length cap]

theorem allV_one (P : PP) (n : Int) : P.allV [n] = P.inV n := by simp [PP.allV]

theorem pvars_one (a1 a2 a3 : Option Addr) (c1 c2 c3 : Nat) (P : PP) (n : Int) (w : World) :
    Calls Tryz.prog 81 #[.agg #[.slice a1 P.vars.length c1, .slice a2 P.funs.length c2, .slice a3 P.stmts.length c3], .slice (some ⟨w.heap.size, 0, none⟩) 1 1] (w.alloc (.cells #[.int .i64 n] 3)) fun e w' => e = .returned (.bool (P.inV n)) ∧ Ext w w' :=
  (pvars_any a1 a2 a3 c1 c2 c3 P _ [n] _ _ (IntsR.blk (l := [n]) (Blk.new w #[.int .i64 n] 3) rfl (by simp))).mono fun e w' ⟨h1, h2⟩ => ⟨by rw [h1, allV_one], ((Ext.refl w).alloc _).trans h2⟩

set_option maxRecDepth 100000 in
set_option maxHeartbeats 3200000 in
theorem pbound_any (a1 a2 a3 : Option Addr) (c1 c2 c3 : Nat) (P : PP) (s : PS) (a : Option Addr) (cap : Nat) (w : World) (n0 : Nat) (h : IntsR w n0 (.slice a s.args.length cap) s.args) :
    Calls Tryz.prog 83 #[pval a1 a2 a3 c1 c2 c3 P, sval s a cap] w fun e w' => e = .returned (.bool (P.bound s)) ∧ Ext w w' := by
  have HI := hid h
  clear h
  obtain ⟨W2, hW2⟩ : ∃ W2, W2 = (w.alloc (.cells (pcells a1 a2 a3 c1 c2 c3 P) 26)).alloc (.cells (scells s a cap) 65) := ⟨_, rfl⟩
  have HW2 : Hid (Ext w W2) := hid (by rw [hW2]; exact ((Ext.refl _).alloc _).alloc _)
  have hsz : W2.heap.size = w.heap.size + 1 + 1 := by rw [hW2, heap_size_alloc, heap_size_alloc]
  have HB1 : Hid (Blk W2 w.heap.size (pcells a1 a2 a3 c1 c2 c3 P) 26) := hid (by rw [hW2]; exact (Blk.new _ _ _).alloc _)
  have HB2 : Hid (Blk W2 (w.heap.size + 1) (scells s a cap) 65) := hid (by
    rw [hW2]
    have := Blk.new (w.alloc (.cells (pcells a1 a2 a3 c1 c2 c3 P) 26)) (scells s a cap) 65
    rwa [heap_size_alloc] at this)
  have H1 := hid (pvars_one a1 a2 a3 c1 c2 c3 P s.y W2)
  rw [hsz] at H1
  unfold pcells scells at hW2
  have HWe := hid hW2
  clear hW2 hsz
  unfold pval sval
  go_enter Tryz.func83, Tryz.ntmps83
  go_wp2_with fail
  rw [← HWe.out]
  refine H1.out.mono ?_
  intro e w3 hx
  obtain ⟨rfl, hx3⟩ := hx
  clear H1
  have d0 := (HB1.out.ext hx3).av 0 rfl
  have d1 := (HB1.out.ext hx3).av 1 rfl
  have d2 := (HB1.out.ext hx3).av 2 rfl
  have k0 := (HB2.out.ext hx3).av 0 rfl
  have k1 := (HB2.out.ext hx3).av 1 rfl
  have k2 := (HB2.out.ext hx3).av 2 rfl
  have k3 := (HB2.out.ext hx3).av 3 rfl
  simp only [pcells, scells, List.getElem_toArray, List.getElem_cons_zero, List.getElem_cons_succ] at d0 d1 d2 k0 k1 k2 k3
  have HX := hid (pvars_one a1 a2 a3 c1 c2 c3 P s.x w3)
  cases hf : (s.kind.toList == [102, 117, 110]) with
  | true =>
    have Hb := hid (show P.boundY s = (decide (0 ≤ s.y) && decide (s.y < (P.funs.length : Int))) by unfold PP.boundY PS.isK kFun; rw [hf]; rfl)
    by_cases y0 : 0 ≤ s.y
    · by_cases y1 : s.y < (P.funs.length : Int)
      · have HY := hid (show P.boundY s = true by rw [Hb.out, decide_eq_true y0, decide_eq_true y1]; rfl)
        go_wp2_with fail
        refine HX.out.mono ?_
        intro e w4 hx
        obtain ⟨rfl, hx4⟩ := hx
        have Hx4 := hid (hx3.trans hx4)
        clear HX
        cases hX : P.inV s.x with
        | false =>
          have Hr := hid (show P.bound s = false by unfold PP.bound; rw [hX]; rfl)
          go_wp2
          go_ret
          exact ⟨by rw [Hr.out]; rfl, HW2.out.trans Hx4.out⟩
        | true =>
          have Hr := hid (show P.bound s = P.allV s.args by unfold PP.bound; rw [hX, HY.out]; rfl)
          have HA := hid (pvars_any a1 a2 a3 c1 c2 c3 P _ s.args w4 n0 (HI.out.old ((HW2.out.trans Hx4.out).old n0)))
          unfold pval at HA
          clear d0 d1 d2 k0 k1 k2 k3
          have e0 := (HB1.out.ext Hx4.out).av 0 rfl
          have e1 := (HB1.out.ext Hx4.out).av 1 rfl
          have e2 := (HB1.out.ext Hx4.out).av 2 rfl
          have m0 := (HB2.out.ext Hx4.out).av 0 rfl
          have m1 := (HB2.out.ext Hx4.out).av 1 rfl
          have m2 := (HB2.out.ext Hx4.out).av 2 rfl
          have m3 := (HB2.out.ext Hx4.out).av 3 rfl
          simp only [pcells, scells, List.getElem_toArray, List.getElem_cons_zero, List.getElem_cons_succ] at e0 e1 e2 m0 m1 m2 m3
          go_wp2_with fail
          refine HA.out.mono ?_
          intro e w5 hx
          obtain ⟨rfl, hx5⟩ := hx
          clear HA
          go_wp2
          go_ret
          exact ⟨by rw [Hr.out]; rfl, (HW2.out.trans Hx4.out).trans hx5⟩
      · have HY := hid (show P.boundY s = false by rw [Hb.out, decide_eq_false y1]; simp)
        go_wp2_with fail
        refine HX.out.mono ?_
        intro e w4 hx
        obtain ⟨rfl, hx4⟩ := hx
        have Hx4 := hid (hx3.trans hx4)
        clear HX
        cases hX : P.inV s.x with
        | false =>
          have Hr := hid (show P.bound s = false by unfold PP.bound; rw [hX]; rfl)
          go_wp2
          go_ret
          exact ⟨by rw [Hr.out]; rfl, HW2.out.trans Hx4.out⟩
        | true =>
          have Hr := hid (show P.bound s = false by unfold PP.bound; rw [HY.out]; simp)
          go_wp2
          go_ret
          exact ⟨by rw [Hr.out]; rfl, HW2.out.trans Hx4.out⟩
    · have HY := hid (show P.boundY s = false by rw [Hb.out, decide_eq_false y0]; simp)
      go_wp2_with fail
      refine HX.out.mono ?_
      intro e w4 hx
      obtain ⟨rfl, hx4⟩ := hx
      have Hx4 := hid (hx3.trans hx4)
      clear HX
      cases hX : P.inV s.x with
      | false =>
        have Hr := hid (show P.bound s = false by unfold PP.bound; rw [hX]; rfl)
        go_wp2
        go_ret
        exact ⟨by rw [Hr.out]; rfl, HW2.out.trans Hx4.out⟩
      | true =>
        have Hr := hid (show P.bound s = false by unfold PP.bound; rw [HY.out]; simp)
        go_wp2
        go_ret
        exact ⟨by rw [Hr.out]; rfl, HW2.out.trans Hx4.out⟩
  | false =>
    cases hn : (s.kind.toList == [110, 101, 119]) with
    | true =>
      have HY := hid (show P.boundY s = true by unfold PP.boundY PS.isK kFun kNew; rw [hf, hn]; rfl)
      go_wp2_with fail
      refine HX.out.mono ?_
      intro e w4 hx
      obtain ⟨rfl, hx4⟩ := hx
      have Hx4 := hid (hx3.trans hx4)
      clear HX
      cases hX : P.inV s.x with
      | false =>
        have Hr := hid (show P.bound s = false by unfold PP.bound; rw [hX]; rfl)
        go_wp2
        go_ret
        exact ⟨by rw [Hr.out]; rfl, HW2.out.trans Hx4.out⟩
      | true =>
        have Hr := hid (show P.bound s = P.allV s.args by unfold PP.bound; rw [hX, HY.out]; rfl)
        have HA := hid (pvars_any a1 a2 a3 c1 c2 c3 P _ s.args w4 n0 (HI.out.old ((HW2.out.trans Hx4.out).old n0)))
        unfold pval at HA
        clear d0 d1 d2 k0 k1 k2 k3
        have e0 := (HB1.out.ext Hx4.out).av 0 rfl
        have e1 := (HB1.out.ext Hx4.out).av 1 rfl
        have e2 := (HB1.out.ext Hx4.out).av 2 rfl
        have m0 := (HB2.out.ext Hx4.out).av 0 rfl
        have m1 := (HB2.out.ext Hx4.out).av 1 rfl
        have m2 := (HB2.out.ext Hx4.out).av 2 rfl
        have m3 := (HB2.out.ext Hx4.out).av 3 rfl
        simp only [pcells, scells, List.getElem_toArray, List.getElem_cons_zero, List.getElem_cons_succ] at e0 e1 e2 m0 m1 m2 m3
        go_wp2_with fail
        refine HA.out.mono ?_
        intro e w5 hx
        obtain ⟨rfl, hx5⟩ := hx
        clear HA
        go_wp2
        go_ret
        exact ⟨by rw [Hr.out]; rfl, (HW2.out.trans Hx4.out).trans hx5⟩
    | false =>
      have Hb := hid (show P.boundY s = P.inV s.y by unfold PP.boundY PS.isK kFun kNew; rw [hf, hn]; rfl)
      cases hy : P.inV s.y with
      | true =>
        have HY := hid (show P.boundY s = true by rw [Hb.out, hy])
        go_wp2_with fail
        refine HX.out.mono ?_
        intro e w4 hx
        obtain ⟨rfl, hx4⟩ := hx
        have Hx4 := hid (hx3.trans hx4)
        clear HX
        cases hX : P.inV s.x with
        | false =>
          have Hr := hid (show P.bound s = false by unfold PP.bound; rw [hX]; rfl)
          go_wp2
          go_ret
          exact ⟨by rw [Hr.out]; rfl, HW2.out.trans Hx4.out⟩
        | true =>
          have Hr := hid (show P.bound s = P.allV s.args by unfold PP.bound; rw [hX, HY.out]; rfl)
          have HA := hid (pvars_any a1 a2 a3 c1 c2 c3 P _ s.args w4 n0 (HI.out.old ((HW2.out.trans Hx4.out).old n0)))
          unfold pval at HA
          clear d0 d1 d2 k0 k1 k2 k3
          have e0 := (HB1.out.ext Hx4.out).av 0 rfl
          have e1 := (HB1.out.ext Hx4.out).av 1 rfl
          have e2 := (HB1.out.ext Hx4.out).av 2 rfl
          have m0 := (HB2.out.ext Hx4.out).av 0 rfl
          have m1 := (HB2.out.ext Hx4.out).av 1 rfl
          have m2 := (HB2.out.ext Hx4.out).av 2 rfl
          have m3 := (HB2.out.ext Hx4.out).av 3 rfl
          simp only [pcells, scells, List.getElem_toArray, List.getElem_cons_zero, List.getElem_cons_succ] at e0 e1 e2 m0 m1 m2 m3
          go_wp2_with fail
          refine HA.out.mono ?_
          intro e w5 hx
          obtain ⟨rfl, hx5⟩ := hx
          clear HA
          go_wp2
          go_ret
          exact ⟨by rw [Hr.out]; rfl, (HW2.out.trans Hx4.out).trans hx5⟩
      | false =>
        have HY := hid (show P.boundY s = false by rw [Hb.out, hy])
        go_wp2_with fail
        refine HX.out.mono ?_
        intro e w4 hx
        obtain ⟨rfl, hx4⟩ := hx
        have Hx4 := hid (hx3.trans hx4)
        clear HX
        cases hX : P.inV s.x with
        | false =>
          have Hr := hid (show P.bound s = false by unfold PP.bound; rw [hX]; rfl)
          go_wp2
          go_ret
          exact ⟨by rw [Hr.out]; rfl, HW2.out.trans Hx4.out⟩
        | true =>
          have Hr := hid (show P.bound s = false by unfold PP.bound; rw [HY.out]; simp)
          go_wp2
          go_ret
          exact ⟨by rw [Hr.out]; rfl, HW2.out.trans Hx4.out⟩
end Go.Proofs.YtohfdecefikinaaGreatDoor


/- Programs: is a statement well? -/
namespace Go.Proofs.YtohfdecefikinaaGreatDoor
set_option linter.unusedSimpArgs false
set_option linter.unusedVariables false
open Go Go.RowKit

set_option maxRecDepth 100000 in
set_option maxHeartbeats 3200000 in
theorem pstmt_any (a1 a2 a3 : Option Addr) (c1 c2 c3 : Nat) (P : PP) (s : PS) (a : Option Addr) (cap : Nat) (w : World) (n0 : Nat) (ad : Nat → Addr) (hE : ErrsP w ad) (h : IntsR w n0 (.slice a s.args.length cap) s.args) :
    Calls Tryz.prog 58 #[pval a1 a2 a3 c1 c2 c3 P, sval s a cap] w fun e w' => e = .returned (errv (evOf ad) (P.stmtErr s)) ∧ Ext w w' := by
  have HI := hid h
  have HE := hid hE
  clear h hE
  obtain ⟨W2, hW2⟩ : ∃ W2, W2 = (w.alloc (.cells (pcells a1 a2 a3 c1 c2 c3 P) 26)).alloc (.cells (scells s a cap) 65) := ⟨_, rfl⟩
  have HW2 : Hid (Ext w W2) := hid (by rw [hW2]; exact ((Ext.refl _).alloc _).alloc _)
  have hsz : W2.heap.size = w.heap.size + 1 + 1 := by rw [hW2, heap_size_alloc, heap_size_alloc]
  have HB1 : Hid (Blk W2 w.heap.size (pcells a1 a2 a3 c1 c2 c3 P) 26) := hid (by rw [hW2]; exact (Blk.new _ _ _).alloc _)
  have HB2 : Hid (Blk W2 (w.heap.size + 1) (scells s a cap) 65) := hid (by
    rw [hW2]
    have := Blk.new (w.alloc (.cells (pcells a1 a2 a3 c1 c2 c3 P) 26)) (scells s a cap) 65
    rwa [heap_size_alloc] at this)
  obtain ⟨W3, hW3⟩ : ∃ W3, W3 = W2.alloc (.cells #[.string ⟨#[97, 100, 100, 114]⟩, .string ⟨#[99, 111, 112, 121]⟩, .string ⟨#[108, 111, 97, 100]⟩, .string ⟨#[115, 116, 111, 114, 101]⟩, .string ⟨#[110, 101, 119]⟩, .string ⟨#[102, 117, 110]⟩, .string ⟨#[99, 97, 108, 108]⟩] 9) := ⟨_, rfl⟩
  have hx3 : Ext W2 W3 := by rw [hW3]; exact (Ext.refl _).alloc _
  have H1 : Hid (Calls Tryz.prog 80 #[.slice (some ⟨W2.heap.size, 0, none⟩) 7 7, .string s.kind] W3 fun e w' => e = .returned (.bool (memB s.kind kindsS)) ∧ W3 = w') := hid (by
    refine containss_any (.slice (some ⟨W2.heap.size, 0, none⟩) 7 7) kindsS s.kind W3 W3.heap.size (StrsR.blk (l := kindsS) (c := #[.string ⟨#[97, 100, 100, 114]⟩, .string ⟨#[99, 111, 112, 121]⟩, .string ⟨#[108, 111, 97, 100]⟩, .string ⟨#[115, 116, 111, 114, 101]⟩, .string ⟨#[110, 101, 119]⟩, .string ⟨#[102, 117, 110]⟩, .string ⟨#[99, 97, 108, 108]⟩]) (t := 9) ?_ rfl (by decide))
    rw [hW3]; exact Blk.new _ _ _)
  rw [hsz] at H1
  unfold pcells scells at hW2
  rw [hW2] at hW3
  have HW3 := hid hW3
  have H2 := hid (pbound_any a1 a2 a3 c1 c2 c3 P s a cap W3 n0 (HI.out.old ((HW2.out.trans hx3).old n0)))
  unfold pval sval at H2
  clear hW2 hsz hW3
  unfold pval sval
  have hx := HW2.out.trans hx3
  have Hx := hid hx
  have g4 := (HE.out.ext hx).at4
  unfold evOf at g4
  have d0 := (HB1.out.ext hx3).av 0 rfl
  have d1 := (HB1.out.ext hx3).av 1 rfl
  have d2 := (HB1.out.ext hx3).av 2 rfl
  have k0 := (HB2.out.ext hx3).av 0 rfl
  have k1 := (HB2.out.ext hx3).av 1 rfl
  have k2 := (HB2.out.ext hx3).av 2 rfl
  have k3 := (HB2.out.ext hx3).av 3 rfl
  simp only [pcells, scells, List.getElem_toArray, List.getElem_cons_zero, List.getElem_cons_succ] at d0 d1 d2 k0 k1 k2 k3
  go_enter Tryz.func58, Tryz.ntmps58
  go_wp2_with fail
  rw [← HW3.out]
  refine H1.out.mono ?_
  intro e w3 hx
  obtain ⟨rfl, rfl⟩ := hx
  clear H1
  cases hm : memB s.kind kindsS with
  | false =>
    have Hr := hid (show P.stmtErr s = 4 by unfold PP.stmtErr; rw [hm]; rfl)
    clear hm
    go_wp2
    go_ret
    exact ⟨by rw [Hr.out]; rfl, Hx.out⟩
  | true =>
  have Hm := hid hm
  clear hm
  go_wp2_with fail
  refine H2.out.mono ?_
  intro e w5 hx5
  obtain ⟨rfl, hx5⟩ := hx5
  clear H2 d0 d1 d2 k0 k1 k2 k3 g4
  have Hx5 := hid (Hx.out.trans hx5)
  have g2 := (HE.out.ext Hx5.out).at2
  have g3 := (HE.out.ext Hx5.out).at3
  have g9 := (HE.out.ext Hx5.out).at9
  unfold evOf at g2 g3 g9
  have d0 := (HB1.out.ext (hx3.trans hx5)).av 0 rfl
  have d1 := (HB1.out.ext (hx3.trans hx5)).av 1 rfl
  have d2 := (HB1.out.ext (hx3.trans hx5)).av 2 rfl
  have k0 := (HB2.out.ext (hx3.trans hx5)).av 0 rfl
  have k1 := (HB2.out.ext (hx3.trans hx5)).av 1 rfl
  have k2 := (HB2.out.ext (hx3.trans hx5)).av 2 rfl
  have k3 := (HB2.out.ext (hx3.trans hx5)).av 3 rfl
  simp only [pcells, scells, List.getElem_toArray, List.getElem_cons_zero, List.getElem_cons_succ] at d0 d1 d2 k0 k1 k2 k3
  clear hx5
  cases hb : P.bound s with
  | false =>
    have Hr := hid (show P.stmtErr s = 2 by unfold PP.stmtErr; rw [Hm.out, hb]; rfl)
    clear hb
    go_wp2
    go_ret
    exact ⟨by rw [Hr.out]; rfl, Hx5.out⟩
  | true =>
  have HBd := hid hb
  clear hb
  cases hc : (s.kind.toList == [99, 97, 108, 108]) with
  | true =>
    have Hc := hid (show s.isK kCall = true from hc)
    have hn : (s.kind.toList == [110, 101, 119]) = false := by
      rw [eq_of_beq hc]; rfl
    have Hn := hid (show s.isK kNew = false from hn)
    by_cases h3 : 3 < s.args.length
    · have Hr := hid (show P.stmtErr s = 9 by unfold PP.stmtErr; rw [Hm.out]; simp only [HBd.out, Hc.out, Hn.out]; simp [*])
      go_wp2
      go_ret
      exact ⟨by rw [Hr.out]; rfl, Hx5.out⟩
    · have Hr := hid (show P.stmtErr s = 0 by unfold PP.stmtErr; rw [Hm.out]; simp only [HBd.out, Hc.out, Hn.out]; simp [*])
      go_wp2
      go_ret
      exact ⟨by rw [Hr.out]; rfl, Hx5.out⟩
  | false =>
    have Hc := hid (show s.isK kCall = false from hc)
    by_cases h0 : 0 < s.args.length
    · have Hr := hid (show P.stmtErr s = 3 by unfold PP.stmtErr; rw [Hm.out]; simp only [HBd.out, Hc.out]; simp [h0])
      go_wp2
      go_ret
      exact ⟨by rw [Hr.out]; rfl, Hx5.out⟩
    · cases hn : (s.kind.toList == [110, 101, 119]) with
      | true =>
        have Hn := hid (show s.isK kNew = true from hn)
        by_cases hy : s.y = 0
        · have Hr := hid (show P.stmtErr s = 0 by unfold PP.stmtErr; rw [Hm.out]; simp only [HBd.out, Hc.out, Hn.out]; simp [*])
          go_wp2
          go_ret
          exact ⟨by rw [Hr.out]; rfl, Hx5.out⟩
        · have Hr := hid (show P.stmtErr s = 3 by unfold PP.stmtErr; rw [Hm.out]; simp only [HBd.out, Hc.out, Hn.out]; simp [*])
          go_wp2
          go_ret
          exact ⟨by rw [Hr.out]; rfl, Hx5.out⟩
      | false =>
        have Hn := hid (show s.isK kNew = false from hn)
        have Hr := hid (show P.stmtErr s = 0 by unfold PP.stmtErr; rw [Hm.out]; simp only [HBd.out, Hc.out, Hn.out]; simp [*])
        go_wp2
        go_ret
        exact ⟨by rw [Hr.out]; rfl, Hx5.out⟩
end Go.Proofs.YtohfdecefikinaaGreatDoor


/- Programs: are the functions well? -/
namespace Go.Proofs.YtohfdecefikinaaGreatDoor
set_option linter.unusedSimpArgs false
set_option linter.unusedVariables false
open Go Go.RowKit

theorem add_posU (a : Addr) (j : Nat) (h : j ≠ 0) : a.add j = ⟨a.block, a.off + j, none⟩ := by simp [Addr.add, h]
def bad9 (f : PF) : Bool := decide (3 < f.params.length)
def PP.bad2 (P : PP) (f : PF) : Bool := !P.allV f.params || !P.inV f.ret
def bad7 (f : PF) : Bool := dupI f.params
def PP.funsErr (P : PP) : Nat := bif P.funs.any bad9 then 9 else bif P.funs.any P.bad2 then 2 else bif P.funs.any bad7 then 7 else 0
theorem any_at {α : Type} {l : List α} {p : α → Bool} {k : Nat} {x : α} (hx : l[k]? = some x) (hp : p x = true) : l.any p = true := List.any_eq_true.2 ⟨x, List.mem_of_getElem? hx, hp⟩
theorem any_no {α : Type} {l : List α} {p : α → Bool} (h : ∀ j x, j < l.length → l[j]? = some x → p x = false) : l.any p = false :=
  List.any_eq_false.2 fun x hx => by
    obtain ⟨j, hj⟩ := List.getElem?_of_mem hx
    have h3 : j < l.length := by
      rcases Nat.lt_or_ge j l.length with h | h
      · exact h
      · rw [List.getElem?_eq_none h] at hj; cases hj
    simp [h j x h3 hj]
theorem all_step {α : Type} {l : List α} {p : α → Bool} {k : Nat} {x : α} (hne : ∀ j t, j < k → l[j]? = some t → p t = false) (hx : l[k]? = some x) (hp : p x = false) : ∀ j t, j < k + 1 → l[j]? = some t → p t = false := fun j t hj ht => by
  by_cases hjk : j = k
  · subst hjk
    obtain rfl := Option.some.inj (hx.symm.trans ht)
    exact hp
  · exact hne j t (by omega) ht

/-- A function of a program. -/
theorem FunsR.at {w : World} {n0 : Nat} {a : Option Addr} {n cap : Nat} {l : List PF} (h : FunsR w n0 (.slice a n cap) l) {k : Nat} (hk : k < l.length) : ∃ (y : Addr) (f : PF) (av : Option Addr) (cv : Nat), a = some y ∧ l[k]? = some f ∧ w.cell? (y.add (k * 3)) = some (.string f.name) ∧ w.cell? ⟨(y.add (k * 3)).block, (y.add (k * 3)).off + 1, none⟩ = some (.slice av f.params.length cv) ∧ w.cell? ⟨(y.add (k * 3)).block, (y.add (k * 3)).off + 2, none⟩ = some (.int .i64 f.ret) ∧ IntsR w n0 (.slice av f.params.length cv) f.params := by
  obtain ⟨a', cap', h1, _, _, h4, h5⟩ := h
  obtain ⟨rfl, rfl, rfl⟩ : a = a' ∧ n = l.length ∧ cap = cap' := by simpa using h1
  obtain ⟨y, hy⟩ := h4 (by omega)
  obtain ⟨pv, e0, e1, e2, e3⟩ := (h5 y hy (by omega)).2 k hk (l[k]'hk) (List.getElem?_eq_getElem hk)
  obtain ⟨av, cv, rfl, _⟩ := id e3
  rw [add_posU _ _ (by decide)] at e1 e2
  exact ⟨y, _, av, cv, hy, List.getElem?_eq_getElem hk, e0, e1, e2, e3⟩
theorem StmtsR.at {w : World} {n0 : Nat} {a : Option Addr} {n cap : Nat} {l : List PS} (h : StmtsR w n0 (.slice a n cap) l) {k : Nat} (hk : k < l.length) : ∃ (y : Addr) (s : PS) (av : Option Addr) (cv : Nat), a = some y ∧ l[k]? = some s ∧ w.cell? (y.add (k * 4)) = some (.string s.kind) ∧ w.cell? ⟨(y.add (k * 4)).block, (y.add (k * 4)).off + 1, none⟩ = some (.int .i64 s.x) ∧ w.cell? ⟨(y.add (k * 4)).block, (y.add (k * 4)).off + 2, none⟩ = some (.int .i64 s.y) ∧ w.cell? ⟨(y.add (k * 4)).block, (y.add (k * 4)).off + 3, none⟩ = some (.slice av s.args.length cv) ∧ IntsR w n0 (.slice av s.args.length cv) s.args := by
  obtain ⟨a', cap', h1, _, _, h4, h5⟩ := h
  obtain ⟨rfl, rfl, rfl⟩ : a = a' ∧ n = l.length ∧ cap = cap' := by simpa using h1
  obtain ⟨y, hy⟩ := h4 (by omega)
  obtain ⟨pv, e0, e1, e2, e3, e4⟩ := (h5 y hy (by omega)).2 k hk (l[k]'hk) (List.getElem?_eq_getElem hk)
  obtain ⟨av, cv, rfl, _⟩ := id e4
  rw [add_posU _ _ (by decide)] at e1 e2 e3
  exact ⟨y, _, av, cv, hy, List.getElem?_eq_getElem hk, e0, e1, e2, e3, e4⟩
theorem FunsR.len {w : World} {n0 : Nat} {a : Option Addr} {n cap : Nat} {l : List PF} (h : FunsR w n0 (.slice a n cap) l) : (l.length : Int) ≤ 9223372036854775807 := by
  obtain ⟨_, _, _, h2, h3, _⟩ := h
  omega
theorem StmtsR.len {w : World} {n0 : Nat} {a : Option Addr} {n cap : Nat} {l : List PS} (h : StmtsR w n0 (.slice a n cap) l) : (l.length : Int) ≤ 9223372036854775807 := by
  obtain ⟨_, _, _, h2, h3, _⟩ := h
  omega

set_option maxRecDepth 100000 in
set_option maxHeartbeats 6400000 in
theorem pfuns_any (a1 a2 a3 : Option Addr) (c1 c2 c3 : Nat) (P : PP) (w : World) (n0 : Nat) (ad : Nat → Addr) (hE : ErrsP w ad) (h : FunsR w n0 (.slice a2 P.funs.length c2) P.funs) :
    Calls Tryz.prog 57 #[pval a1 a2 a3 c1 c2 c3 P] w fun e w' => e = .returned (errv (evOf ad) P.funsErr) ∧ Ext w w' := by
  have HF := hid h
  have HE := hid hE
  have hml := h.len
  clear h hE
  obtain ⟨W, hW⟩ : ∃ W, W = w.alloc (.cells (pcells a1 a2 a3 c1 c2 c3 P) 26) := ⟨_, rfl⟩
  have HW : Hid (Ext w W) := hid (by rw [hW]; exact (Ext.refl _).alloc _)
  have HB : Hid (Blk W w.heap.size (pcells a1 a2 a3 c1 c2 c3 P) 26) := hid (by rw [hW]; exact Blk.new _ _ _)
  unfold pval
  unfold pcells at hW
  have HWe := hid hW
  clear hW
  go_enter Tryz.func57, Tryz.ntmps57
  go_wp2
  rw [← HWe.out]
  go_loopw [12] (fun t12 wr => ∃ k : Nat, t12 = .int .i64 (k : Int) ∧ k ≤ P.funs.length ∧ (∀ j f, j < k → P.funs[j]? = some f → bad9 f = false) ∧ Ext W wr) (fun t12 _ => P.funs.length - (intOf t12).toNat)
  case atStart => exact ⟨0, rfl, Nat.zero_le _, fun j t h => by omega, Ext.refl _⟩
  case round =>
    obtain ⟨k, rfl, hk, hne, hx⟩ := hrel
    have Hne := hid hne
    have Hx := hid hx
    clear hne hx
    by_cases hlt : k < P.funs.length
    · obtain ⟨y, f, av, cv, rfl, hfk, e0, e1, e2, _⟩ := (HF.out.old ((HW.out.trans Hx.out).old n0)).at hlt
      have Hfk := hid hfk
      clear hfk
      have g9 := (HE.out.ext ((HW.out.trans Hx.out).alloc (.cells #[.string f.name, .slice av f.params.length cv, .int .i64 f.ret] 67))).at9
      unfold evOf at g9
      by_cases hb : 3 < f.params.length
      · have Hb := hid (show bad9 f = true from decide_eq_true hb)
        have Hr := hid (show P.funsErr = 9 by unfold PP.funsErr; rw [any_at Hfk.out Hb.out]; rfl)
        go_wp2
        go_ret
        exact ⟨by rw [Hr.out]; rfl, HW.out.trans (Hx.out.alloc _)⟩
      · have Hb := hid (show bad9 f = false from decide_eq_false hb)
        go_wp2
        go_roundw
        case rel => exact ⟨k + 1, by go_num, by omega, all_step Hne.out Hfk.out Hb.out, Hx.out.alloc _⟩
        case measure => simp [intOf]; omega
    · obtain rfl : k = P.funs.length := by omega
      have H9 := hid (show P.funs.any bad9 = false from any_no Hne.out)
      clear Hne
      have d0 := (HB.out.ext Hx.out).av 0 rfl
      have d1 := (HB.out.ext Hx.out).av 1 rfl
      have d2 := (HB.out.ext Hx.out).av 2 rfl
      simp only [pcells, List.getElem_toArray, List.getElem_cons_zero, List.getElem_cons_succ] at d0 d1 d2
      go_wp2
      clear d0 d1 d2
      generalize wr = wA at *
      have HxA := Hx
      clear Hx
      go_loopw [25] (fun t25 wr => ∃ k : Nat, t25 = .int .i64 (k : Int) ∧ k ≤ P.funs.length ∧ (∀ j f, j < k → P.funs[j]? = some f → P.bad2 f = false) ∧ Ext W wr) (fun t25 _ => P.funs.length - (intOf t25).toNat)
      case atStart => exact ⟨0, rfl, Nat.zero_le _, fun j t h => by omega, HxA.out⟩
      case round =>
        obtain ⟨k, rfl, hk, hne, hx⟩ := hrel
        have Hne := hid hne
        have Hx := hid hx
        clear hne hx HxA
        have d0 := (HB.out.ext Hx.out).av 0 rfl
        have d1 := (HB.out.ext Hx.out).av 1 rfl
        have d2 := (HB.out.ext Hx.out).av 2 rfl
        simp only [pcells, List.getElem_toArray, List.getElem_cons_zero, List.getElem_cons_succ] at d0 d1 d2
        by_cases hlt : k < P.funs.length
        · obtain ⟨y, f, av, cv, rfl, hfk, e0, e1, e2, hI⟩ := (HF.out.old ((HW.out.trans Hx.out).old n0)).at hlt
          have Hfk := hid hfk
          obtain ⟨W3, hW3⟩ : ∃ W3, W3 = wr.alloc (.cells #[.string f.name, .slice av f.params.length cv, .int .i64 f.ret] 67) := ⟨_, rfl⟩
          have hx3 : Ext wr W3 := by rw [hW3]; exact (Ext.refl _).alloc _
          have HB3 : Hid (Blk W3 wr.heap.size #[.string f.name, .slice av f.params.length cv, .int .i64 f.ret] 67) := hid (by rw [hW3]; exact Blk.new _ _ _)
          have HV := hid (pvars_any a1 (some y) a3 c1 c2 c3 P _ f.params W3 n0 (hI.old (hx3.old n0)))
          unfold pval at HV
          have Hx3 := hid (Hx.out.trans hx3)
          have HW3 := hid hW3
          have q0 := (HB.out.ext Hx3.out).av 0 rfl
          have q1 := (HB.out.ext Hx3.out).av 1 rfl
          have q2 := (HB.out.ext Hx3.out).av 2 rfl
          simp only [pcells, List.getElem_toArray, List.getElem_cons_zero, List.getElem_cons_succ] at q0 q1 q2
          rw [hW3] at q0 q1 q2
          clear hfk hI hW3 hx3
          go_wp2_with fail
          rw [← HW3.out]
          refine HV.out.mono ?_
          intro e w4 hx4
          obtain ⟨rfl, hx4⟩ := hx4
          have Hx4 := hid (Hx3.out.trans hx4)
          have HB4 := hid (HB3.out.ext hx4)
          clear HV hx4 d0 d1 d2 q0 q1 q2
          have d0 := (HB.out.ext Hx4.out).av 0 rfl
          have d1 := (HB.out.ext Hx4.out).av 1 rfl
          have d2 := (HB.out.ext Hx4.out).av 2 rfl
          have m0 := HB4.out.av 0 rfl
          have m1 := HB4.out.av 1 rfl
          have m2 := HB4.out.av 2 rfl
          simp only [pcells, List.getElem_toArray, List.getElem_cons_zero, List.getElem_cons_succ] at d0 d1 d2 m0 m1 m2
          have g2 := (HE.out.ext (HW.out.trans Hx4.out)).at2
          unfold evOf at g2
          cases hA : P.allV f.params with
          | false =>
            have Hb := hid (show P.bad2 f = true by unfold PP.bad2; rw [hA]; rfl)
            have Hr := hid (show P.funsErr = 2 by unfold PP.funsErr; rw [H9.out, any_at Hfk.out Hb.out]; rfl)
            go_wp2
            go_ret
            exact ⟨by rw [Hr.out]; rfl, HW.out.trans Hx4.out⟩
          | true =>
            have HA := hid hA
            have HV2 := hid (pvars_one a1 (some y) a3 c1 c2 c3 P f.ret w4)
            clear hA g2
            go_wp2_with fail
            refine HV2.out.mono ?_
            intro e w5 hx5
            obtain ⟨rfl, hx5⟩ := hx5
            have Hx5 := hid (Hx4.out.trans hx5)
            have g2 := (HE.out.ext (HW.out.trans Hx5.out)).at2
            unfold evOf at g2
            clear HV2 hx5 d0 d1 d2 m0 m1 m2
            cases hA2 : P.inV f.ret with
            | false =>
              have Hb := hid (show P.bad2 f = true by unfold PP.bad2; rw [hA2]; simp)
              have Hr := hid (show P.funsErr = 2 by unfold PP.funsErr; rw [H9.out, any_at Hfk.out Hb.out]; rfl)
              go_wp2
              go_ret
              exact ⟨by rw [Hr.out]; rfl, HW.out.trans Hx5.out⟩
            | true =>
              have Hb := hid (show P.bad2 f = false by unfold PP.bad2; rw [HA.out, hA2]; rfl)
              clear hA2 g2
              go_wp2
              go_roundw
              case rel => exact ⟨k + 1, by go_num, by omega, all_step Hne.out Hfk.out Hb.out, Hx5.out⟩
              case measure => simp [intOf]; omega
        · obtain rfl : k = P.funs.length := by omega
          have H2 := hid (show P.funs.any P.bad2 = false from any_no Hne.out)
          clear Hne
          go_wp2
          clear d0 d1 d2
          generalize wr = wA at *
          have HxA := Hx
          clear Hx
          go_loopw [47] (fun t47 wr => ∃ k : Nat, t47 = .int .i64 (k : Int) ∧ k ≤ P.funs.length ∧ (∀ j f, j < k → P.funs[j]? = some f → bad7 f = false) ∧ Ext W wr) (fun t47 _ => P.funs.length - (intOf t47).toNat)
          case atStart => exact ⟨0, rfl, Nat.zero_le _, fun j t h => by omega, HxA.out⟩
          case round =>
            obtain ⟨k, rfl, hk, hne, hx⟩ := hrel
            have Hne := hid hne
            have Hx := hid hx
            clear hne hx HxA
            by_cases hlt : k < P.funs.length
            · obtain ⟨y, f, av, cv, rfl, hfk, e0, e1, e2, hI⟩ := (HF.out.old ((HW.out.trans Hx.out).old n0)).at hlt
              have Hfk := hid hfk
              have HT := hid (twice_any _ f.params (wr.alloc (.cells #[.string f.name, .slice av f.params.length cv, .int .i64 f.ret] 67)) n0 (hI.old (((Ext.refl wr).alloc _).old n0)))
              have g7 := (HE.out.ext ((HW.out.trans Hx.out).alloc (.cells #[.string f.name, .slice av f.params.length cv, .int .i64 f.ret] 67))).at7
              unfold evOf at g7
              clear hfk hI
              go_wp2_with fail
              refine HT.out.mono ?_
              intro e w2 hx2
              obtain ⟨rfl, rfl⟩ := hx2
              clear HT
              cases hb : dupI f.params with
              | true =>
                have Hb := hid (show bad7 f = true from hb)
                clear hb
                have Hr := hid (show P.funsErr = 7 by unfold PP.funsErr; rw [H9.out, H2.out, any_at Hfk.out Hb.out]; rfl)
                go_wp2
                go_ret
                exact ⟨by rw [Hr.out]; rfl, HW.out.trans (Hx.out.alloc _)⟩
              | false =>
                have Hb := hid (show bad7 f = false from hb)
                clear hb
                go_wp2
                go_roundw
                case rel => exact ⟨k + 1, by go_num, by omega, all_step Hne.out Hfk.out Hb.out, Hx.out.alloc _⟩
                case measure => simp [intOf]; omega
            · obtain rfl : k = P.funs.length := by omega
              have H7 := hid (show P.funs.any bad7 = false from any_no Hne.out)
              have Hr := hid (show P.funsErr = 0 by unfold PP.funsErr; rw [H9.out, H2.out, H7.out]; rfl)
              go_wp2
              go_ret
              exact ⟨by rw [Hr.out]; rfl, HW.out.trans Hx.out⟩
end Go.Proofs.YtohfdecefikinaaGreatDoor


/- The frame: what the sum tells. -/
namespace Go.Proofs.YtohfdecefikinaaGreatDoor
set_option linter.unusedSimpArgs false
set_option linter.unusedVariables false
open Go Go.RowKit

theorem ofBlk {w : World} {n : Nat} {c : Array Value} {e : TypeId} (h : Blk w n c e) {W : World} (X : Nat → Prop) (hk : Keep X w W) (hx : ¬ X n) : Blk W n c e := h.keep hk hx


end Go.Proofs.YtohfdecefikinaaGreatDoor
