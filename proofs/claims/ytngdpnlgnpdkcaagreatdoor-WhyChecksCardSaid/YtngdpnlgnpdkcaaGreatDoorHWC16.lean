/- WhyChecks: whatever the program and the steps, the law returns true, and its arguments read as they did: as the given card of that statement says it, with no further condition. -/
import Derived.Test.YtngdpnlgnpdkcaaGreatDoorHWC03
import Derived.Test.YtngdpnlgnpdkcaaGreatDoorHWC04
import Derived.Test.YtngdpnlgnpdkcaaGreatDoorHWC05
import Derived.Test.YtngdpnlgnpdkcaaGreatDoorHWC07
import Derived.Test.YtngdpnlgnpdkcaaGreatDoorHWC10
import Derived.Test.YtngdpnlgnpdkcaaGreatDoorHWC11
import Derived.Test.YtngdpnlgnpdkcaaGreatDoorHWC13
import Derived.Test.YtngdpnlgnpdkcaaGreatDoorHWC14
import Derived.Test.YtngdpnlgnpdkcaaGreatDoorHWC15
import Derived.LaidHandle
import Derived.Test.YtngdpnlgnpdkcaaGreatDoorCards
import Derived.Test.YtngdpnlgnpdkcaaGreatDoorTie
import Derived.ProofKit
import Derived.LaidMore
import Derived.OpenShut
import Derived.Below
import Derived.Stop.Joined
import Derived.SevenTiedAt
import Derived.Lib.SmallJoins
import Derived.Lay
import Derived.MakeChecks
import Derived.Lib.LaidIn
import Derived.Test.YtngdpnlgnpdkcaaGreatDoorHWC01
set_option linter.unusedSimpArgs false
set_option linter.unusedVariables false
namespace Go.Proofs.YtngdpnlgnpdkcaaGreatDoor
open Go Go.RowKit
def sumUp (S : List (List Int)) (k : Nat) : Nat := ((List.range k).map fun n : Nat => (S.getD n []).length).sum
theorem sethas_ext (v : Value) (l : List Int) (s : Int) (w : World) (n0 : Nat) (h : IntsR w n0 v l) : Calls Tryz.prog 25 #[v, .int .i64 s] w fun e w' => e = .returned (.bool (decide (s ∈ l))) ∧ Ext w w' :=
 (sethas_any v l s w n0 h).mono fun e w' ⟨h1, h2⟩ => ⟨h1, by rw [h2]; exact Ext.refl _⟩
set_option maxRecDepth 100000 in
set_option maxHeartbeats 3200000 in
theorem assteps_any (v : Value) (L : List ST) (w : World) (n0 : Nat) (h : StepsR w n0 v L) (hl : L.length ≤ 100000) :
  Calls Tryz.prog 27 #[v] w fun e w' => ∃ v', e = .returned v' ∧ w'.ownsRow w.heap.size 47 5 v' L.length (L.flatMap stCells) ∧ Ext w w' := by
 obtain ⟨al, cl, rfl⟩ := h.form2
 have HR0 := hid h
 clear h
 go_enter Tryz.func27, Tryz.ntmps27
 go_wp2
 go_loopw [3, 4] (fun t3 t4 wr => ∃ (i : Nat) (a : Option Addr) (c : Nat), t4 = .int .i64 (i : Int) ∧ t3 = .slice a i c ∧ i ≤ L.length ∧ wr.ownsRow w.heap.size 47 5 (.slice a i c) i ((L.take i).flatMap stCells) ∧ Ext w wr) (fun _ t4 _ => L.length - (intOf t4).toNat)
 case atStart => exact ⟨0, none, 0, rfl, rfl, Nat.zero_le _, World.ownsRow_nil _ _ _ _, Ext.refl _⟩
 case round =>
  obtain ⟨i, a7, c7, rfl, rfl, hi, hR, hx⟩ := hrel
  have HR := hid hR
  have Hx := hid hx
  clear hR hx
  by_cases hlt : i < L.length
  ·obtain ⟨s, hs⟩ : ∃ s, L[i]? = some s := ⟨_, List.getElem?_eq_getElem hlt⟩
   have hrow := HR0.out.ext Hx.out
   obtain ⟨y8, cp8, hge⟩ := hrow.some (by omega)
   simp only [Value.slice.injEq] at hge
   obtain ⟨rfl, -, rfl⟩ := hge
   obtain ⟨q0, q1, q2, q3, q4⟩ := hrow.at5 hs
   obtain ⟨wA, hwA⟩ : ∃ wA, wA = wr.alloc (.cells #[.int .i64 s.node, .int .i64 s.obj, .int .i64 s.stmt, .int .i64 s.frm, .int .i64 s.via] 48) := ⟨_, rfl⟩
   have HxA : Hid (Ext wr wA) := hid (by rw [hwA]; exact (Ext.refl _).alloc _)
   have hbA : Blk wA wr.heap.size #[.int .i64 s.node, .int .i64 s.obj, .int .i64 s.stmt, .int .i64 s.frm, .int .i64 s.via] 48 := by rw [hwA]; exact Blk.new _ _ _
   have m0 := hbA.av 0 rfl
   have m1 := hbA.av 1 rfl
   have m2 := hbA.av 2 rfl
   have m3 := hbA.av 3 rfl
   have m4 := hbA.av 4 rfl
   simp only [qA0, qA1, qA2] at m0 m1 m2 m3 m4
   have hxa := (Ext.refl wA).alloc (.cells #[.int .i64 s.node, .int .i64 s.obj, .int .i64 s.stmt, .int .i64 s.frm, .int .i64 s.via] 47)
   have HXa := hid (Hx.out.trans (HxA.out.trans hxa))
   have HRa := hid (own_ext HR.out (HxA.out.trans hxa))
   have Hown : Hid (∀ b, (Value.slice a7 i c7).ownBlock = some b → w.heap.size ≤ b) := hid fun b hb => (World.ownsRow.lt HR.out b hb).1
   have Hbs : Hid (w.heap.size ≤ (wA.alloc (.cells #[.int .i64 s.node, .int .i64 s.obj, .int .i64 s.stmt, .int .i64 s.frm, .int .i64 s.via] 47)).heap.size) := hid HXa.out.size
   have Htk : Hid (L.take (i + 1) = L.take i ++ [s]) := hid (by rw [List.take_add_one, hs]; rfl)
   have HBn : Hid (Blk (wA.alloc (.cells #[.int .i64 s.node, .int .i64 s.obj, .int .i64 s.stmt, .int .i64 s.frm, .int .i64 s.via] 47)) (wr.heap.size + 1) (stCells s).toArray 47) := hid (by rw [show wr.heap.size + 1 = wA.heap.size by rw [hwA, heap_size_alloc]]; exact Blk.new _ _ _)
   have HwA := hid hwA
   rw [hwA] at m0 m1 m2 m3 m4
   clear hxa hbA hwA hs hrow
   go_wp2_with (at_builtin; rw [← HwA.out]; refine wpList_append_el w.heap.size Hbs.out 29 47 (.agg #[.int .i64 0, .int .i64 0, .int .i64 0, .int .i64 0, .int .i64 0]) 5 40 Tryz.underlying29 why_info rfl (by omega) (by omega) rfl _ _ rfl (.slice a7 i c7) i ((L.take i).flatMap stCells) rfl HRa.out (wr.heap.size + 1) (stCells s) rfl (by simp [stCells, Value.oneCell']) rfl HBn.out (by omega) ?_; intro v' w' h1 h2 h4; obtain ⟨a', c', rfl⟩ := row_form h1; have HR12 := hid h1; have HK12 := hid h2; clear h1 h2 h4)
   go_roundw
   case rel =>
    refine ⟨i + 1, a', c', by go_num, rfl, by omega, ?_, ?_⟩
    ·rw [Htk.out, List.flatMap_append]
     simpa using HR12.out
    ·exact Keep.new HXa.out HK12.out fun b hb => Hown.out b hb
   case measure => simp [intOf]; omega
  ·obtain rfl : i = L.length := by omega
   have hR := HR.out
   rw [List.take_length] at hR
   have HRz := hid hR
   clear hR
   go_wp2
   go_ret
   exact ⟨_, rfl, HRz.out, Hx.out⟩
def CodeIs (ad : Nat → Addr) (w : World) (v : Value) (c : Nat) (p : Int) : Prop := ∀ w1, Ext w w1 → AllErrs w1 ad → Calls Tryz.prog 44 #[v] w1 fun e w' => e = .returned (.tuple #[.int .i64 (c : Int), .int .i64 p]) ∧ Ext w1 w'
theorem CodeIs.ext {ad : Nat → Addr} {w w' : World} {v : Value} {c : Nat} {p : Int} (h : CodeIs ad w v c p) (x : Ext w w') : CodeIs ad w' v c p := fun w1 y hA => h w1 (x.trans y) hA
theorem code_proof {ad : Nat → Addr} {P : PP} {L : List ST} {w : World} {v : Value} {c : Nat} {p : Int} (h : ProofErr ad P L w v) (g : ProofIs P L c p) : CodeIs ad w v c p := fun w1 x hA => by
 rcases h with ⟨h1, rfl⟩ | ⟨h1, h2, rfl⟩ | ⟨h1, i, s, b, h2, h3, h4, rfl, h5⟩
 ·obtain ⟨rfl, rfl⟩ := g.uniq (.inl ⟨h1, rfl, rfl⟩)
  exact code_of w1 ad hA 8 (by decide) (by decide)
 ·obtain ⟨rfl, rfl⟩ := g.uniq (.inr (.inl ⟨h1, h2, rfl, rfl⟩))
  exact (code_nil w1).mono fun e w' ⟨h1, h2⟩ => ⟨h1, by rw [← h2]; exact Ext.refl _⟩
 ·obtain ⟨rfl, rfl⟩ := g.uniq (.inr (.inr ⟨h1, i, s, h2, h3, h4, rfl, rfl⟩))
  have := stepE_le P L i s
  exact code_at w1 ad hA _ h4 (by omega) b _ (h5.ext x)
set_option maxRecDepth 100000 in
set_option maxHeartbeats 6400000 in
theorem whycheckslaw_out (a1 a2 a3 : Option Addr) (c1 c2 c3 : Nat) (P : PP) (lv : Value) (L : List ST) (w : World) (ad : Nat → Addr) (hE : ErrsP w ad) (hA : AllErrs w ad) (hS : ErrS w ad) (hP : ProgR w w.heap.size (.slice a1 P.vars.length c1) (.slice a2 P.funs.length c2) (.slice a3 P.stmts.length c3) P) (hL0 : StepsR w w.heap.size lv L) (h40 : 40 < L.length) (h2001 : L.length ≠ 2001) :
  Calls Tryz.prog 6 #[pval a1 a2 a3 c1 c2 c3 P, lv] w fun e w' => e = .returned (.bool true) ∧ Ext w w' := by
 have hne : ((L.length : Int) != 2001) = true := bne_iff_ne.2 (by omega)
 have HPL := hid hL0
 obtain ⟨al, cl, rfl⟩ := hL0.form2
 have hll := hL0.len
 clear hL0
 have HE := hid hE
 have HS := hid hS
 have HAA := hid hA
 have HP := hid hP
 obtain ⟨W1, hW1⟩ : ∃ W1, W1 = w.alloc (.cells (pcells a1 a2 a3 c1 c2 c3 P) 26) := ⟨_, rfl⟩
 have HX1 : Hid (Ext w W1) := hid (by rw [hW1]; exact (Ext.refl _).alloc _)
 have HB1 : Hid (Blk W1 w.heap.size (pcells a1 a2 a3 c1 c2 c3 P) 26) := hid (by rw [hW1]; exact Blk.new _ _ _)
 have HR := hid (because_any W1 ad (hE.ext HX1.out) (hA.ext HX1.out))
 have HW1 : Hid (W1 = w.alloc (.cells #[.slice a1 P.vars.length c1, .slice a2 P.funs.length c2, .slice a3 P.stmts.length c3] 26)) := hid (by rw [hW1]; rfl)
 unfold pval
 clear hE hS hA hP hW1
 go_enter Tryz.func6, Tryz.ntmps6
 go_wp2_with fail
 rw [← HW1.out]
 refine HR.out.mono ?_
 intro e w1 hx
 obtain ⟨rfl, hx1⟩ := hx
 have HL := hid (large_q a1 a2 a3 c1 c2 c3 20 (by omega) P w1 w.heap.size (HP.out.ext (HX1.out.trans hx1)))
 rw [show ((20 : Nat) : Int) = (20 : Int) from rfl] at HL
 unfold pval at HL
 have HX1' := hid (HX1.out.trans hx1)
 have HBp1 := hid (HB1.out.ext hx1)
 have p0 := HBp1.out.av 0 rfl
 have p1 := HBp1.out.av 1 rfl
 have p2 := HBp1.out.av 2 rfl
 simp only [pcells, qA0, qA1, qA2] at p0 p1 p2
 clear HR hx1
 go_wp2_with fail
 refine HL.out.mono ?_
 intro e w2 hx
 obtain ⟨r, rfl, hr, hsm, hx2⟩ := hx
 have HX2 := hid (HX1'.out.trans hx2)
 have HBp := hid (HBp1.out.ext hx2)
 clear HL hx2 p0 p1 p2
 rcases (by omega : r = 1 ∨ r = 0) with rfl | rfl
 ·clear hsm hr
  go_wp2
  go_ret
  exact ⟨rfl, HX2.out⟩
 have HSm := hid (hsm rfl).1
 have HQl := hid (hsm rfl).2.1
 have HVl := hid (hsm rfl).2.2
 clear hsm hr
 go_wp2
 go_ret
 exact ⟨rfl, HX2.out⟩
theorem fault_no {P : PP} {c : Nat} {p : Int} (h : FaultIs P c p) (hw : ¬ P.Well) : c ≠ 0 := by
 rcases h with ⟨h1, h2, _⟩ | ⟨h1, h2, _⟩ | ⟨h1, i, s, h2, h3, _⟩
 ·rw [h2]; exact h1
 ·exact absurd ⟨h1, h2⟩ hw
 ·rw [h3]; exact h2.2.1
set_option maxRecDepth 100000 in
set_option maxHeartbeats 12800000 in
theorem whycheckslaw_no1 (a1 a2 a3 : Option Addr) (c1 c2 c3 : Nat) (P : PP) (lv : Value) (L : List ST) (w : World) (ad : Nat → Addr) (hE : ErrsP w ad) (hA : AllErrs w ad) (hS : ErrS w ad) (hP : ProgR w w.heap.size (.slice a1 P.vars.length c1) (.slice a2 P.funs.length c2) (.slice a3 P.stmts.length c3) P) (hL0 : StepsR w w.heap.size lv L) (hw : ¬ P.Well) (hl0 : L.length ≤ 100000) (h40 : L.length ≤ 40) :
  Calls Tryz.prog 6 #[pval a1 a2 a3 c1 c2 c3 P, lv] w fun e w' => e = .returned (.bool true) ∧ Ext w w' := by
 have Hw := hid hw
 clear hw
 have HPL := hid hL0
 obtain ⟨al, cl, rfl⟩ := hL0.form2
 have hll := hL0.len
 clear hL0
 have HE := hid hE
 have HS := hid hS
 have HAA := hid hA
 have HP := hid hP
 obtain ⟨W1, hW1⟩ : ∃ W1, W1 = w.alloc (.cells (pcells a1 a2 a3 c1 c2 c3 P) 26) := ⟨_, rfl⟩
 have HX1 : Hid (Ext w W1) := hid (by rw [hW1]; exact (Ext.refl _).alloc _)
 have HB1 : Hid (Blk W1 w.heap.size (pcells a1 a2 a3 c1 c2 c3 P) 26) := hid (by rw [hW1]; exact Blk.new _ _ _)
 have HR := hid (because_any W1 ad (hE.ext HX1.out) (hA.ext HX1.out))
 have HW1 : Hid (W1 = w.alloc (.cells #[.slice a1 P.vars.length c1, .slice a2 P.funs.length c2, .slice a3 P.stmts.length c3] 26)) := hid (by rw [hW1]; rfl)
 unfold pval
 clear hE hS hA hP hW1
 go_enter Tryz.func6, Tryz.ntmps6
 go_wp2_with fail
 rw [← HW1.out]
 refine HR.out.mono ?_
 intro e w1 hx
 obtain ⟨rfl, hx1⟩ := hx
 have HL := hid (large_q a1 a2 a3 c1 c2 c3 20 (by omega) P w1 w.heap.size (HP.out.ext (HX1.out.trans hx1)))
 rw [show ((20 : Nat) : Int) = (20 : Int) from rfl] at HL
 unfold pval at HL
 have HX1' := hid (HX1.out.trans hx1)
 have HBp1 := hid (HB1.out.ext hx1)
 have p0 := HBp1.out.av 0 rfl
 have p1 := HBp1.out.av 1 rfl
 have p2 := HBp1.out.av 2 rfl
 simp only [pcells, qA0, qA1, qA2] at p0 p1 p2
 clear HR hx1
 go_wp2_with fail
 refine HL.out.mono ?_
 intro e w2 hx
 obtain ⟨r, rfl, hr, hsm, hx2⟩ := hx
 have HX2 := hid (HX1'.out.trans hx2)
 have HBp := hid (HBp1.out.ext hx2)
 clear HL hx2 p0 p1 p2
 rcases (by omega : r = 1 ∨ r = 0) with rfl | rfl
 ·clear hsm hr
  go_wp2
  go_ret
  exact ⟨rfl, HX2.out⟩
 have HSm := hid (hsm rfl).1
 have HQl := hid (hsm rfl).2.1
 have HVl := hid (hsm rfl).2.2
 clear hsm hr
 have hz1 : ∀ s ∈ P.vars, s.size ≤ 1000000 := fun s hs => by have := HSm.out.vs s hs; omega
 have hz2 : ∀ s ∈ P.names, s.size ≤ 1000000 := fun s hs => by
  obtain ⟨f, hf, rfl⟩ := List.mem_map.1 hs
  have := (HSm.out.fs f hf).1
  omega
 have Hz1 := hid hz1
 have Hz2 := hid hz2
 have HPS := hid (show PS0 w2 w2.heap.size ad a1 a2 a3 c1 c2 c3 P from ⟨HE.out.ext HX2.out, (HP.out.ext HX2.out).lift HX2.out.size, Hz1.out, Hz2.out⟩)
 clear hz1 hz2
 have HQ := hid (ownprogram_any a1 a2 a3 c1 c2 c3 P w2 HPS.out.prog HSm.out)
 have p0 := HBp.out.av 0 rfl
 have p1 := HBp.out.av 1 rfl
 have p2 := HBp.out.av 2 rfl
 simp only [pcells, qA0, qA1, qA2] at p0 p1 p2
 unfold pval at HQ
 go_wp2_with fail
 refine HQ.out.mono ?_
 intro e w3 hx
 obtain ⟨hx3, b1, b2, b3, d1, d2, d3, rfl, hq⟩ := hx
 have HX3 := hid (HX2.out.trans hx3)
 have Hx3 := hid hx3
 have HPQ := hid (show PS0 w3 w3.heap.size ad b1 b2 b3 d1 d2 d3 P from ⟨HE.out.ext HX3.out, hq, Hz1.out, Hz2.out⟩)
 have HS3 := hid (HS.out.ext HX3.out)
 clear HQ hx3 hq p0 p1 p2
 obtain ⟨W9, hW9⟩ : ∃ W9, W9 = w3.alloc (.cells (pcells b1 b2 b3 d1 d2 d3 P) 26) := ⟨_, rfl⟩
 have hx9 : Ext w3 W9 := by rw [hW9]; exact (Ext.refl _).alloc _
 have HX9 : Hid (Ext w W9) := hid (HX3.out.trans hx9)
 have Hx29 : Hid (Ext w2 W9) := hid (Hx3.out.trans hx9)
 have HB9 : Hid (Blk W9 w3.heap.size (pcells b1 b2 b3 d1 d2 d3 P) 26) := hid (by rw [hW9]; exact Blk.new _ _ _)
 have HW9 : Hid (W9 = w3.alloc (.cells #[.slice b1 P.vars.length d1, .slice b2 P.funs.length d2, .slice b3 P.stmts.length d3] 26)) := hid (by rw [hW9]; rfl)
 have HQ9 := hid (HPQ.out.on (Nat.le_refl _) hx9)
 have HS9 := hid (HS3.out.ext hx9)
 have HA9 := hid (HAA.out.ext HX9.out)
 clear hW9 hx9
 have HF := hid (rfprog_all a1 a2 a3 c1 c2 c3 P W9 (HPS.out.on (Nat.le_refl _) Hx29.out).prog Hz1.out Hz2.out)
 have p0 := (HBp.out.ext Hx29.out).av 0 rfl
 have p1 := (HBp.out.ext Hx29.out).av 1 rfl
 have p2 := (HBp.out.ext Hx29.out).av 2 rfl
 simp only [pcells, qA0, qA1, qA2] at p0 p1 p2
 rw [HW9.out] at p0 p1 p2
 unfold pval at HF
 go_wp2_with fail
 rw [← HW9.out]
 refine HF.out.mono ?_
 intro e w5 hx
 obtain ⟨hx5, c, p, rfl, hfi⟩ := hx
 have Hfi := hid hfi
 obtain ⟨W6, hW6⟩ : ∃ W6, W6 = w5.alloc (.cells #[.int .i64 (c : Int), .int .i64 p] 36) := ⟨_, rfl⟩
 have hx6 : Ext w5 W6 := by rw [hW6]; exact (Ext.refl _).alloc _
 have HW6 := hid hW6
 have Hx96 : Hid (Ext W9 W6) := hid (hx5.trans hx6)
 have Hb5 : Hid (W9.heap.size ≤ w5.heap.size) := hid hx5.size
 have HBf : Hid (Blk W6 w5.heap.size #[.int .i64 (c : Int), .int .i64 p] 36) := hid (by rw [hW6]; exact Blk.new _ _ _)
 clear HF hfi hx5 hx6 hW6 p0 p1 p2
 have Hc0 : Hid (c ≠ 0) := hid (fault_no Hfi.out Hw.out)
 have HCk : Hid (∀ wa a8 c8, Ext W6 wa → StepsR wa wa.heap.size (.slice a8 L.length c8) L → Calls Tryz.prog 26 #[pval b1 b2 b3 d1 d2 d3 P, .slice a8 L.length c8] wa fun e w' => ∃ v, e = .returned v ∧ CodeIs ad w' v c p ∧ Ext wa w') := hid fun wa a8 c8 hx _ =>
  (whycheck_no b1 b2 b3 d1 d2 d3 P (.slice a8 L.length c8) wa wa.heap.size ad (HQ9.out.on (Nat.le_refl _) (Hx96.out.trans hx)).errs (HQ9.out.on (Nat.le_refl _) (Hx96.out.trans hx)).prog Hz1.out Hz2.out Hw.out).mono fun e w' ⟨t, x, h1, h2, h3⟩ => by
   obtain ⟨c', p', hf', _, hcode⟩ := code_chk h2 Hw.out
   obtain ⟨rfl, rfl⟩ := Hfi.out.uniq hf'
   exact ⟨_, h1, hcode, h3⟩
 have hcp : 0 < (c : Int) := by have := Hc0.out; omega
 have hcz : ((c : Int) == 0) = false := beq_eq_false_iff_ne.2 (by omega)
 have f0 := HBf.out.kc (X := fun _ => False) (fun e => e) 0 rfl
 have f1 := HBf.out.kc (X := fun _ => False) (fun e => e) 1 rfl
 have g0 := (HB9.out.ext Hx96.out).kc (X := fun _ => False) (fun e => e) 0 rfl
 have g1 := (HB9.out.ext Hx96.out).kc (X := fun _ => False) (fun e => e) 1 rfl
 have g2 := (HB9.out.ext Hx96.out).kc (X := fun _ => False) (fun e => e) 2 rfl
 have f0' := HBf.out.av 0 rfl
 simp only [pcells, qA0, qA1, qA2] at f0 f1 f0' g0 g1 g2
 rw [HW6.out] at f0'
 go_wp2
 rw [← HW6.out]
 clear f0'
 refine wp_flow (fun _ => False) (by kernel_rfl) (by kernel_rfl) ?_
 apply Flow.d 0 _ rfl (by simp) (by kernel_rfl)
 ·intro w1 hk; unfold does; go_simp; (try go_ints); exact DetR.mk
 simp only [qA0, qA1, qA2, Act.put, qS0, qS1, qS2]
 apply Flow.d 1 _ rfl (by simp) (by kernel_rfl)
 ·intro w1 hk; unfold does; go_simp; (try go_ints); exact DetR.mk
 simp only [qA0, qA1, qA2, Act.put, qS0, qS1, qS2]
 apply Flow.d 4 _ rfl (by simp) (by kernel_rfl)
 ·intro w1 hk; unfold does; go_simp; (try go_ints); exact DetR.mk
 simp only [qA0, qA1, qA2, Act.put, qS0, qS1, qS2]
 refine Flow.one 2 _ rfl (by kernel_rfl) (fun v w' => (∃ a c, v = .slice a L.length c) ∧ w'.ownsRow 0 47 5 v L.length (L.flatMap stCells) ∧ Ext W6 w') (fun _ _ _ ⟨h1, h2, h3⟩ y => ⟨h1, own_ext h2 y, h3.trans y⟩) (fun wa hC hk2 => ?_) ?_
 ·unfold does
  go_simp
  refine CallR.act ((assteps_any (.slice al L.length cl) L wa w.heap.size (HPL.out.ext (HX9.out.trans (Hx96.out.trans hC))) hl0).mono ?_)
  rintro e wb ⟨v, rfl, hr, hx⟩
  exact ⟨_, rfl, hk2.trans (hx.keep _), row_form hr, own_low hr (Nat.zero_le _), hC.trans hx⟩
 rintro _ ⟨_, ⟨a8, c8, rfl⟩, _, _⟩
 simp only [qA0, qA1, qA2, Act.put, qS0, qS1, qS2]
 refine Flow.one 3 _ rfl (by kernel_rfl) (fun v w' => CodeIs ad w' v c p ∧ Ext W6 w') (fun _ _ _ ⟨h1, h2⟩ y => ⟨h1.ext y, h2.trans y⟩) (fun wa hC hk2 => ?_) ?_
 ·obtain ⟨_, hr, hx⟩ := hC
  have HK := (HCk.out wa a8 c8 hx (StepsR.own hr (Nat.le_refl _)))
  unfold pval at HK
  unfold does
  go_simp
  refine CallR.act (HK.mono ?_)
  rintro e wb ⟨v, rfl, hc, hx2⟩
  exact ⟨_, rfl, hk2.trans (hx2.keep _), hc, hx.trans hx2⟩
 rintro vE ⟨_, _, _⟩
 simp only [qA0, qA1, qA2, Act.put, qS0, qS1, qS2]
 refine Flow.one 5 _ rfl (by kernel_rfl) (fun v w' => v = .bool true ∧ Ext W6 w') (fun _ _ _ ⟨h1, h2⟩ y => ⟨h1, h2.trans y⟩) (fun wa hC hk2 => ?_) ?_
 ·obtain ⟨hc, hx⟩ := hC
  have HK := faulted2_at (w := wa) (v := vE) (c := c) (p := p) (HA9.out.ext (Hx96.out.trans hx)) fun w1 x hA => hc w1 x hA
  unfold does
  go_simp
  refine CallR.act (HK.mono ?_)
  rintro e wb ⟨rfl, hx2⟩
  exact ⟨_, rfl, hk2.trans (hx2.keep _), rfl, hx.trans hx2⟩
 rintro _ ⟨_, rfl, _⟩
 simp only [qA0, qA1, qA2, Act.put, qS0, qS1, qS2]
 apply Flow.d 6 _ rfl (by simp) (by kernel_rfl)
 ·intro w1 hk; unfold does; go_simp; (try go_ints); exact DetR.mk
 simp only [qA0, qA1, qA2, Act.put, qS0, qS1, qS2]
 refine Flow.fin (by kernel_rfl) fun w12 hC12 hk12 => ?_
 have Hx12 : Hid (Ext W6 w12) := hid hC12.2
 clear HCk hC12 hk12
 have f0' := (HBf.out.ext Hx12.out).av 0 rfl
 simp only [qA0, qA1, qA2] at f0'
 clear f0 f1 g0 g1 g2
 go_wp2
 go_ret
 exact ⟨rfl, HX9.out.trans (Hx96.out.trans Hx12.out)⟩
set_option maxRecDepth 100000 in
set_option maxHeartbeats 12800000 in
theorem whycheckslaw_no2 (a1 a2 a3 : Option Addr) (c1 c2 c3 : Nat) (P : PP) (lv : Value) (L : List ST) (w : World) (ad : Nat → Addr) (hE : ErrsP w ad) (hA : AllErrs w ad) (hS : ErrS w ad) (hP : ProgR w w.heap.size (.slice a1 P.vars.length c1) (.slice a2 P.funs.length c2) (.slice a3 P.stmts.length c3) P) (hL0 : StepsR w w.heap.size lv L) (hw : ¬ P.Well) (hl0 : L.length ≤ 100000) (h40 : 40 < L.length) (h2001 : ((L.length : Int) != 2001) = false) :
  Calls Tryz.prog 6 #[pval a1 a2 a3 c1 c2 c3 P, lv] w fun e w' => e = .returned (.bool true) ∧ Ext w w' := by
 have Hw := hid hw
 clear hw
 have HPL := hid hL0
 obtain ⟨al, cl, rfl⟩ := hL0.form2
 have hll := hL0.len
 clear hL0
 have HE := hid hE
 have HS := hid hS
 have HAA := hid hA
 have HP := hid hP
 obtain ⟨W1, hW1⟩ : ∃ W1, W1 = w.alloc (.cells (pcells a1 a2 a3 c1 c2 c3 P) 26) := ⟨_, rfl⟩
 have HX1 : Hid (Ext w W1) := hid (by rw [hW1]; exact (Ext.refl _).alloc _)
 have HB1 : Hid (Blk W1 w.heap.size (pcells a1 a2 a3 c1 c2 c3 P) 26) := hid (by rw [hW1]; exact Blk.new _ _ _)
 have HR := hid (because_any W1 ad (hE.ext HX1.out) (hA.ext HX1.out))
 have HW1 : Hid (W1 = w.alloc (.cells #[.slice a1 P.vars.length c1, .slice a2 P.funs.length c2, .slice a3 P.stmts.length c3] 26)) := hid (by rw [hW1]; rfl)
 unfold pval
 clear hE hS hA hP hW1
 go_enter Tryz.func6, Tryz.ntmps6
 go_wp2_with fail
 rw [← HW1.out]
 refine HR.out.mono ?_
 intro e w1 hx
 obtain ⟨rfl, hx1⟩ := hx
 have HL := hid (large_q a1 a2 a3 c1 c2 c3 20 (by omega) P w1 w.heap.size (HP.out.ext (HX1.out.trans hx1)))
 rw [show ((20 : Nat) : Int) = (20 : Int) from rfl] at HL
 unfold pval at HL
 have HX1' := hid (HX1.out.trans hx1)
 have HBp1 := hid (HB1.out.ext hx1)
 have p0 := HBp1.out.av 0 rfl
 have p1 := HBp1.out.av 1 rfl
 have p2 := HBp1.out.av 2 rfl
 simp only [pcells, qA0, qA1, qA2] at p0 p1 p2
 clear HR hx1
 go_wp2_with fail
 refine HL.out.mono ?_
 intro e w2 hx
 obtain ⟨r, rfl, hr, hsm, hx2⟩ := hx
 have HX2 := hid (HX1'.out.trans hx2)
 have HBp := hid (HBp1.out.ext hx2)
 clear HL hx2 p0 p1 p2
 rcases (by omega : r = 1 ∨ r = 0) with rfl | rfl
 ·clear hsm hr
  go_wp2
  go_ret
  exact ⟨rfl, HX2.out⟩
 have HSm := hid (hsm rfl).1
 have HQl := hid (hsm rfl).2.1
 have HVl := hid (hsm rfl).2.2
 clear hsm hr
 have hz1 : ∀ s ∈ P.vars, s.size ≤ 1000000 := fun s hs => by have := HSm.out.vs s hs; omega
 have hz2 : ∀ s ∈ P.names, s.size ≤ 1000000 := fun s hs => by
  obtain ⟨f, hf, rfl⟩ := List.mem_map.1 hs
  have := (HSm.out.fs f hf).1
  omega
 have Hz1 := hid hz1
 have Hz2 := hid hz2
 have HPS := hid (show PS0 w2 w2.heap.size ad a1 a2 a3 c1 c2 c3 P from ⟨HE.out.ext HX2.out, (HP.out.ext HX2.out).lift HX2.out.size, Hz1.out, Hz2.out⟩)
 clear hz1 hz2
 have HQ := hid (ownprogram_any a1 a2 a3 c1 c2 c3 P w2 HPS.out.prog HSm.out)
 have p0 := HBp.out.av 0 rfl
 have p1 := HBp.out.av 1 rfl
 have p2 := HBp.out.av 2 rfl
 simp only [pcells, qA0, qA1, qA2] at p0 p1 p2
 unfold pval at HQ
 go_wp2_with fail
 refine HQ.out.mono ?_
 intro e w3 hx
 obtain ⟨hx3, b1, b2, b3, d1, d2, d3, rfl, hq⟩ := hx
 have HX3 := hid (HX2.out.trans hx3)
 have Hx3 := hid hx3
 have HPQ := hid (show PS0 w3 w3.heap.size ad b1 b2 b3 d1 d2 d3 P from ⟨HE.out.ext HX3.out, hq, Hz1.out, Hz2.out⟩)
 have HS3 := hid (HS.out.ext HX3.out)
 clear HQ hx3 hq p0 p1 p2
 obtain ⟨W9, hW9⟩ : ∃ W9, W9 = w3.alloc (.cells (pcells b1 b2 b3 d1 d2 d3 P) 26) := ⟨_, rfl⟩
 have hx9 : Ext w3 W9 := by rw [hW9]; exact (Ext.refl _).alloc _
 have HX9 : Hid (Ext w W9) := hid (HX3.out.trans hx9)
 have Hx29 : Hid (Ext w2 W9) := hid (Hx3.out.trans hx9)
 have HB9 : Hid (Blk W9 w3.heap.size (pcells b1 b2 b3 d1 d2 d3 P) 26) := hid (by rw [hW9]; exact Blk.new _ _ _)
 have HW9 : Hid (W9 = w3.alloc (.cells #[.slice b1 P.vars.length d1, .slice b2 P.funs.length d2, .slice b3 P.stmts.length d3] 26)) := hid (by rw [hW9]; rfl)
 have HQ9 := hid (HPQ.out.on (Nat.le_refl _) hx9)
 have HS9 := hid (HS3.out.ext hx9)
 have HA9 := hid (HAA.out.ext HX9.out)
 clear hW9 hx9
 have HF := hid (rfprog_all a1 a2 a3 c1 c2 c3 P W9 (HPS.out.on (Nat.le_refl _) Hx29.out).prog Hz1.out Hz2.out)
 have p0 := (HBp.out.ext Hx29.out).av 0 rfl
 have p1 := (HBp.out.ext Hx29.out).av 1 rfl
 have p2 := (HBp.out.ext Hx29.out).av 2 rfl
 simp only [pcells, qA0, qA1, qA2] at p0 p1 p2
 rw [HW9.out] at p0 p1 p2
 unfold pval at HF
 go_wp2_with fail
 rw [← HW9.out]
 refine HF.out.mono ?_
 intro e w5 hx
 obtain ⟨hx5, c, p, rfl, hfi⟩ := hx
 have Hfi := hid hfi
 obtain ⟨W6, hW6⟩ : ∃ W6, W6 = w5.alloc (.cells #[.int .i64 (c : Int), .int .i64 p] 36) := ⟨_, rfl⟩
 have hx6 : Ext w5 W6 := by rw [hW6]; exact (Ext.refl _).alloc _
 have HW6 := hid hW6
 have Hx96 : Hid (Ext W9 W6) := hid (hx5.trans hx6)
 have Hb5 : Hid (W9.heap.size ≤ w5.heap.size) := hid hx5.size
 have HBf : Hid (Blk W6 w5.heap.size #[.int .i64 (c : Int), .int .i64 p] 36) := hid (by rw [hW6]; exact Blk.new _ _ _)
 clear HF hfi hx5 hx6 hW6 p0 p1 p2
 have Hc0 : Hid (c ≠ 0) := hid (fault_no Hfi.out Hw.out)
 have HCk : Hid (∀ wa a8 c8, Ext W6 wa → StepsR wa wa.heap.size (.slice a8 L.length c8) L → Calls Tryz.prog 26 #[pval b1 b2 b3 d1 d2 d3 P, .slice a8 L.length c8] wa fun e w' => ∃ v, e = .returned v ∧ CodeIs ad w' v c p ∧ Ext wa w') := hid fun wa a8 c8 hx _ =>
  (whycheck_no b1 b2 b3 d1 d2 d3 P (.slice a8 L.length c8) wa wa.heap.size ad (HQ9.out.on (Nat.le_refl _) (Hx96.out.trans hx)).errs (HQ9.out.on (Nat.le_refl _) (Hx96.out.trans hx)).prog Hz1.out Hz2.out Hw.out).mono fun e w' ⟨t, x, h1, h2, h3⟩ => by
   obtain ⟨c', p', hf', _, hcode⟩ := code_chk h2 Hw.out
   obtain ⟨rfl, rfl⟩ := Hfi.out.uniq hf'
   exact ⟨_, h1, hcode, h3⟩
 have hcp : 0 < (c : Int) := by have := Hc0.out; omega
 have hcz : ((c : Int) == 0) = false := beq_eq_false_iff_ne.2 (by omega)
 have f0 := HBf.out.kc (X := fun _ => False) (fun e => e) 0 rfl
 have f1 := HBf.out.kc (X := fun _ => False) (fun e => e) 1 rfl
 have g0 := (HB9.out.ext Hx96.out).kc (X := fun _ => False) (fun e => e) 0 rfl
 have g1 := (HB9.out.ext Hx96.out).kc (X := fun _ => False) (fun e => e) 1 rfl
 have g2 := (HB9.out.ext Hx96.out).kc (X := fun _ => False) (fun e => e) 2 rfl
 have f0' := HBf.out.av 0 rfl
 simp only [pcells, qA0, qA1, qA2] at f0 f1 f0' g0 g1 g2
 rw [HW6.out] at f0'
 go_wp2
 rw [← HW6.out]
 clear f0'
 refine wp_flow (fun _ => False) (by kernel_rfl) (by kernel_rfl) ?_
 apply Flow.d 0 _ rfl (by simp) (by kernel_rfl)
 ·intro w1 hk; unfold does; go_simp; (try go_ints); exact DetR.mk
 simp only [qA0, qA1, qA2, Act.put, qS0, qS1, qS2]
 apply Flow.d 1 _ rfl (by simp) (by kernel_rfl)
 ·intro w1 hk; unfold does; go_simp; (try go_ints); exact DetR.mk
 simp only [qA0, qA1, qA2, Act.put, qS0, qS1, qS2]
 apply Flow.d 4 _ rfl (by simp) (by kernel_rfl)
 ·intro w1 hk; unfold does; go_simp; (try go_ints); exact DetR.mk
 simp only [qA0, qA1, qA2, Act.put, qS0, qS1, qS2]
 refine Flow.one 2 _ rfl (by kernel_rfl) (fun v w' => (∃ a c, v = .slice a L.length c) ∧ w'.ownsRow 0 47 5 v L.length (L.flatMap stCells) ∧ Ext W6 w') (fun _ _ _ ⟨h1, h2, h3⟩ y => ⟨h1, own_ext h2 y, h3.trans y⟩) (fun wa hC hk2 => ?_) ?_
 ·unfold does
  go_simp
  refine CallR.act ((assteps_any (.slice al L.length cl) L wa w.heap.size (HPL.out.ext (HX9.out.trans (Hx96.out.trans hC))) hl0).mono ?_)
  rintro e wb ⟨v, rfl, hr, hx⟩
  exact ⟨_, rfl, hk2.trans (hx.keep _), row_form hr, own_low hr (Nat.zero_le _), hC.trans hx⟩
 rintro _ ⟨_, ⟨a8, c8, rfl⟩, _, _⟩
 simp only [qA0, qA1, qA2, Act.put, qS0, qS1, qS2]
 refine Flow.one 3 _ rfl (by kernel_rfl) (fun v w' => CodeIs ad w' v c p ∧ Ext W6 w') (fun _ _ _ ⟨h1, h2⟩ y => ⟨h1.ext y, h2.trans y⟩) (fun wa hC hk2 => ?_) ?_
 ·obtain ⟨_, hr, hx⟩ := hC
  have HK := (HCk.out wa a8 c8 hx (StepsR.own hr (Nat.le_refl _)))
  unfold pval at HK
  unfold does
  go_simp
  refine CallR.act (HK.mono ?_)
  rintro e wb ⟨v, rfl, hc, hx2⟩
  exact ⟨_, rfl, hk2.trans (hx2.keep _), hc, hx.trans hx2⟩
 rintro vE ⟨_, _, _⟩
 simp only [qA0, qA1, qA2, Act.put, qS0, qS1, qS2]
 refine Flow.one 5 _ rfl (by kernel_rfl) (fun v w' => v = .bool true ∧ Ext W6 w') (fun _ _ _ ⟨h1, h2⟩ y => ⟨h1, h2.trans y⟩) (fun wa hC hk2 => ?_) ?_
 ·obtain ⟨hc, hx⟩ := hC
  have HK := faulted2_at (w := wa) (v := vE) (c := c) (p := p) (HA9.out.ext (Hx96.out.trans hx)) fun w1 x hA => hc w1 x hA
  unfold does
  go_simp
  refine CallR.act (HK.mono ?_)
  rintro e wb ⟨rfl, hx2⟩
  exact ⟨_, rfl, hk2.trans (hx2.keep _), rfl, hx.trans hx2⟩
 rintro _ ⟨_, rfl, _⟩
 simp only [qA0, qA1, qA2, Act.put, qS0, qS1, qS2]
 apply Flow.d 6 _ rfl (by simp) (by kernel_rfl)
 ·intro w1 hk; unfold does; go_simp; (try go_ints); exact DetR.mk
 simp only [qA0, qA1, qA2, Act.put, qS0, qS1, qS2]
 refine Flow.fin (by kernel_rfl) fun w12 hC12 hk12 => ?_
 have Hx12 : Hid (Ext W6 w12) := hid hC12.2
 clear HCk hC12 hk12
 have f0' := (HBf.out.ext Hx12.out).av 0 rfl
 simp only [qA0, qA1, qA2] at f0'
 clear f0 f1 g0 g1 g2
 go_wp2
 go_ret
 exact ⟨rfl, HX9.out.trans (Hx96.out.trans Hx12.out)⟩
set_option maxRecDepth 100000 in
set_option maxHeartbeats 12800000 in
theorem whycheckslaw_yes1 (a1 a2 a3 : Option Addr) (c1 c2 c3 : Nat) (P : PP) (lv : Value) (L : List ST) (w : World) (ad : Nat → Addr) (hE : ErrsP w ad) (hA : AllErrs w ad) (hS : ErrS w ad) (hP : ProgR w w.heap.size (.slice a1 P.vars.length c1) (.slice a2 P.funs.length c2) (.slice a3 P.stmts.length c3) P) (hL0 : StepsR w w.heap.size lv L) (hw : P.Well) (hl0 : L.length ≤ 100000) (h40 : L.length ≤ 40) :
  Calls Tryz.prog 6 #[pval a1 a2 a3 c1 c2 c3 P, lv] w fun e w' => e = .returned (.bool true) ∧ Ext w w' := by
 have Hw := hid hw
 clear hw
 have HPL := hid hL0
 obtain ⟨al, cl, rfl⟩ := hL0.form2
 have hll := hL0.len
 clear hL0
 have HE := hid hE
 have HS := hid hS
 have HAA := hid hA
 have HP := hid hP
 obtain ⟨W1, hW1⟩ : ∃ W1, W1 = w.alloc (.cells (pcells a1 a2 a3 c1 c2 c3 P) 26) := ⟨_, rfl⟩
 have HX1 : Hid (Ext w W1) := hid (by rw [hW1]; exact (Ext.refl _).alloc _)
 have HB1 : Hid (Blk W1 w.heap.size (pcells a1 a2 a3 c1 c2 c3 P) 26) := hid (by rw [hW1]; exact Blk.new _ _ _)
 have HR := hid (because_any W1 ad (hE.ext HX1.out) (hA.ext HX1.out))
 have HW1 : Hid (W1 = w.alloc (.cells #[.slice a1 P.vars.length c1, .slice a2 P.funs.length c2, .slice a3 P.stmts.length c3] 26)) := hid (by rw [hW1]; rfl)
 unfold pval
 clear hE hS hA hP hW1
 go_enter Tryz.func6, Tryz.ntmps6
 go_wp2_with fail
 rw [← HW1.out]
 refine HR.out.mono ?_
 intro e w1 hx
 obtain ⟨rfl, hx1⟩ := hx
 have HL := hid (large_q a1 a2 a3 c1 c2 c3 20 (by omega) P w1 w.heap.size (HP.out.ext (HX1.out.trans hx1)))
 rw [show ((20 : Nat) : Int) = (20 : Int) from rfl] at HL
 unfold pval at HL
 have HX1' := hid (HX1.out.trans hx1)
 have HBp1 := hid (HB1.out.ext hx1)
 have p0 := HBp1.out.av 0 rfl
 have p1 := HBp1.out.av 1 rfl
 have p2 := HBp1.out.av 2 rfl
 simp only [pcells, qA0, qA1, qA2] at p0 p1 p2
 clear HR hx1
 go_wp2_with fail
 refine HL.out.mono ?_
 intro e w2 hx
 obtain ⟨r, rfl, hr, hsm, hx2⟩ := hx
 have HX2 := hid (HX1'.out.trans hx2)
 have HBp := hid (HBp1.out.ext hx2)
 clear HL hx2 p0 p1 p2
 rcases (by omega : r = 1 ∨ r = 0) with rfl | rfl
 ·clear hsm hr
  go_wp2
  go_ret
  exact ⟨rfl, HX2.out⟩
 have HSm := hid (hsm rfl).1
 have HQl := hid (hsm rfl).2.1
 have HVl := hid (hsm rfl).2.2
 clear hsm hr
 have hz1 : ∀ s ∈ P.vars, s.size ≤ 1000000 := fun s hs => by have := HSm.out.vs s hs; omega
 have hz2 : ∀ s ∈ P.names, s.size ≤ 1000000 := fun s hs => by
  obtain ⟨f, hf, rfl⟩ := List.mem_map.1 hs
  have := (HSm.out.fs f hf).1
  omega
 have Hz1 := hid hz1
 have Hz2 := hid hz2
 have HPS := hid (show PS0 w2 w2.heap.size ad a1 a2 a3 c1 c2 c3 P from ⟨HE.out.ext HX2.out, (HP.out.ext HX2.out).lift HX2.out.size, Hz1.out, Hz2.out⟩)
 clear hz1 hz2
 have HQ := hid (ownprogram_any a1 a2 a3 c1 c2 c3 P w2 HPS.out.prog HSm.out)
 have p0 := HBp.out.av 0 rfl
 have p1 := HBp.out.av 1 rfl
 have p2 := HBp.out.av 2 rfl
 simp only [pcells, qA0, qA1, qA2] at p0 p1 p2
 unfold pval at HQ
 go_wp2_with fail
 refine HQ.out.mono ?_
 intro e w3 hx
 obtain ⟨hx3, b1, b2, b3, d1, d2, d3, rfl, hq⟩ := hx
 have HX3 := hid (HX2.out.trans hx3)
 have Hx3 := hid hx3
 have HPQ := hid (show PS0 w3 w3.heap.size ad b1 b2 b3 d1 d2 d3 P from ⟨HE.out.ext HX3.out, hq, Hz1.out, Hz2.out⟩)
 have HS3 := hid (HS.out.ext HX3.out)
 clear HQ hx3 hq p0 p1 p2
 obtain ⟨W9, hW9⟩ : ∃ W9, W9 = w3.alloc (.cells (pcells b1 b2 b3 d1 d2 d3 P) 26) := ⟨_, rfl⟩
 have hx9 : Ext w3 W9 := by rw [hW9]; exact (Ext.refl _).alloc _
 have HX9 : Hid (Ext w W9) := hid (HX3.out.trans hx9)
 have Hx29 : Hid (Ext w2 W9) := hid (Hx3.out.trans hx9)
 have HB9 : Hid (Blk W9 w3.heap.size (pcells b1 b2 b3 d1 d2 d3 P) 26) := hid (by rw [hW9]; exact Blk.new _ _ _)
 have HW9 : Hid (W9 = w3.alloc (.cells #[.slice b1 P.vars.length d1, .slice b2 P.funs.length d2, .slice b3 P.stmts.length d3] 26)) := hid (by rw [hW9]; rfl)
 have HQ9 := hid (HPQ.out.on (Nat.le_refl _) hx9)
 have HS9 := hid (HS3.out.ext hx9)
 have HA9 := hid (HAA.out.ext HX9.out)
 clear hW9 hx9
 obtain ⟨n, S, hL⟩ := least_exists Hw.out
 have HLe := hid hL
 have HG := hid (hL.good Hw.out)
 have HCl := hid (hL.closed Hw.out)
 have HSl := hid HG.out.2.1
 have hn12 := hL.few Hw.out
 have hS126 : S.length ≤ 126 := by
  have h1 := Hw.out.few
  have h2 := nodesV_le P Hw.out
  have := HSl.out
  omega
 clear hL
 have HF := hid (rfprog_all a1 a2 a3 c1 c2 c3 P W9 (HPS.out.on (Nat.le_refl _) Hx29.out).prog Hz1.out Hz2.out)
 have p0 := (HBp.out.ext Hx29.out).av 0 rfl
 have p1 := (HBp.out.ext Hx29.out).av 1 rfl
 have p2 := (HBp.out.ext Hx29.out).av 2 rfl
 simp only [pcells, qA0, qA1, qA2] at p0 p1 p2
 rw [HW9.out] at p0 p1 p2
 unfold pval at HF
 go_wp2_with fail
 rw [← HW9.out]
 refine HF.out.mono ?_
 intro e w5 hx
 obtain ⟨hx5, c, p, rfl, hfi⟩ := hx
 have Hfi := hid hfi
 obtain ⟨W6, hW6⟩ : ∃ W6, W6 = w5.alloc (.cells #[.int .i64 (c : Int), .int .i64 p] 36) := ⟨_, rfl⟩
 have hx6 : Ext w5 W6 := by rw [hW6]; exact (Ext.refl _).alloc _
 have HW6 := hid hW6
 have Hx96 : Hid (Ext W9 W6) := hid (hx5.trans hx6)
 have Hb5 : Hid (W9.heap.size ≤ w5.heap.size) := hid hx5.size
 have HBf : Hid (Blk W6 w5.heap.size #[.int .i64 (c : Int), .int .i64 p] 36) := hid (by rw [hW6]; exact Blk.new _ _ _)
 clear HF hfi hx5 hx6 hW6 p0 p1 p2
 obtain ⟨rfl, rfl⟩ := Hfi.out.uniq (show FaultIs P 0 (-1) from .inr (.inl ⟨Hw.out.1, Hw.out.2, rfl, rfl⟩))
 have HW6z : Hid (W6 = w5.alloc (.cells #[.int .i64 0, .int .i64 (-1)] 36)) := hid HW6.out
 have HBfz : Hid (Blk W6 w5.heap.size #[.int .i64 0, .int .i64 (-1)] 36) := hid HBf.out
 have HC := hid (rproof_any a1 a2 a3 c1 c2 c3 P (.slice al L.length cl) L W6 W6.heap.size (HPS.out.on (Nat.le_refl _) (Hx29.out.trans Hx96.out)).prog Hw.out w.heap.size (HPL.out.ext (HX9.out.trans Hx96.out)) (by omega))
 unfold pval at HC
 have p0 := (HBp.out.ext (Hx29.out.trans Hx96.out)).av 0 rfl
 have p1 := (HBp.out.ext (Hx29.out.trans Hx96.out)).av 1 rfl
 have p2 := (HBp.out.ext (Hx29.out.trans Hx96.out)).av 2 rfl
 simp only [pcells, qA0, qA1, qA2] at p0 p1 p2
 have f0 := HBfz.out.av 0 rfl
 have f1 := HBfz.out.av 1 rfl
 simp only [qA0, qA1, qA2] at f0 f1
 rw [HW6z.out] at f0 f1 p0 p1 p2
 clear HW6 HBf Hfi
 go_wp2_with fail
 rw [← HW6z.out]
 refine HC.out.mono ?_
 intro e w7 hx
 obtain ⟨c, p, rfl, hpi, hx7⟩ := hx
 have Hpi := hid hpi
 have hz := HBfz.out.ext hx7
 have z0 := hz.av 0 rfl
 have z1 := hz.av 1 rfl
 have y0 := hz.free 0
 have y1 := hz.free 1
 simp only [qA0, qA1, qA2] at z0 z1
 obtain ⟨wS, hwS⟩ : ∃ wS, wS = (w7.setCell ⟨w5.heap.size, 0, none⟩ (.int .i64 (c : Int))).setCell ⟨w5.heap.size, 1, none⟩ (.int .i64 p) := ⟨_, rfl⟩
 have HBf : Hid (Blk wS w5.heap.size #[.int .i64 (c : Int), .int .i64 p] 36) := hid (by rw [hwS]; exact two hz)
 have HKS : Hid (Keep (fun q => q = w5.heap.size) w7 wS) := hid (by rw [hwS]; exact two_keep w7 w5.heap.size (.int .i64 (c : Int)) (.int .i64 p))
 have HxS : Hid (Ext W9 wS) := hid (Keep.new (Hx96.out.trans hx7) HKS.out fun q e => by rw [e]; exact Hb5.out)
 have HwS := hid hwS
 have HCk : Hid (∀ wa a8 c8, Ext wS wa → StepsR wa wa.heap.size (.slice a8 L.length c8) L → Calls Tryz.prog 26 #[pval b1 b2 b3 d1 d2 d3 P, .slice a8 L.length c8] wa fun e w' => ∃ v, e = .returned v ∧ CodeIs ad w' v c p ∧ Ext wa w') := hid fun wa a8 c8 hx hr =>
  (whycheck_any b1 b2 b3 d1 d2 d3 P S (.slice a8 L.length c8) L wa wa.heap.size ad ((HQ9.out.on (Nat.le_refl _) (HxS.out.trans hx)).pw Hw.out) (HA9.out.ext (HxS.out.trans hx)) HG.out HCl.out hr (by omega) (Nat.le_refl _)).mono fun e w' ⟨v, h1, h2, h3⟩ => ⟨v, h1, code_proof h2 Hpi.out, h3⟩
 have u0 := HBf.out.kc (X := fun _ => False) (fun e => e) 0 rfl
 have u1 := HBf.out.kc (X := fun _ => False) (fun e => e) 1 rfl
 have g0 := (HB9.out.ext HxS.out).kc (X := fun _ => False) (fun e => e) 0 rfl
 have g1 := (HB9.out.ext HxS.out).kc (X := fun _ => False) (fun e => e) 1 rfl
 have g2 := (HB9.out.ext HxS.out).kc (X := fun _ => False) (fun e => e) 2 rfl
 simp only [pcells, qA0, qA1, qA2] at u0 u1 g0 g1 g2
 clear HC hpi hx7 hz f0 f1 p0 p1 p2 hwS
 go_wp2
 rw [← HwS.out]
 clear z0 z1 y0 y1
 refine wp_flow (fun _ => False) (by kernel_rfl) (by kernel_rfl) ?_
 apply Flow.d 0 _ rfl (by simp) (by kernel_rfl)
 ·intro w1 hk; unfold does; go_simp; (try go_ints); exact DetR.mk
 simp only [qA0, qA1, qA2, Act.put, qS0, qS1, qS2]
 apply Flow.d 1 _ rfl (by simp) (by kernel_rfl)
 ·intro w1 hk; unfold does; go_simp; (try go_ints); exact DetR.mk
 simp only [qA0, qA1, qA2, Act.put, qS0, qS1, qS2]
 apply Flow.d 4 _ rfl (by simp) (by kernel_rfl)
 ·intro w1 hk; unfold does; go_simp; (try go_ints); exact DetR.mk
 simp only [qA0, qA1, qA2, Act.put, qS0, qS1, qS2]
 refine Flow.one 2 _ rfl (by kernel_rfl) (fun v w' => (∃ a c, v = .slice a L.length c) ∧ w'.ownsRow 0 47 5 v L.length (L.flatMap stCells) ∧ Ext wS w') (fun _ _ _ ⟨h1, h2, h3⟩ y => ⟨h1, own_ext h2 y, h3.trans y⟩) (fun wa hC hk2 => ?_) ?_
 ·unfold does
  go_simp
  refine CallR.act ((assteps_any (.slice al L.length cl) L wa w.heap.size (HPL.out.ext (HX9.out.trans (HxS.out.trans hC))) hl0).mono ?_)
  rintro e wb ⟨v, rfl, hr, hx⟩
  exact ⟨_, rfl, hk2.trans (hx.keep _), row_form hr, own_low hr (Nat.zero_le _), hC.trans hx⟩
 rintro _ ⟨_, ⟨a8, c8, rfl⟩, _, _⟩
 simp only [qA0, qA1, qA2, Act.put, qS0, qS1, qS2]
 refine Flow.one 3 _ rfl (by kernel_rfl) (fun v w' => CodeIs ad w' v c p ∧ Ext wS w') (fun _ _ _ ⟨h1, h2⟩ y => ⟨h1.ext y, h2.trans y⟩) (fun wa hC hk2 => ?_) ?_
 ·obtain ⟨_, hr, hx⟩ := hC
  have HK := (HCk.out wa a8 c8 hx (StepsR.own hr (Nat.le_refl _)))
  unfold pval at HK
  unfold does
  go_simp
  refine CallR.act (HK.mono ?_)
  rintro e wb ⟨v, rfl, hc, hx2⟩
  exact ⟨_, rfl, hk2.trans (hx2.keep _), hc, hx.trans hx2⟩
 rintro vE ⟨_, _, _⟩
 simp only [qA0, qA1, qA2, Act.put, qS0, qS1, qS2]
 refine Flow.one 5 _ rfl (by kernel_rfl) (fun v w' => v = .bool true ∧ Ext wS w') (fun _ _ _ ⟨h1, h2⟩ y => ⟨h1, h2.trans y⟩) (fun wa hC hk2 => ?_) ?_
 ·obtain ⟨hc, hx⟩ := hC
  have HK := faulted2_at (w := wa) (v := vE) (c := c) (p := p) (HA9.out.ext (HxS.out.trans hx)) fun w1 x hA => hc w1 x hA
  unfold does
  go_simp
  refine CallR.act (HK.mono ?_)
  rintro e wb ⟨rfl, hx2⟩
  exact ⟨_, rfl, hk2.trans (hx2.keep _), rfl, hx.trans hx2⟩
 rintro _ ⟨_, rfl, _⟩
 simp only [qA0, qA1, qA2, Act.put, qS0, qS1, qS2]
 apply Flow.d 6 _ rfl (by simp) (by kernel_rfl)
 ·intro w1 hk; unfold does; go_simp; (try go_ints); exact DetR.mk
 simp only [qA0, qA1, qA2, Act.put, qS0, qS1, qS2]
 refine Flow.fin (by kernel_rfl) fun w12 hC12 hk12 => ?_
 have Hx12 : Hid (Ext wS w12) := hid hC12.2
 clear HCk hC12 hk12
 have f0 := (HBf.out.ext Hx12.out).av 0 rfl
 simp only [qA0, qA1, qA2] at f0
 have HX12 := hid (HX9.out.trans (HxS.out.trans Hx12.out))
 clear u0 u1 g0 g1 g2
 by_cases hc0 : c = 0
 ·have Hall : Hid (L.length ≤ 2000 ∧ StepsOk P L L.length) := hid (by
   rcases Hpi.out with ⟨_, h2, _⟩ | ⟨h1, h2, _⟩ | ⟨_, i, s, _, _, h4, h5, _⟩
   ·omega
   ·exact ⟨h1, h2⟩
   ·omega)
  subst hc0
  have f0z : w12.cell? ⟨w5.heap.size, 0, none⟩ = some (.int .i64 0) := f0
  have HL := hid (fixleast_ok b1 b2 b3 d1 d2 d3 P w12 ad ((HQ9.out.on (Nat.le_refl _) (HxS.out.trans Hx12.out)).pw Hw.out) (HS9.out.ext (HxS.out.trans Hx12.out)) n S HLe.out)
  rw [← HSl.out] at HL
  unfold pval at HL
  have g0 := (HB9.out.ext (HxS.out.trans Hx12.out)).av 0 rfl
  have g1 := (HB9.out.ext (HxS.out.trans Hx12.out)).av 1 rfl
  have g2 := (HB9.out.ext (HxS.out.trans Hx12.out)).av 2 rfl
  simp only [pcells, qA0, qA1, qA2] at g0 g1 g2
  clear f0
  go_wp2_with fail
  refine HL.out.mono ?_
  intro e w13 hx
  obtain ⟨ah, ch, rfl, hs13, hx13⟩ := hx
  have Hs13 := hid hs13
  have HX13 := hid (HX12.out.trans hx13)
  have hhl := hs13.len
  clear HL hs13 hx13 g0 g1 g2 f0z
  go_wp2
  go_loopw [11] (fun t11 wr => ∃ j : Nat, t11 = .int .i64 (j : Int) ∧ j ≤ L.length ∧ Ext w13 wr) (fun t11 _ => L.length - (intOf t11).toNat)
  case atStart => exact ⟨0, rfl, Nat.zero_le _, Ext.refl _⟩
  case round =>
   obtain ⟨j, rfl, hj, hx⟩ := hrel
   have Hxj := hid hx
   clear hx
   by_cases hjl : j < L.length
   ·obtain ⟨s, hs⟩ : ∃ s, L[j]? = some s := ⟨_, List.getElem?_eq_getElem hjl⟩
    have hrow := HPL.out.ext (HX13.out.trans Hxj.out)
    obtain ⟨y8, cp8, hge⟩ := hrow.some (by omega)
    simp only [Value.slice.injEq] at hge
    obtain ⟨rfl, -, rfl⟩ := hge
    obtain ⟨q0, q1, q2, q3, q4⟩ := hrow.at5 hs
    have hsn := (StepsOk.snd HG.out HCl.out Hall.out.2 j s hjl hs).2
    obtain ⟨sn, so, ss, sf, sv⟩ := s
    unfold SoS at hsn
    simp only at hsn q0 q1 q2 q3 q4
    obtain ⟨K, rfl⟩ := Int.eq_ofNat_of_zero_le hsn.1.1
    have hK : K < S.length := by have := hsn.1.2; have := HSl.out; omega
    obtain ⟨y2, l2, bl2, cl2, hy2, hl2', hc2, hI2⟩ := (Hs13.out.ext Hxj.out).at hK
    subst hy2
    have hd : decide (so ∈ l2) = true := decide_eq_true (by
     have := hsn.2
     rw [Int.toNat_natCast, List.getD_eq_getElem?_getD, hl2'] at this
     exact this)
    have HHj := fun w1 (z : Ext wr w1) => hid (sethas_ext (.slice bl2 l2.length cl2) l2 so w1 w13.heap.size (hI2.old (z.old _)))
    rw [hd] at HHj
    have k0 : ∀ w1, Keep (fun _ => False) wr w1 → w1.cell? (y2.add K) = some (.slice bl2 l2.length cl2) := fun w1 k => k.ext.cellx hc2
    have k1 : ∀ w1, Keep (fun _ => False) wr w1 → w1.cell? (y8.add (j * 5)) = some (.int .i64 (K : Int)) := fun w1 k => k.ext.cellx q0
    have k2 : ∀ w1, Keep (fun _ => False) wr w1 → w1.cell? ⟨(y8.add (j * 5)).block, (y8.add (j * 5)).off + 1, none⟩ = some (.int .i64 so) := fun w1 k => k.ext.cellx q1
    clear hs hrow q0 q1 q2 q3 q4 hsn hl2' hc2 hI2 hd
    go_wp2
    refine wp_flowT (fun _ => False) (by kernel_rfl) (by kernel_rfl) ?_
    repeat (apply FlowT.d; (intro w1 hk; unfold does; go_simp; (try go_ints); (first | exact DetR.mk | (simp only [↓IntWalk.iteOmega, Oper.doesUpon_value]; exact DetR.mk) | (simp only [↓IntWalk.iteOmega]; go_simp; (try go_ints); exact DetR.mk))); simp only [Act.put, qS0, qS1, qS2])
    apply FlowT.d
    ·intro w1 hk
     unfold does
     go_simp
     exact CallR.det ((HHj w1 hk.ext).out)
    simp only [Act.put, qS0, qS1, qS2]
    repeat (apply FlowT.d; (intro w1 hk; unfold does; go_simp; (try go_ints); (first | exact DetR.mk | (simp only [↓IntWalk.iteOmega, Oper.doesUpon_value]; exact DetR.mk) | (simp only [↓IntWalk.iteOmega]; go_simp; (try go_ints); exact DetR.mk))); simp only [Act.put, qS0, qS1, qS2])
    refine FlowT.fin fun wz hxz hkz => ?_
    have Hxz := hid (Hxj.out.trans hxz)
    clear hxz hkz k0 k1 k2 HHj
    go_wp2
    go_roundw
    case rel => exact ⟨j + 1, by go_num, by omega, Hxz.out⟩
    case measure => simp [intOf]; omega
   ·obtain rfl : j = L.length := by omega
    have HXz := hid (HX13.out.trans Hxj.out)
    go_wp2
    go_ret
    exact ⟨rfl, HXz.out⟩
 ·have hcp : 0 < (c : Int) := by omega
  clear hc0
  go_wp2
  go_ret
  exact ⟨rfl, HX12.out⟩
set_option maxRecDepth 100000 in
set_option maxHeartbeats 12800000 in
theorem whycheckslaw_yes2 (a1 a2 a3 : Option Addr) (c1 c2 c3 : Nat) (P : PP) (lv : Value) (L : List ST) (w : World) (ad : Nat → Addr) (hE : ErrsP w ad) (hA : AllErrs w ad) (hS : ErrS w ad) (hP : ProgR w w.heap.size (.slice a1 P.vars.length c1) (.slice a2 P.funs.length c2) (.slice a3 P.stmts.length c3) P) (hL0 : StepsR w w.heap.size lv L) (hw : P.Well) (hl0 : L.length ≤ 100000) (h40 : 40 < L.length) (h2001 : ((L.length : Int) != 2001) = false) :
  Calls Tryz.prog 6 #[pval a1 a2 a3 c1 c2 c3 P, lv] w fun e w' => e = .returned (.bool true) ∧ Ext w w' := by
 have Hw := hid hw
 clear hw
 have HPL := hid hL0
 obtain ⟨al, cl, rfl⟩ := hL0.form2
 have hll := hL0.len
 clear hL0
 have HE := hid hE
 have HS := hid hS
 have HAA := hid hA
 have HP := hid hP
 obtain ⟨W1, hW1⟩ : ∃ W1, W1 = w.alloc (.cells (pcells a1 a2 a3 c1 c2 c3 P) 26) := ⟨_, rfl⟩
 have HX1 : Hid (Ext w W1) := hid (by rw [hW1]; exact (Ext.refl _).alloc _)
 have HB1 : Hid (Blk W1 w.heap.size (pcells a1 a2 a3 c1 c2 c3 P) 26) := hid (by rw [hW1]; exact Blk.new _ _ _)
 have HR := hid (because_any W1 ad (hE.ext HX1.out) (hA.ext HX1.out))
 have HW1 : Hid (W1 = w.alloc (.cells #[.slice a1 P.vars.length c1, .slice a2 P.funs.length c2, .slice a3 P.stmts.length c3] 26)) := hid (by rw [hW1]; rfl)
 unfold pval
 clear hE hS hA hP hW1
 go_enter Tryz.func6, Tryz.ntmps6
 go_wp2_with fail
 rw [← HW1.out]
 refine HR.out.mono ?_
 intro e w1 hx
 obtain ⟨rfl, hx1⟩ := hx
 have HL := hid (large_q a1 a2 a3 c1 c2 c3 20 (by omega) P w1 w.heap.size (HP.out.ext (HX1.out.trans hx1)))
 rw [show ((20 : Nat) : Int) = (20 : Int) from rfl] at HL
 unfold pval at HL
 have HX1' := hid (HX1.out.trans hx1)
 have HBp1 := hid (HB1.out.ext hx1)
 have p0 := HBp1.out.av 0 rfl
 have p1 := HBp1.out.av 1 rfl
 have p2 := HBp1.out.av 2 rfl
 simp only [pcells, qA0, qA1, qA2] at p0 p1 p2
 clear HR hx1
 go_wp2_with fail
 refine HL.out.mono ?_
 intro e w2 hx
 obtain ⟨r, rfl, hr, hsm, hx2⟩ := hx
 have HX2 := hid (HX1'.out.trans hx2)
 have HBp := hid (HBp1.out.ext hx2)
 clear HL hx2 p0 p1 p2
 rcases (by omega : r = 1 ∨ r = 0) with rfl | rfl
 ·clear hsm hr
  go_wp2
  go_ret
  exact ⟨rfl, HX2.out⟩
 have HSm := hid (hsm rfl).1
 have HQl := hid (hsm rfl).2.1
 have HVl := hid (hsm rfl).2.2
 clear hsm hr
 have hz1 : ∀ s ∈ P.vars, s.size ≤ 1000000 := fun s hs => by have := HSm.out.vs s hs; omega
 have hz2 : ∀ s ∈ P.names, s.size ≤ 1000000 := fun s hs => by
  obtain ⟨f, hf, rfl⟩ := List.mem_map.1 hs
  have := (HSm.out.fs f hf).1
  omega
 have Hz1 := hid hz1
 have Hz2 := hid hz2
 have HPS := hid (show PS0 w2 w2.heap.size ad a1 a2 a3 c1 c2 c3 P from ⟨HE.out.ext HX2.out, (HP.out.ext HX2.out).lift HX2.out.size, Hz1.out, Hz2.out⟩)
 clear hz1 hz2
 have HQ := hid (ownprogram_any a1 a2 a3 c1 c2 c3 P w2 HPS.out.prog HSm.out)
 have p0 := HBp.out.av 0 rfl
 have p1 := HBp.out.av 1 rfl
 have p2 := HBp.out.av 2 rfl
 simp only [pcells, qA0, qA1, qA2] at p0 p1 p2
 unfold pval at HQ
 go_wp2_with fail
 refine HQ.out.mono ?_
 intro e w3 hx
 obtain ⟨hx3, b1, b2, b3, d1, d2, d3, rfl, hq⟩ := hx
 have HX3 := hid (HX2.out.trans hx3)
 have Hx3 := hid hx3
 have HPQ := hid (show PS0 w3 w3.heap.size ad b1 b2 b3 d1 d2 d3 P from ⟨HE.out.ext HX3.out, hq, Hz1.out, Hz2.out⟩)
 have HS3 := hid (HS.out.ext HX3.out)
 clear HQ hx3 hq p0 p1 p2
 obtain ⟨W9, hW9⟩ : ∃ W9, W9 = w3.alloc (.cells (pcells b1 b2 b3 d1 d2 d3 P) 26) := ⟨_, rfl⟩
 have hx9 : Ext w3 W9 := by rw [hW9]; exact (Ext.refl _).alloc _
 have HX9 : Hid (Ext w W9) := hid (HX3.out.trans hx9)
 have Hx29 : Hid (Ext w2 W9) := hid (Hx3.out.trans hx9)
 have HB9 : Hid (Blk W9 w3.heap.size (pcells b1 b2 b3 d1 d2 d3 P) 26) := hid (by rw [hW9]; exact Blk.new _ _ _)
 have HW9 : Hid (W9 = w3.alloc (.cells #[.slice b1 P.vars.length d1, .slice b2 P.funs.length d2, .slice b3 P.stmts.length d3] 26)) := hid (by rw [hW9]; rfl)
 have HQ9 := hid (HPQ.out.on (Nat.le_refl _) hx9)
 have HS9 := hid (HS3.out.ext hx9)
 have HA9 := hid (HAA.out.ext HX9.out)
 clear hW9 hx9
 obtain ⟨n, S, hL⟩ := least_exists Hw.out
 have HLe := hid hL
 have HG := hid (hL.good Hw.out)
 have HCl := hid (hL.closed Hw.out)
 have HSl := hid HG.out.2.1
 have hn12 := hL.few Hw.out
 have hS126 : S.length ≤ 126 := by
  have h1 := Hw.out.few
  have h2 := nodesV_le P Hw.out
  have := HSl.out
  omega
 clear hL
 have HF := hid (rfprog_all a1 a2 a3 c1 c2 c3 P W9 (HPS.out.on (Nat.le_refl _) Hx29.out).prog Hz1.out Hz2.out)
 have p0 := (HBp.out.ext Hx29.out).av 0 rfl
 have p1 := (HBp.out.ext Hx29.out).av 1 rfl
 have p2 := (HBp.out.ext Hx29.out).av 2 rfl
 simp only [pcells, qA0, qA1, qA2] at p0 p1 p2
 rw [HW9.out] at p0 p1 p2
 unfold pval at HF
 go_wp2_with fail
 rw [← HW9.out]
 refine HF.out.mono ?_
 intro e w5 hx
 obtain ⟨hx5, c, p, rfl, hfi⟩ := hx
 have Hfi := hid hfi
 obtain ⟨W6, hW6⟩ : ∃ W6, W6 = w5.alloc (.cells #[.int .i64 (c : Int), .int .i64 p] 36) := ⟨_, rfl⟩
 have hx6 : Ext w5 W6 := by rw [hW6]; exact (Ext.refl _).alloc _
 have HW6 := hid hW6
 have Hx96 : Hid (Ext W9 W6) := hid (hx5.trans hx6)
 have Hb5 : Hid (W9.heap.size ≤ w5.heap.size) := hid hx5.size
 have HBf : Hid (Blk W6 w5.heap.size #[.int .i64 (c : Int), .int .i64 p] 36) := hid (by rw [hW6]; exact Blk.new _ _ _)
 clear HF hfi hx5 hx6 hW6 p0 p1 p2
 obtain ⟨rfl, rfl⟩ := Hfi.out.uniq (show FaultIs P 0 (-1) from .inr (.inl ⟨Hw.out.1, Hw.out.2, rfl, rfl⟩))
 have HW6z : Hid (W6 = w5.alloc (.cells #[.int .i64 0, .int .i64 (-1)] 36)) := hid HW6.out
 have HBfz : Hid (Blk W6 w5.heap.size #[.int .i64 0, .int .i64 (-1)] 36) := hid HBf.out
 have HC := hid (rproof_any a1 a2 a3 c1 c2 c3 P (.slice al L.length cl) L W6 W6.heap.size (HPS.out.on (Nat.le_refl _) (Hx29.out.trans Hx96.out)).prog Hw.out w.heap.size (HPL.out.ext (HX9.out.trans Hx96.out)) (by omega))
 unfold pval at HC
 have p0 := (HBp.out.ext (Hx29.out.trans Hx96.out)).av 0 rfl
 have p1 := (HBp.out.ext (Hx29.out.trans Hx96.out)).av 1 rfl
 have p2 := (HBp.out.ext (Hx29.out.trans Hx96.out)).av 2 rfl
 simp only [pcells, qA0, qA1, qA2] at p0 p1 p2
 have f0 := HBfz.out.av 0 rfl
 have f1 := HBfz.out.av 1 rfl
 simp only [qA0, qA1, qA2] at f0 f1
 rw [HW6z.out] at f0 f1 p0 p1 p2
 clear HW6 HBf Hfi
 go_wp2_with fail
 rw [← HW6z.out]
 refine HC.out.mono ?_
 intro e w7 hx
 obtain ⟨c, p, rfl, hpi, hx7⟩ := hx
 have Hpi := hid hpi
 have hz := HBfz.out.ext hx7
 have z0 := hz.av 0 rfl
 have z1 := hz.av 1 rfl
 have y0 := hz.free 0
 have y1 := hz.free 1
 simp only [qA0, qA1, qA2] at z0 z1
 obtain ⟨wS, hwS⟩ : ∃ wS, wS = (w7.setCell ⟨w5.heap.size, 0, none⟩ (.int .i64 (c : Int))).setCell ⟨w5.heap.size, 1, none⟩ (.int .i64 p) := ⟨_, rfl⟩
 have HBf : Hid (Blk wS w5.heap.size #[.int .i64 (c : Int), .int .i64 p] 36) := hid (by rw [hwS]; exact two hz)
 have HKS : Hid (Keep (fun q => q = w5.heap.size) w7 wS) := hid (by rw [hwS]; exact two_keep w7 w5.heap.size (.int .i64 (c : Int)) (.int .i64 p))
 have HxS : Hid (Ext W9 wS) := hid (Keep.new (Hx96.out.trans hx7) HKS.out fun q e => by rw [e]; exact Hb5.out)
 have HwS := hid hwS
 have HCk : Hid (∀ wa a8 c8, Ext wS wa → StepsR wa wa.heap.size (.slice a8 L.length c8) L → Calls Tryz.prog 26 #[pval b1 b2 b3 d1 d2 d3 P, .slice a8 L.length c8] wa fun e w' => ∃ v, e = .returned v ∧ CodeIs ad w' v c p ∧ Ext wa w') := hid fun wa a8 c8 hx hr =>
  (whycheck_any b1 b2 b3 d1 d2 d3 P S (.slice a8 L.length c8) L wa wa.heap.size ad ((HQ9.out.on (Nat.le_refl _) (HxS.out.trans hx)).pw Hw.out) (HA9.out.ext (HxS.out.trans hx)) HG.out HCl.out hr (by omega) (Nat.le_refl _)).mono fun e w' ⟨v, h1, h2, h3⟩ => ⟨v, h1, code_proof h2 Hpi.out, h3⟩
 have u0 := HBf.out.kc (X := fun _ => False) (fun e => e) 0 rfl
 have u1 := HBf.out.kc (X := fun _ => False) (fun e => e) 1 rfl
 have g0 := (HB9.out.ext HxS.out).kc (X := fun _ => False) (fun e => e) 0 rfl
 have g1 := (HB9.out.ext HxS.out).kc (X := fun _ => False) (fun e => e) 1 rfl
 have g2 := (HB9.out.ext HxS.out).kc (X := fun _ => False) (fun e => e) 2 rfl
 simp only [pcells, qA0, qA1, qA2] at u0 u1 g0 g1 g2
 clear HC hpi hx7 hz f0 f1 p0 p1 p2 hwS
 go_wp2
 rw [← HwS.out]
 clear z0 z1 y0 y1
 refine wp_flow (fun _ => False) (by kernel_rfl) (by kernel_rfl) ?_
 apply Flow.d 0 _ rfl (by simp) (by kernel_rfl)
 ·intro w1 hk; unfold does; go_simp; (try go_ints); exact DetR.mk
 simp only [qA0, qA1, qA2, Act.put, qS0, qS1, qS2]
 apply Flow.d 1 _ rfl (by simp) (by kernel_rfl)
 ·intro w1 hk; unfold does; go_simp; (try go_ints); exact DetR.mk
 simp only [qA0, qA1, qA2, Act.put, qS0, qS1, qS2]
 apply Flow.d 4 _ rfl (by simp) (by kernel_rfl)
 ·intro w1 hk; unfold does; go_simp; (try go_ints); exact DetR.mk
 simp only [qA0, qA1, qA2, Act.put, qS0, qS1, qS2]
 refine Flow.one 2 _ rfl (by kernel_rfl) (fun v w' => (∃ a c, v = .slice a L.length c) ∧ w'.ownsRow 0 47 5 v L.length (L.flatMap stCells) ∧ Ext wS w') (fun _ _ _ ⟨h1, h2, h3⟩ y => ⟨h1, own_ext h2 y, h3.trans y⟩) (fun wa hC hk2 => ?_) ?_
 ·unfold does
  go_simp
  refine CallR.act ((assteps_any (.slice al L.length cl) L wa w.heap.size (HPL.out.ext (HX9.out.trans (HxS.out.trans hC))) hl0).mono ?_)
  rintro e wb ⟨v, rfl, hr, hx⟩
  exact ⟨_, rfl, hk2.trans (hx.keep _), row_form hr, own_low hr (Nat.zero_le _), hC.trans hx⟩
 rintro _ ⟨_, ⟨a8, c8, rfl⟩, _, _⟩
 simp only [qA0, qA1, qA2, Act.put, qS0, qS1, qS2]
 refine Flow.one 3 _ rfl (by kernel_rfl) (fun v w' => CodeIs ad w' v c p ∧ Ext wS w') (fun _ _ _ ⟨h1, h2⟩ y => ⟨h1.ext y, h2.trans y⟩) (fun wa hC hk2 => ?_) ?_
 ·obtain ⟨_, hr, hx⟩ := hC
  have HK := (HCk.out wa a8 c8 hx (StepsR.own hr (Nat.le_refl _)))
  unfold pval at HK
  unfold does
  go_simp
  refine CallR.act (HK.mono ?_)
  rintro e wb ⟨v, rfl, hc, hx2⟩
  exact ⟨_, rfl, hk2.trans (hx2.keep _), hc, hx.trans hx2⟩
 rintro vE ⟨_, _, _⟩
 simp only [qA0, qA1, qA2, Act.put, qS0, qS1, qS2]
 refine Flow.one 5 _ rfl (by kernel_rfl) (fun v w' => v = .bool true ∧ Ext wS w') (fun _ _ _ ⟨h1, h2⟩ y => ⟨h1, h2.trans y⟩) (fun wa hC hk2 => ?_) ?_
 ·obtain ⟨hc, hx⟩ := hC
  have HK := faulted2_at (w := wa) (v := vE) (c := c) (p := p) (HA9.out.ext (HxS.out.trans hx)) fun w1 x hA => hc w1 x hA
  unfold does
  go_simp
  refine CallR.act (HK.mono ?_)
  rintro e wb ⟨rfl, hx2⟩
  exact ⟨_, rfl, hk2.trans (hx2.keep _), rfl, hx.trans hx2⟩
 rintro _ ⟨_, rfl, _⟩
 simp only [qA0, qA1, qA2, Act.put, qS0, qS1, qS2]
 apply Flow.d 6 _ rfl (by simp) (by kernel_rfl)
 ·intro w1 hk; unfold does; go_simp; (try go_ints); exact DetR.mk
 simp only [qA0, qA1, qA2, Act.put, qS0, qS1, qS2]
 refine Flow.fin (by kernel_rfl) fun w12 hC12 hk12 => ?_
 have Hx12 : Hid (Ext wS w12) := hid hC12.2
 clear HCk hC12 hk12
 have f0 := (HBf.out.ext Hx12.out).av 0 rfl
 simp only [qA0, qA1, qA2] at f0
 have HX12 := hid (HX9.out.trans (HxS.out.trans Hx12.out))
 clear u0 u1 g0 g1 g2
 by_cases hc0 : c = 0
 ·have Hall : Hid (L.length ≤ 2000 ∧ StepsOk P L L.length) := hid (by
   rcases Hpi.out with ⟨_, h2, _⟩ | ⟨h1, h2, _⟩ | ⟨_, i, s, _, _, h4, h5, _⟩
   ·omega
   ·exact ⟨h1, h2⟩
   ·omega)
  subst hc0
  have f0z : w12.cell? ⟨w5.heap.size, 0, none⟩ = some (.int .i64 0) := f0
  have HL := hid (fixleast_ok b1 b2 b3 d1 d2 d3 P w12 ad ((HQ9.out.on (Nat.le_refl _) (HxS.out.trans Hx12.out)).pw Hw.out) (HS9.out.ext (HxS.out.trans Hx12.out)) n S HLe.out)
  rw [← HSl.out] at HL
  unfold pval at HL
  have g0 := (HB9.out.ext (HxS.out.trans Hx12.out)).av 0 rfl
  have g1 := (HB9.out.ext (HxS.out.trans Hx12.out)).av 1 rfl
  have g2 := (HB9.out.ext (HxS.out.trans Hx12.out)).av 2 rfl
  simp only [pcells, qA0, qA1, qA2] at g0 g1 g2
  clear f0
  go_wp2_with fail
  refine HL.out.mono ?_
  intro e w13 hx
  obtain ⟨ah, ch, rfl, hs13, hx13⟩ := hx
  have Hs13 := hid hs13
  have HX13 := hid (HX12.out.trans hx13)
  have hhl := hs13.len
  clear HL hs13 hx13 g0 g1 g2 f0z
  go_wp2
  go_loopw [11] (fun t11 wr => ∃ j : Nat, t11 = .int .i64 (j : Int) ∧ j ≤ L.length ∧ Ext w13 wr) (fun t11 _ => L.length - (intOf t11).toNat)
  case atStart => exact ⟨0, rfl, Nat.zero_le _, Ext.refl _⟩
  case round =>
   obtain ⟨j, rfl, hj, hx⟩ := hrel
   have Hxj := hid hx
   clear hx
   by_cases hjl : j < L.length
   ·obtain ⟨s, hs⟩ : ∃ s, L[j]? = some s := ⟨_, List.getElem?_eq_getElem hjl⟩
    have hrow := HPL.out.ext (HX13.out.trans Hxj.out)
    obtain ⟨y8, cp8, hge⟩ := hrow.some (by omega)
    simp only [Value.slice.injEq] at hge
    obtain ⟨rfl, -, rfl⟩ := hge
    obtain ⟨q0, q1, q2, q3, q4⟩ := hrow.at5 hs
    have hsn := (StepsOk.snd HG.out HCl.out Hall.out.2 j s hjl hs).2
    obtain ⟨sn, so, ss, sf, sv⟩ := s
    unfold SoS at hsn
    simp only at hsn q0 q1 q2 q3 q4
    obtain ⟨K, rfl⟩ := Int.eq_ofNat_of_zero_le hsn.1.1
    have hK : K < S.length := by have := hsn.1.2; have := HSl.out; omega
    obtain ⟨y2, l2, bl2, cl2, hy2, hl2', hc2, hI2⟩ := (Hs13.out.ext Hxj.out).at hK
    subst hy2
    have hd : decide (so ∈ l2) = true := decide_eq_true (by
     have := hsn.2
     rw [Int.toNat_natCast, List.getD_eq_getElem?_getD, hl2'] at this
     exact this)
    have HHj := fun w1 (z : Ext wr w1) => hid (sethas_ext (.slice bl2 l2.length cl2) l2 so w1 w13.heap.size (hI2.old (z.old _)))
    rw [hd] at HHj
    have k0 : ∀ w1, Keep (fun _ => False) wr w1 → w1.cell? (y2.add K) = some (.slice bl2 l2.length cl2) := fun w1 k => k.ext.cellx hc2
    have k1 : ∀ w1, Keep (fun _ => False) wr w1 → w1.cell? (y8.add (j * 5)) = some (.int .i64 (K : Int)) := fun w1 k => k.ext.cellx q0
    have k2 : ∀ w1, Keep (fun _ => False) wr w1 → w1.cell? ⟨(y8.add (j * 5)).block, (y8.add (j * 5)).off + 1, none⟩ = some (.int .i64 so) := fun w1 k => k.ext.cellx q1
    clear hs hrow q0 q1 q2 q3 q4 hsn hl2' hc2 hI2 hd
    go_wp2
    refine wp_flowT (fun _ => False) (by kernel_rfl) (by kernel_rfl) ?_
    repeat (apply FlowT.d; (intro w1 hk; unfold does; go_simp; (try go_ints); (first | exact DetR.mk | (simp only [↓IntWalk.iteOmega, Oper.doesUpon_value]; exact DetR.mk) | (simp only [↓IntWalk.iteOmega]; go_simp; (try go_ints); exact DetR.mk))); simp only [Act.put, qS0, qS1, qS2])
    apply FlowT.d
    ·intro w1 hk
     unfold does
     go_simp
     exact CallR.det ((HHj w1 hk.ext).out)
    simp only [Act.put, qS0, qS1, qS2]
    repeat (apply FlowT.d; (intro w1 hk; unfold does; go_simp; (try go_ints); (first | exact DetR.mk | (simp only [↓IntWalk.iteOmega, Oper.doesUpon_value]; exact DetR.mk) | (simp only [↓IntWalk.iteOmega]; go_simp; (try go_ints); exact DetR.mk))); simp only [Act.put, qS0, qS1, qS2])
    refine FlowT.fin fun wz hxz hkz => ?_
    have Hxz := hid (Hxj.out.trans hxz)
    clear hxz hkz k0 k1 k2 HHj
    go_wp2
    go_roundw
    case rel => exact ⟨j + 1, by go_num, by omega, Hxz.out⟩
    case measure => simp [intOf]; omega
   ·obtain rfl : j = L.length := by omega
    have HXz := hid (HX13.out.trans Hxj.out)
    go_wp2
    go_ret
    exact ⟨rfl, HXz.out⟩
 ·have hcp : 0 < (c : Int) := by omega
  clear hc0
  go_wp2
  go_ret
  exact ⟨rfl, HX12.out⟩
theorem whycheckslaw_any (a1 a2 a3 : Option Addr) (c1 c2 c3 : Nat) (P : PP) (lv : Value) (L : List ST) (w : World) (ad : Nat → Addr) (hE : ErrsP w ad) (hA : AllErrs w ad) (hS : ErrS w ad) (hP : ProgR w w.heap.size (.slice a1 P.vars.length c1) (.slice a2 P.funs.length c2) (.slice a3 P.stmts.length c3) P) (hL0 : StepsR w w.heap.size lv L) :
  Calls Tryz.prog 6 #[pval a1 a2 a3 c1 c2 c3 P, lv] w fun e w' => e = .returned (.bool true) ∧ Ext w w' := by
 by_cases h40 : L.length ≤ 40
 ·by_cases hw : P.Well
  ·exact whycheckslaw_yes1 a1 a2 a3 c1 c2 c3 P lv L w ad hE hA hS hP hL0 hw (by omega) h40
  ·exact whycheckslaw_no1 a1 a2 a3 c1 c2 c3 P lv L w ad hE hA hS hP hL0 hw (by omega) h40
 ·by_cases h2001 : L.length = 2001
  ·have hne : ((L.length : Int) != 2001) = false := by rw [h2001]; rfl
   by_cases hw : P.Well
   ·exact whycheckslaw_yes2 a1 a2 a3 c1 c2 c3 P lv L w ad hE hA hS hP hL0 hw (by omega) (by omega) hne
   ·exact whycheckslaw_no2 a1 a2 a3 c1 c2 c3 P lv L w ad hE hA hS hP hL0 hw (by omega) (by omega) hne
  ·exact whycheckslaw_out a1 a2 a3 c1 c2 c3 P lv L w ad hE hA hS hP hL0 (by omega) h2001
end Go.Proofs.YtngdpnlgnpdkcaaGreatDoor
namespace Go.Proofs.YtngdpnlgnpdkcaaGreatDoor
open Go Go.RowKit Go.Deep
theorem cellsU_rwhy : Tryz.prog.cellsOf 48 = 5 := by kernel_rfl
theorem listU5 {α : Type} {l : List α} (h : l.length = 5) : ∃ c0 c1 c2 c3 c4, l = [c0, c1, c2, c3, c4] := by
 match l, h with
 | [c0, c1, c2, c3, c4], _ => exact ⟨c0, c1, c2, c3, c4, rfl⟩
set_option maxRecDepth 100000 in
theorem stepsR_of {H : Type} {enc : TypeId × Value → H} {w : World} {base : Nat} {sp : Nat → Bool} {held : Bool} {n : Nat} {v : Value} {x : DataW H × List MemPlace} (h : DataW.trod enc Tryz.prog w base sp held n 45 [v] = some x) : ∃ l, StepsR w w.heap.size v l := by
 have inh : Inhabited ST := ⟨⟨0, 0, 0, 0, 0⟩⟩
 refine elR_of (α := ST) Tryz.underlying45 cellsU_rwhy (by decide) (fun i y s => w.cell? (y.add (i * 5)) = some (.int .i64 s.node) ∧ w.cell? ((y.add (i * 5)).add 1) = some (.int .i64 s.obj) ∧ w.cell? ((y.add (i * 5)).add 2) = some (.int .i64 s.stmt) ∧ w.cell? ((y.add (i * 5)).add 3) = some (.int .i64 s.frm) ∧ w.cell? ((y.add (i * 5)).add 4) = some (.int .i64 s.via)) (fun i m y cs z hc hl ht => ?_) h
 obtain ⟨c0, c1, c2, c3, c4, rfl⟩ := listU5 hl
 obtain ⟨xs, k, _, _, _, hxl, hf⟩ := DataW.trod_struct Tryz.underlying48 ht
 obtain ⟨y0, y1, y2, y3, y4, rfl⟩ := listU5 hxl
 have g0 : DataW.trod enc Tryz.prog w base sp held k 3 [c0] = some y0 := by simpa [cellsU_int] using hf 0 _ rfl
 have g1 : DataW.trod enc Tryz.prog w base sp held k 3 [c1] = some y1 := by simpa [cellsU_int] using hf 1 _ rfl
 have g2 : DataW.trod enc Tryz.prog w base sp held k 3 [c2] = some y2 := by simpa [cellsU_int] using hf 2 _ rfl
 have g3 : DataW.trod enc Tryz.prog w base sp held k 3 [c3] = some y3 := by simpa [cellsU_int] using hf 3 _ rfl
 have g4 : DataW.trod enc Tryz.prog w base sp held k 3 [c4] = some y4 := by simpa [cellsU_int] using hf 4 _ rfl
 obtain ⟨a0, e0, _, _⟩ := DataW.trod_int Tryz.underlying3 g0
 obtain ⟨a1, e1, _, _⟩ := DataW.trod_int Tryz.underlying3 g1
 obtain ⟨a2, e2, _, _⟩ := DataW.trod_int Tryz.underlying3 g2
 obtain ⟨a3, e3, _, _⟩ := DataW.trod_int Tryz.underlying3 g3
 obtain ⟨a4, e4, _, _⟩ := DataW.trod_int Tryz.underlying3 g4
 simp only [List.cons.injEq, and_true] at e0 e1 e2 e3 e4
 subst e0 e1 e2 e3 e4
 exact ⟨⟨a0, a1, a2, a3, a4⟩, by simpa [Addr.add] using hc 0 (by decide), hc 1 (by decide), hc 2 (by decide), hc 3 (by decide), hc 4 (by decide)⟩
end Go.Proofs.YtngdpnlgnpdkcaaGreatDoor
namespace Go.Proofs.YtngdpnlgnpdkcaaGreatDoor
open Go Go.RowKit
def handD : DataW Unit := .iface "internal/reflectlite.rtype" (.agg [.ptr (.lit (.string [101, 114, 114, 111, 114]))])
theorem handName : handD.handleName? = some [101, 114, 114, 111, 114] := by
 unfold handD DataW.handleName?
 simp
def allCodes : List Nat := [1, 2, 3, 4, 5, 6, 7, 8, 9, 10, 11]
def fullL : List (String × DataW Unit) := ("errors.errorType", handD) :: sentL allCodes
theorem typesSize : Tryz.prog.types.size = 306 := by kernel_rfl
theorem oneErrRow : ((List.range 306).filter fun t => Tryz.prog.rowNamed t [101, 114, 114, 111, 114]) = [31] := by kernel_rfl
theorem rtypeCut : (Tryz.prog.cutTypes.find? (·.1 == "internal/reflectlite.rtype")).map (·.2) = some 214 := by kernel_rfl
theorem errTypeVar : Tryz.prog.globalNamed "errors.errorType" = some 11 := by kernel_rfl
theorem errHandle : typeHandle Tryz.prog 31 = .pointer (some ⟨15, 31, none⟩) := by kernel_rfl
theorem all_of {W : World} (h : laidMetH Tryz.prog fullL W) : ∃ ad : Nat → Addr, AllErrs W ad := by
 obtain ⟨h1, h2⟩ := laidMetH_iff.1 h
 have e1 : (fullL.filter fun x => x.2.handleName?.isNone) = sentL allCodes := by
  unfold fullL
  rw [List.filter_cons_of_neg (by simp [handName]), List.filter_eq_self.2 fun x hx => by
   obtain ⟨c, _, rfl⟩ := List.mem_map.1 hx
   simp [sent_noHandle]]
 rw [e1] at h1
 obtain ⟨ad, s1, s2⟩ := sents_ad allCodes (by decide) h1
 have hin : ∀ c, 1 ≤ c ∧ c ≤ 11 → c ∈ allCodes := fun c hc => by
  rcases (by omega : c = 1 ∨ c = 2 ∨ c = 3 ∨ c = 4 ∨ c = 5 ∨ c = 6 ∨ c = 7 ∨ c = 8 ∨ c = 9 ∨ c = 10 ∨ c = 11) with rfl | rfl | rfl | rfl | rfl | rfl | rfl | rfl | rfl | rfl | rfl <;> decide
 refine ⟨ad, fun c hc => (s1 c (hin c hc)).var, fun c hc => (s1 c (hin c hc)).row, fun c d hc hd e => s2 c (hin c hc) d (hin d hd) e, ?_⟩
 have hm : ("errors.errorType", handD) ∈ fullL.filter fun x => x.2.handleName?.isSome := List.mem_filter.2 ⟨by simp [fullL], by simp [handName]⟩
 have h3 := h2 _ hm
 have hf : handD.funcsIn? = none := by
  unfold handD DataW.funcsIn?
  simp
 simp only [hf] at h3
 obtain ⟨name, u, ty, g1, g2, g3, g4, g5⟩ := h3
 obtain rfl := Option.some.inj (handName.symm.trans g1)
 obtain rfl := Option.some.inj (rtypeCut.symm.trans g2)
 have hm2 : ty ∈ (List.range 306).filter fun t => Tryz.prog.rowNamed t [101, 114, 114, 111, 114] := List.mem_filter.2 ⟨List.mem_range.2 (by rw [← typesSize]; exact g3), g4⟩
 rw [oneErrRow, List.mem_singleton] at hm2
 subst hm2
 rw [errHandle] at g5
 simpa using World.var?_cell errTypeVar g5 0
end Go.Proofs.YtngdpnlgnpdkcaaGreatDoor
namespace Go.Proofs.YtngdpnlgnpdkcaaGreatDoor.whyChecks
open Go Go.ChangeShapes Go.WideShapes Go.ChangeAt Go.WideMaps Go.WideElems Go.RowKit Go.Joins Go.Deep
theorem errs_of {W : World} {ad : Nat → Addr} (h : AllErrs W ad) : ErrsP W ad :=
 ⟨h.var 2 (by decide), h.var 3 (by decide), h.var 4 (by decide), h.var 5 (by decide), h.var 7 (by decide), h.var 8 (by decide), h.var 9 (by decide),
  fun e => by have := h.inj 5 7 (by decide) (by decide) e; omega, h.row 5 (by decide), h.row 7 (by decide)⟩
theorem sets_of {W : World} {ad : Nat → Addr} (h : AllErrs W ad) : ErrS W ad := ⟨h.var 2 (by decide), h.var 10 (by decide)⟩
theorem laid_eq : (Rows.whyChecksRow.laid.filter fun x => !(x.1 == "unicode/utf8.acceptRanges") && !(x.1 == "unicode/utf8.first")) = fullL := by kernel_rfl
noncomputable def wit (os : Os) : World := (World.doorLaid Tryz.prog 235 os).layVars Tryz.prog [("unicode/utf8.first", Rows.laid_unicode_utf8_first)]
def rest : List (String × DataW Unit) := (Rows.whyChecksRow.laid.filter fun x => x.2.handleName?.isNone).filter fun x => !["unicode/utf8.first"].contains x.1
noncomputable def others (os : Os) : List Nat := (List.range (World.doorLaid Tryz.prog 235 os).heap.size).filter fun b => b != 12
theorem first_eq : ((Rows.whyChecksRow.laid.filter fun x => x.2.handleName?.isNone).filter fun x => ["unicode/utf8.first"].contains x.1) = [("unicode/utf8.first", Rows.laid_unicode_utf8_first)] := by kernel_rfl
theorem door_met (os : Os) (args : Array Value) : laidMetH Tryz.prog Rows.whyChecksRow.laid ((wit os).forCall (fun _ _ => 0) ⟨#[], args, []⟩).memory := by
 refine laidMetH_of_parts3 (fuel := 8) ?_ (by kernel_rfl) (by kernel_rfl)
 have h : laidMet Tryz.prog (Rows.whyChecksRow.laid.filter fun x => x.2.handleName?.isNone) (wit os) :=
  laidMet_layVars (w0 := World.doorLaid Tryz.prog 235 os) ["unicode/utf8.first"] (others os) (by rw [first_eq]; rfl) (by rw [first_eq]; kernel_rfl) (by rw [first_eq]; kernel_rfl) (LaidIn.of_run (others os) 8 (by kernel_rfl) (by kernel_rfl) (by kernel_rfl) (by kernel_rfl))
 exact h.of_heap (by simp [World.memory, World.forCall, Input.heap])
theorem own : ownKnob Tryz.prog.godebug = none := by kernel_rfl
theorem laidOut : laidOutB Tryz.prog = true := by kernel_rfl
set_option maxRecDepth 100000 in
theorem lifted (os : Os) (started : os.Started) (H : Type) (enc : TypeId × Value → H) :
  ReturnsInHanded {} Tryz.checked os 6 .any (fun w args => (Rows.whyChecksSpec.pre enc Tryz.prog Tryz.f6 [] false w args ∧ laidMetH Tryz.prog Rows.whyChecksRow.laid w) ∧ sizedMet enc Tryz.prog Tryz.f6 (OpenSpec.ofChange Rows.whyChecksSpec) false w args)
   (Rows.whyChecksSpec.post enc Tryz.prog Tryz.f6 false true false false) := by
 refine returnsInHanded_of_change_and (C := Tryz.checked) (X := fun w _ => laidMetH Tryz.prog Rows.whyChecksRow.laid w) (fun _ _ _ hh h => h.of_heap hh) own started (by kernel_rfl) Tryz.func6
  (ChangeSpec.witness_shaped (enc := enc) (C := Tryz.checked) (os := os) (X := fun w _ => laidMetH Tryz.prog Rows.whyChecksRow.laid w) false (wit os) #[.agg #[.slice none 0 0, .slice none 0 0, .slice none 0 0], .slice none 0 0] 8 (World.layVars_os _ _ _) (World.shaped_of_ZipB (by kernel_rfl) (by kernel_rfl)) (by kernel_rfl) (by kernel_rfl) (by kernel_rfl) (door_met os _)) ?_
 intro W base args ds gs before hval0 hW _ _ hL _
 have hval : ∀ (j : Nat) t v, Tryz.f6.params[j]? = some t → args[j]? = some v → Value.okWide Tryz.prog W .any base t v := hval0
 have hW' := hW
 obtain ⟨p, q, hA0, hV, rfl, hfz, hnd⟩ := hW
 have hA : DataW.TrodAll enc Tryz.prog W 0 (fun _ => true) true Tryz.f6.params.toList args.toList ds p := hA0
 rw [Tryz.params6] at hA hval
 obtain ⟨v0, vs0, d0, ds0, p0, q0, hargs, rfl, rfl, h0, r0⟩ := trodAll_cons hA
 obtain ⟨v1, vs1, d1, ds1, p1, q1, rfl, rfl, rfl, h1, r1⟩ := trodAll_cons r0
 obtain ⟨rfl, rfl, rfl⟩ := trodAll_nil r1
 obtain rfl : args = #[v0, v1] := by cases args; simp_all
 obtain ⟨rfl, rfl⟩ := trodVars_none hV
 have k0 := h0
 have lt0 : ∀ x ∈ p0, x.block < W.heap.size := by obtain ⟨m, hm⟩ := k0; exact DataW.trod_lt m _ _ _ hm
 have k1 := h1
 have lt1 : ∀ x ∈ p1, x.block < W.heap.size := by obtain ⟨m, hm⟩ := k1; exact DataW.trod_lt m _ _ _ hm
 obtain ⟨sa, sl, sc, rfl⟩ := okWide_slice Tryz.underlying45 (hval 1 45 v1 rfl rfl)
 obtain ⟨l, hI⟩ : ∃ l, StepsR W W.heap.size (.slice sa sl sc) l := by
  obtain ⟨m, hm⟩ := h1
  exact stepsR_of (by simpa [Value.cells] using hm)
 obtain ⟨b1, b2, b3, c1, c2, c3, P, rfl, hP⟩ := prog_of (hval 0 26 v0 rfl rfl) h0
 obtain ⟨ad, hE⟩ := all_of (by have := laidMetH.filter (fun x => !(x.1 == "unicode/utf8.acceptRanges") && !(x.1 == "unicode/utf8.first")) hL; rw [laid_eq] at this; exact this)
 clear hA0 hval0
 refine (whycheckslaw_any b1 b2 b3 c1 c2 c3 P _ l W ad (errs_of hE) hE (sets_of hE) hP hI).mono fun e W' ⟨he, bel⟩ => ?_
 subst he
 exact ⟨_, rfl, _, _, _, [], _, [], hW', trodAll_mk1 (shut_bool Tryz.underlying4 _), (trodAll_cons_mk (Below.trod laidOut (by kernel_rfl) (of_decide_eq_true (by kernel_rfl)) k0 bel lt0) (trodAll_cons_mk (Below.trod laidOut (by kernel_rfl) (of_decide_eq_true (by kernel_rfl)) k1 bel lt1) trodAll_mk0)), rfl, bel.frame _, fun h => by cases h⟩
theorem said : Rows.WhyChecksSaid :=
 OpenClaim.holds_of_wide 6 Tryz.f6 rfl rfl rfl rfl rfl rfl rfl ⟨rfl, rfl, rfl, rfl, rfl⟩ rfl rfl rfl rfl rfl (by kernel_rfl) Tryz.func6 (by kernel_rfl)
  (of_decide_eq_true (by kernel_rfl)) (by unfold Func.isWrapper; first | (rw [if_pos (by decide +kernel)]; kernel_rfl) | (rw [if_neg (by decide +kernel)]; exact ⟨rfl, rfl⟩))
  (fun os started H enc _ => lifted os started H enc)
theorem plain (f : FuncId) (fn : Func) (hf : Tryz.pinned.checked.prog.funcNamed Tryz.f6.name = some f) (hfn : Tryz.pinned.checked.prog.funcs[f]? = some fn) :
  true = Tryz.pinned.checked.prog.looks [] ∧ ∀ (j : Nat) t, fn.params[j]? = some t → Tryz.pinned.checked.prog.wantsStandIn t = false := by
 obtain rfl : f = 6 := Option.some.inj ((show Tryz.prog.funcNamed Tryz.f6.name = some 6 by kernel_rfl).symm.trans hf) |>.symm
 obtain rfl : fn = Tryz.f6 := (Option.some.inj (Tryz.func6.symm.trans hfn)).symm
 refine ⟨by kernel_rfl, fun j t ht => ?_⟩
 rw [Tryz.params6] at ht
 have hm : t ∈ ([26, 45] : List Nat) := by simpa using Array.mem_of_getElem? ht
 have hall : (([26, 45] : List Nat).all fun u => !Tryz.prog.wantsStandIn u) = true := by kernel_rfl
 exact (show Tryz.prog.wantsStandIn t = false by simpa using List.all_eq_true.1 hall t hm)
set_option maxRecDepth 100000 in
theorem card : Rows.WhyChecksCardSaid :=
 Claim7.holds_tied_plain_at .later [] _ _ _ _ said (fun _ h => by cases h) (by kernel_rfl) (fun _ h => by cases h) whyChecks_row_tie rfl ⟨rfl, rfl⟩ (by kernel_rfl) rfl plain (by kernel_rfl)
#print axioms card
end Go.Proofs.YtngdpnlgnpdkcaaGreatDoor.whyChecks
