/- Texts of one proof, put together: WM M2 T9 X9. -/
import Derived.Test.YtoaoienfggjepaaGreatDoorFL10
import Derived.Test.YtoaoienfggjepaaGreatDoorFL11
import Derived.Test.YtoaoienfggjepaaGreatDoorFL13
import Derived.Test.YtoaoienfggjepaaGreatDoorFL14
import Derived.Test.YtoaoienfggjepaaGreatDoorFL17
import Derived.Test.YtoaoienfggjepaaGreatDoorFL18

/- RunDoes: the law walked: where the script, or the kind, is long. -/
namespace Go.Proofs.YtoaoienfggjepaaGreatDoor
set_option linter.unusedSimpArgs false
set_option linter.unusedVariables false
open Go Go.RowKit

theorem rfprog_all (a1 a2 a3 : Option Addr) (c1 c2 c3 : Nat) (P : PP) (w : World) (h : ProgR w w.heap.size (.slice a1 P.vars.length c1) (.slice a2 P.funs.length c2) (.slice a3 P.stmts.length c3) P)
    (hz1 : ∀ s ∈ P.vars, s.size ≤ 1000000) (hz2 : ∀ s ∈ P.names, s.size ≤ 1000000) :
    Calls Tryz.prog 32 #[pval a1 a2 a3 c1 c2 c3 P] w fun e w' => Ext w w' ∧ ∃ (c : Nat) (p : Int), e = .returned (.agg #[.int .i64 (c : Int), .int .i64 p]) ∧ FaultIs P c p := by
  cases hb : P.big with
  | true => exact rfprog_big a1 a2 a3 c1 c2 c3 P w h hz1 hz2 hb
  | false => exact rfprog_no a1 a2 a3 c1 c2 c3 P w h hz1 hz2 hb
end Go.Proofs.YtoaoienfggjepaaGreatDoor



/- ConsMore: the law walked. -/
namespace Go.Proofs.YtoaoienfggjepaaGreatDoor
set_option linter.unusedSimpArgs false
set_option linter.unusedVariables false
open Go Go.RowKit

end Go.Proofs.YtoaoienfggjepaaGreatDoor



/- ConsTells: what is told, in numbers; the law where the program is not well. -/
namespace Go.Proofs.YtoaoienfggjepaaGreatDoor
set_option linter.unusedSimpArgs false
set_option linter.unusedVariables false
open Go Go.RowKit

/-- What a check that fails tells, in numbers. -/
theorem code_chk {ad : Nat → Addr} {P : PP} {w : World} {v : Value} (h : ErrIs ad P w v) (hw : ¬ P.Well) :
    ∃ c p, FaultIs P c p ∧ c ≠ 0 ∧ ∀ w1, Ext w w1 → AllErrs w1 ad → Calls Tryz.prog 85 #[v] w1 fun e w' => e = .returned (.tuple #[.int .i64 (c : Int), .int .i64 p]) ∧ Ext w1 w' := by
  rcases h with ⟨h3, rfl⟩ | ⟨h3, h4, rfl⟩ | ⟨h3, i, s, b, h4, rfl, hb⟩
  · have := P.err1_le
    exact ⟨P.err1, -1, .inl ⟨h3, rfl, rfl⟩, h3, fun w1 x hA => code_of w1 ad hA _ h3 (by omega)⟩
  · exact absurd ⟨h3, h4⟩ hw
  · have := P.stmtErr_le s
    exact ⟨P.stmtErr s, i, .inr (.inr ⟨h3, i, s, h4, rfl, rfl⟩), h4.2.1, fun w1 x hA => code_at w1 ad hA _ h4.2.1 (by omega) b _ (hb.ext x)⟩
theorem setE_le (P : PP) (l : List Int) : P.setE l ≤ 10 := by
  unfold PP.setE
  split
  · split <;> omega
  · exact chkE_le l
/-- What sets that are at fault tell, in numbers. -/
theorem code_sets {ad : Nat → Addr} {P : PP} {has : List (List Int)} {w : World} {v : Value} (h : SetsIs ad P has w v) (hb : ¬ (has.length = P.nodesV ∧ ∀ l ∈ has, P.setE l = 0)) :
    ∃ c p, SFaultIs P has c p ∧ c ≠ 0 ∧ ∀ w1, Ext w w1 → AllErrs w1 ad → Calls Tryz.prog 85 #[v] w1 fun e w' => e = .returned (.tuple #[.int .i64 (c : Int), .int .i64 p]) ∧ Ext w1 w' := by
  rcases h with ⟨h1, rfl⟩ | ⟨h1, h2, rfl⟩ | ⟨h1, i, l, b, h2, h3, h4, rfl, hB⟩
  · exact ⟨3, -1, .inl ⟨h1, rfl, rfl⟩, by decide, fun w1 x hA => code_of w1 ad hA 3 (by decide) (by decide)⟩
  · exact absurd ⟨h1, h2⟩ hb
  · have := setE_le P l
    exact ⟨P.setE l, i, .inr (.inr ⟨h1, i, l, h2, h3, h4, rfl, rfl⟩), h3, fun w1 x hA => code_at w1 ad hA _ h3 (by omega) b _ (hB.ext x)⟩
theorem SFaultIs.uniq {P : PP} {has : List (List Int)} {c d : Nat} {p q : Int} (h : SFaultIs P has c p) (g : SFaultIs P has d q) : c = d ∧ p = q := by
  rcases h with ⟨h1, h2, h3⟩ | ⟨h1, h2, h3, h4⟩ | ⟨h1, i, l, h2, h3, h4, h5, h6⟩ <;> rcases g with ⟨g1, g2, g3⟩ | ⟨g1, g2, g3, g4⟩ | ⟨g1, j, m, g2, g3, g4, g5, g6⟩
  · exact ⟨h2.trans g2.symm, h3.trans g3.symm⟩
  · exact absurd g1 h1
  · exact absurd g1 h1
  · exact absurd h1 g1
  · exact ⟨h3.trans g3.symm, h4.trans g4.symm⟩
  · exact absurd (h2 m (List.mem_of_getElem? g2)) g3
  · exact absurd h1 g1
  · exact absurd (g2 l (List.mem_of_getElem? h2)) h3
  · have hij : i = j := by
      rcases Nat.lt_trichotomy i j with k | k | k
      · exact absurd (g4 i l k h2) h3
      · exact k
      · exact absurd (h4 j m k g2) g3
    subst hij
    obtain rfl := Option.some.inj (h2.symm.trans g2)
    exact ⟨h5.trans g5.symm, h6.trans g6.symm⟩
end Go.Proofs.YtoaoienfggjepaaGreatDoor



/- FixLeast: the error and the fault; a round of rules where the program is not well, or the sets are at fault. -/
namespace Go.Proofs.YtoaoienfggjepaaGreatDoor
set_option linter.unusedSimpArgs false
set_option linter.unusedVariables false
open Go Go.RowKit

set_option maxRecDepth 100000 in
set_option maxHeartbeats 800000 in
theorem faulted2_any (w : World) (v : Value) (c p : Int) (h : ∀ w1, Ext w w1 → Calls Tryz.prog 85 #[v] w1 fun e w' => e = .returned (.tuple #[.int .i64 c, .int .i64 p]) ∧ Ext w1 w') :
    Calls Tryz.prog 35 #[v, .agg #[.int .i64 c, .int .i64 p]] w fun e w' => e = .returned (.bool true) ∧ Ext w w' := by
  obtain ⟨W, hW⟩ : ∃ W, W = w.alloc (.cells #[.int .i64 c, .int .i64 p] 63) := ⟨_, rfl⟩
  have HX : Hid (Ext w W) := hid (by rw [hW]; exact (Ext.refl _).alloc _)
  have HB : Hid (Blk W w.heap.size #[.int .i64 c, .int .i64 p] 63) := hid (by rw [hW]; exact Blk.new _ _ _)
  have HWe := hid hW
  have HC := hid (h W HX.out)
  clear hW h
  go_enter Tryz.func35, Tryz.ntmps35
  go_wp2_with fail
  rw [← HWe.out]
  refine HC.out.mono ?_
  intro e w1 hx
  obtain ⟨rfl, hx1⟩ := hx
  have d0 := (HB.out.ext hx1).av 0 rfl
  have d1 := (HB.out.ext hx1).av 1 rfl
  simp only [List.getElem_toArray, List.getElem_cons_zero, List.getElem_cons_succ] at d0 d1
  have HX1 := hid (HX.out.trans hx1)
  clear HC HB HWe HX hx1
  by_cases h0 : c = 0
  · subst h0
    go_wp2
    go_ret
    exact ⟨rfl, HX1.out⟩
  · go_wp2
    go_ret
    exact ⟨rfl, HX1.out⟩
theorem faulted2_at {w : World} {v : Value} {c : Nat} {p : Int} {ad : Nat → Addr} (hA : AllErrs w ad) (h : ∀ w1, Ext w w1 → AllErrs w1 ad → Calls Tryz.prog 85 #[v] w1 fun e w' => e = .returned (.tuple #[.int .i64 (c : Int), .int .i64 p]) ∧ Ext w1 w') :
    Calls Tryz.prog 35 #[v, .agg #[.int .i64 (c : Int), .int .i64 p]] w fun e w' => e = .returned (.bool true) ∧ Ext w w' :=
  faulted2_any w v c p fun w1 x => h w1 x (hA.ext x)

set_option maxRecDepth 100000 in
set_option maxHeartbeats 3200000 in
theorem fixround_of (a1 a2 a3 : Option Addr) (c1 c2 c3 : Nat) (P : PP) (ah : Option Addr) (N ch : Nat) (w : World) (Q : World → Value → Prop) (h : ∀ w1, Ext w w1 → Calls Tryz.prog 82 #[pval a1 a2 a3 c1 c2 c3 P, .slice ah N ch] w1 fun e w' => ∃ t x, e = .returned (.tuple #[.slice none 0 0, .iface t (.pointer (some x))]) ∧ Q w' (.iface t (.pointer (some x))) ∧ Ext w1 w') :
    Calls Tryz.prog 33 #[pval a1 a2 a3 c1 c2 c3 P, .slice ah N ch] w fun e w' => ∃ t x, e = .returned (.tuple #[.slice none 0 0, .iface t (.pointer (some x))]) ∧ Q w' (.iface t (.pointer (some x))) ∧ Ext w w' := by
  obtain ⟨W, hW⟩ : ∃ W, W = w.alloc (.cells (pcells a1 a2 a3 c1 c2 c3 P) 39) := ⟨_, rfl⟩
  have HX : Hid (Ext w W) := hid (by rw [hW]; exact (Ext.refl _).alloc _)
  have HBx : Hid (Blk W w.heap.size (pcells a1 a2 a3 c1 c2 c3 P) 39) := hid (by rw [hW]; exact Blk.new _ _ _)
  have HWe : Hid (W = w.alloc (.cells #[.slice a1 P.vars.length c1, .slice a2 P.funs.length c2, .slice a3 P.stmts.length c3] 39)) := hid (by rw [hW]; rfl)
  have HK := hid (h W HX.out)
  have d0 := HBx.out.av 0 rfl
  have d1 := HBx.out.av 1 rfl
  have d2 := HBx.out.av 2 rfl
  simp only [pcells, List.getElem_toArray, List.getElem_cons_zero, List.getElem_cons_succ] at d0 d1 d2
  rw [HWe.out] at d0 d1 d2
  unfold pval at HK ⊢
  clear hW h
  go_enter Tryz.func33, Tryz.ntmps33
  go_wp2_with fail
  rw [← HWe.out]
  refine HK.out.mono ?_
  intro e w1 hx
  obtain ⟨t, x, rfl, hi, hx1⟩ := hx
  have Hi := hid hi
  have Hx1 := hid (HX.out.trans hx1)
  clear HK hx1 hi d0 d1 d2
  go_wp2
  go_ret2
  exact ⟨t, x, rfl, Hi.out, Hx1.out⟩
theorem fixround_no (a1 a2 a3 : Option Addr) (c1 c2 c3 : Nat) (P : PP) (ah : Option Addr) (N ch : Nat) (w : World) (n0 : Nat) (ad : Nat → Addr) (h : PS0 w n0 ad a1 a2 a3 c1 c2 c3 P) (hn : n0 ≤ w.heap.size) (hw : ¬ P.Well) :
    Calls Tryz.prog 33 #[pval a1 a2 a3 c1 c2 c3 P, .slice ah N ch] w fun e w' => ∃ t x, e = .returned (.tuple #[.slice none 0 0, .iface t (.pointer (some x))]) ∧ ErrIs ad P w' (.iface t (.pointer (some x))) ∧ Ext w w' :=
  fixround_of a1 a2 a3 c1 c2 c3 P ah N ch w (fun w' v => ErrIs ad P w' v) fun w1 x =>
    consedges_no a1 a2 a3 c1 c2 c3 P _ w1 w1.heap.size ad (h.on hn x).errs (h.on hn x).prog h.z1 h.z2 hw
theorem fixround_bad (a1 a2 a3 : Option Addr) (c1 c2 c3 : Nat) (P : PP) (ah : Option Addr) (ch : Nat) (has : List (List Int)) (w : World) (ad : Nat → Addr) (h : PW w w.heap.size ad a1 a2 a3 c1 c2 c3 P) (hS : ErrS w ad) (hh : SetsR w w.heap.size (.slice ah has.length ch) has) (hb : ¬ (has.length = P.nodesV ∧ ∀ l ∈ has, P.setE l = 0)) :
    Calls Tryz.prog 33 #[pval a1 a2 a3 c1 c2 c3 P, .slice ah has.length ch] w fun e w' => ∃ t x, e = .returned (.tuple #[.slice none 0 0, .iface t (.pointer (some x))]) ∧ SetsIs ad P has w' (.iface t (.pointer (some x))) ∧ Ext w w' :=
  fixround_of a1 a2 a3 c1 c2 c3 P ah has.length ch w (fun w' v => SetsIs ad P has w' v) fun w1 x =>
    consedges_bad a1 a2 a3 c1 c2 c3 P _ has w1 w1.heap.size ad ((h.ext x).lift x.size) (hS.ext x) ((hh.ext x).lift x.size) hb
theorem SetsIs.ext {ad : Nat → Addr} {P : PP} {has : List (List Int)} {w w' : World} {v : Value} (h : SetsIs ad P has w v) (x : Ext w w') : SetsIs ad P has w' v := by
  rcases h with h | h | ⟨h1, i, l, b, h2, h3, h4, h5, h6⟩
  · exact .inl h
  · exact .inr (.inl h)
  · exact .inr (.inr ⟨h1, i, l, b, h2, h3, h4, h5, h6.ext x⟩)
end Go.Proofs.YtoaoienfggjepaaGreatDoor

