/- FixSound: whatever the program and the script, the law returns true, and its arguments read as they did: as the given card of that statement says it, with no further condition. -/
import Derived.Test.YtoaoienfggjepaaGreatDoorFS02
import Derived.Test.YtoaoienfggjepaaGreatDoorFS07
import Derived.Test.YtoaoienfggjepaaGreatDoorFS09
import Derived.Test.YtoaoienfggjepaaGreatDoorFS16
import Derived.Test.YtoaoienfggjepaaGreatDoorFS17
import Derived.Test.YtoaoienfggjepaaGreatDoorCards
import Derived.Test.YtoaoienfggjepaaGreatDoorTie
import Derived.ProofKit
import Derived.LaidMore
import Derived.OpenShut
import Derived.Below
import Derived.Stop.Joined
import Derived.SevenTiedAt
import Derived.Lib.SmallJoins
import Derived.Lay
import Derived.MakeChecks

/- What run.Do answers, whole (with the state's rows, or the error to the letter). -/
namespace Go.Proofs.YtoaoienfggjepaaGreatDoor
set_option linter.unusedSimpArgs false
set_option linter.unusedVariables false
open Go Go.RowKit

theorem ErrIs.ext {ad : Nat → Addr} {P : PP} {w w' : World} {v : Value} (h : ErrIs ad P w v) (x : Ext w w') : ErrIs ad P w' v := by
  rcases h with h | h | ⟨h1, i, s, b, h2, h3, h4⟩
  · exact .inl h
  · exact .inr (.inl h)
  · exact .inr (.inr ⟨h1, i, s, b, h2, h3, h4.ext x⟩)
theorem RunNo.ext {ad : Nat → Addr} {P : PP} {l : List Int} {w w' : World} {v : Value} (h : RunNo ad P l w v) (x : Ext w w') : RunNo ad P l w' v := by
  rcases h with ⟨h1, h2⟩ | h | ⟨h1, h2, h3, i, b, h4, h5, h6⟩
  · exact .inl ⟨h1, h2.ext x⟩
  · exact .inr (.inl h)
  · exact .inr (.inr ⟨h1, h2, h3, i, b, h4, h5, h6.ext x⟩)
theorem RunNo.keep {X : Nat → Prop} {ad : Nat → Addr} {P : PP} {l : List Int} {w w' : World} {v : Value} (h : RunNo ad P l w v) (k : Keep X w w') (hX : ∀ i, X i → ∃ c, Blk w i c 52) : RunNo ad P l w' v := by
  rcases h with ⟨h1, h2⟩ | h | ⟨h1, h2, h3, i, b, h4, h5, h6⟩
  · exact .inl ⟨h1, h2.keep k hX⟩
  · exact .inr (.inl h)
  · exact .inr (.inr ⟨h1, h2, h3, i, b, h4, h5, h6.keep k fun e => by
      obtain ⟨d, hd⟩ := hX b e
      exact Blk.ty_ne h6 hd (by decide) rfl⟩)
theorem RnRows.keep {X : Nat → Prop} {w w' : World} {n0 : Nat} {vv tv pv : Value} {s : Rn} (h : RnRows w n0 vv tv pv s) (k : Keep X w w') (hX : ∀ i, X i → ∃ c, Blk w i c 52) : RnRows w' n0 vv tv pv s := by
  refine ⟨row_keep h.vars k fun i hi e => ?_, row_keep h.things k fun i hi e => ?_, row_keep h.places k fun i hi e => ?_⟩
  · obtain ⟨c, hc⟩ := own_ty h.vars hi
    obtain ⟨d, hd⟩ := hX i e
    exact Blk.ty_ne hc hd (by decide) rfl
  · obtain ⟨c, hc⟩ := own_ty h.things hi
    obtain ⟨d, hd⟩ := hX i e
    exact Blk.ty_ne hc hd (by decide) rfl
  · obtain ⟨c, hc⟩ := own_ty h.places hi
    obtain ⟨d, hd⟩ := hX i e
    exact Blk.ty_ne hc hd (by decide) rfl
/-- What run.Do answers. -/
def RdOut (ad : Nat → Addr) (P : PP) (l : List Int) (n0 : Nat) (w : World) (a1 a2 a3 : Option Addr) (m1 m2 m3 c1 c2 c3 : Nat) (ev : Value) : Prop :=
  (P.Runs l ∧ ev = .nilIface ∧ RnRows w n0 (.slice a1 m1 c1) (.slice a2 m2 c2) (.slice a3 m3 c3) (Rn.run P (l.map Int.toNat))) ∨
  (¬ P.Runs l ∧ m1 = 0 ∧ m2 = 0 ∧ m3 = 0 ∧ RunNo ad P l w ev)
theorem RdOut.ext {ad : Nat → Addr} {P : PP} {l : List Int} {n0 : Nat} {w w' : World} {a1 a2 a3 : Option Addr} {m1 m2 m3 c1 c2 c3 : Nat} {ev : Value} (h : RdOut ad P l n0 w a1 a2 a3 m1 m2 m3 c1 c2 c3 ev) (x : Ext w w') : RdOut ad P l n0 w' a1 a2 a3 m1 m2 m3 c1 c2 c3 ev := by
  rcases h with ⟨h1, h2, h3⟩ | ⟨h1, h2, h3, h4, h5⟩
  · exact .inl ⟨h1, h2, h3.ext x⟩
  · exact .inr ⟨h1, h2, h3, h4, h5.ext x⟩
theorem RdOut.keep {X : Nat → Prop} {ad : Nat → Addr} {P : PP} {l : List Int} {n0 : Nat} {w w' : World} {a1 a2 a3 : Option Addr} {m1 m2 m3 c1 c2 c3 : Nat} {ev : Value} (h : RdOut ad P l n0 w a1 a2 a3 m1 m2 m3 c1 c2 c3 ev) (k : Keep X w w') (hX : ∀ i, X i → ∃ c, Blk w i c 52) : RdOut ad P l n0 w' a1 a2 a3 m1 m2 m3 c1 c2 c3 ev := by
  rcases h with ⟨h1, h2, h3⟩ | ⟨h1, h2, h3, h4, h5⟩
  · exact .inl ⟨h1, h2, h3.keep k hX⟩
  · exact .inr ⟨h1, h2, h3, h4, h5.keep k hX⟩
theorem rundo_whole (a1 a2 a3 : Option Addr) (c1 c2 c3 : Nat) (P : PP) (va : Value) (l : List Int) (w : World) (ad : Nat → Addr) (hE : ErrsP w ad) (hP : ProgR w w.heap.size (.slice a1 P.vars.length c1) (.slice a2 P.funs.length c2) (.slice a3 P.stmts.length c3) P) (hI : IntsR w w.heap.size va l)
    (hz1 : ∀ s ∈ P.vars, s.size ≤ 1000000) (hz2 : ∀ s ∈ P.names, s.size ≤ 1000000) :
    Calls Tryz.prog 27 #[pval a1 a2 a3 c1 c2 c3 P, va] w fun e w' => Ext w w' ∧ ∃ b1 b2 b3 m1 m2 m3 d1 d2 d3 ev, e = .returned (.tuple #[.agg #[.slice b1 m1 d1, .slice b2 m2 d2, .slice b3 m3 d3], ev]) ∧ RdOut ad P l w.heap.size w' b1 b2 b3 m1 m2 m3 d1 d2 d3 ev := by
  have no : ¬ P.Runs l → (Calls Tryz.prog 27 #[pval a1 a2 a3 c1 c2 c3 P, va] w fun e w' => Ext w w' ∧ ∃ v, e = .returned (.tuple #[zeroS, v]) ∧ RunNo ad P l w' v) → Calls Tryz.prog 27 #[pval a1 a2 a3 c1 c2 c3 P, va] w fun e w' => Ext w w' ∧ ∃ b1 b2 b3 m1 m2 m3 d1 d2 d3 ev, e = .returned (.tuple #[.agg #[.slice b1 m1 d1, .slice b2 m2 d2, .slice b3 m3 d3], ev]) ∧ RdOut ad P l w.heap.size w' b1 b2 b3 m1 m2 m3 d1 d2 d3 ev := fun hn h => h.mono fun e w' ⟨hx, v, he, hr⟩ =>
    ⟨hx, none, none, none, 0, 0, 0, 0, 0, 0, v, he, .inr ⟨hn, rfl, rfl, rfl, hr⟩⟩
  by_cases h1 : P.err1 = 0 ∧ P.allWell
  · by_cases h2 : 2000 < l.length
    · exact no (fun h => by have := h.2.2.1; omega) (rundo_full a1 a2 a3 c1 c2 c3 P va l w ad hE hP hI hz1 hz2 h1 h2)
    · by_cases h3 : ∃ x ∈ l, P.badk x = true
      · exact no (fun h => by obtain ⟨x, hx, h4⟩ := h3; rw [h.2.2.2 x hx] at h4; cases h4) (rundo_bound a1 a2 a3 c1 c2 c3 P va l w ad hE hP hI hz1 hz2 h1 (by omega) h3)
      · have hr : P.Runs l := ⟨h1.1, h1.2, by omega, fun x hx => by
          cases hb : P.badk x with
          | false => rfl
          | true => exact absurd ⟨x, hx, hb⟩ h3⟩
        refine (rundo_ok a1 a2 a3 c1 c2 c3 P va l w ad hE hP hI hz1 hz2 hr).mono fun e w' ⟨hx, vv, tv, pv, he, hR⟩ => ?_
        obtain ⟨b1, e1, rfl⟩ := row_form hR.vars
        obtain ⟨b2, e2, rfl⟩ := row_form hR.things
        obtain ⟨b3, e3, rfl⟩ := row_form hR.places
        exact ⟨hx, _, _, _, _, _, _, _, _, _, _, he, .inl ⟨hr, rfl, hR⟩⟩
  · exact no (fun h => h1 ⟨h.1, h.2.1⟩) (rundo_bad a1 a2 a3 c1 c2 c3 P va l w ad hE hP hI hz1 hz2 h1)
end Go.Proofs.YtoaoienfggjepaaGreatDoor



/- RunDoes: numbers copied and a program run, whatever order Go takes. -/
namespace Go.Proofs.YtoaoienfggjepaaGreatDoor
set_option linter.unusedSimpArgs false
set_option linter.unusedVariables false
open Go Go.RowKit

set_option maxRecDepth 100000 in
set_option maxHeartbeats 800000 in
theorem ownintsR_more (v : Value) (l : List Int) (w : World) (n0 : Nat) (h : IntsR w n0 v l) (hl : l.length ≤ 3000) :
    Calls Tryz.prog 11 #[v] w fun e w' => ∃ v', e = .returned v' ∧ Ext w w' ∧ w'.ownsRow w.heap.size 3 1 v' l.length (icells l) := by
  obtain ⟨a, cap, rfl, h'⟩ := id h
  have Hs := hid h.src
  have hl2 : 0 + l.length ≤ 1000000 := by omega
  clear h h'
  go_enter Tryz.func11, Tryz.ntmps11
  go_wp2_with (at_builtin; refine wpList_append_src w.heap.size (Nat.le_refl _) 22 3 (.int .i64 0) 1 8 Tryz.underlying22 ints_info rfl (by omega) (by omega) rfl _ _ rfl (.slice none 0 0) 0 [] rfl (World.ownsRow_nil _ _ _ _) a l.length cap (icells l) rfl Hs.out hl2 ?_; intro v' w' h1 h2 h4; have h3 := Keep.new (Ext.refl w) h2 (fun k hk => by cases hk))
  go_ret
  exact ⟨_, rfl, h3, by simpa using h1⟩


/-- What a run answered, whole. -/
def RdNew (W : World) (ad : Nat → Addr) (P : PP) (l : List Int) (t : Value) (w : World) : Prop := (∃ a1 n1 c1 a2 n2 c2 a3 n3 c3 ev, t = .tuple #[.agg #[.slice a1 n1 c1, .slice a2 n2 c2, .slice a3 n3 c3], ev] ∧ RdOut ad P l W.heap.size w a1 a2 a3 n1 n2 n3 c1 c2 c3 ev) ∧ Ext W w
theorem RdNew.ext {W w w' : World} {ad : Nat → Addr} {P : PP} {l : List Int} {t : Value} (h : RdNew W ad P l t w) (x : Ext w w') : RdNew W ad P l t w' := by
  obtain ⟨⟨a1, n1, c1, a2, n2, c2, a3, n3, c3, ev, h1, h2⟩, h3⟩ := h
  exact ⟨⟨a1, n1, c1, a2, n2, c2, a3, n3, c3, ev, h1, h2.ext x⟩, h3.trans x⟩
/-- .. and where its state lies. -/
structure RdAt (W : World) (ad : Nat → Addr) (P : PP) (l : List Int) (b : Nat) (a1 a2 a3 : Option Addr) (n1 n2 n3 c1 c2 c3 : Nat) (ev : Value) (w : World) : Prop where
  blk : Blk w b #[.slice a1 n1 c1, .slice a2 n2 c2, .slice a3 n3 c3] 52
  out : RdOut ad P l W.heap.size w a1 a2 a3 n1 n2 n3 c1 c2 c3 ev
  ext : Ext W w
theorem RdAt.on {W w w' : World} {ad : Nat → Addr} {P : PP} {l : List Int} {b : Nat} {a1 a2 a3 : Option Addr} {n1 n2 n3 c1 c2 c3 : Nat} {ev : Value} (h : RdAt W ad P l b a1 a2 a3 n1 n2 n3 c1 c2 c3 ev w) (x : Ext w w') : RdAt W ad P l b a1 a2 a3 n1 n2 n3 c1 c2 c3 ev w' := ⟨h.blk.ext x, h.out.ext x, h.ext.trans x⟩
theorem RdNew.tup {W w : World} {ad : Nat → Addr} {P : PP} {l : List Int} {t : Value} (h : RdNew W ad P l t w) : ∃ u v, t = .tuple #[u, v] := by
  obtain ⟨⟨a1, n1, c1, a2, n2, c2, a3, n3, c3, ev, h1, h2⟩, h3⟩ := h
  exact ⟨_, _, h1⟩
theorem RnRows.low {w : World} {n0 n1 : Nat} {vv tv pv : Value} {s : Rn} (h : RnRows w n0 vv tv pv s) (hn : n1 ≤ n0) : RnRows w n1 vv tv pv s := ⟨own_low h.vars hn, own_low h.things hn, own_low h.places hn⟩
theorem RdOut.low {ad : Nat → Addr} {P : PP} {l : List Int} {n0 n1 : Nat} {w : World} {a1 a2 a3 : Option Addr} {m1 m2 m3 c1 c2 c3 : Nat} {ev : Value} (h : RdOut ad P l n0 w a1 a2 a3 m1 m2 m3 c1 c2 c3 ev) (hn : n1 ≤ n0) : RdOut ad P l n1 w a1 a2 a3 m1 m2 m3 c1 c2 c3 ev := by
  rcases h with ⟨h1, h2, h3⟩ | h
  · exact .inl ⟨h1, h2, h3.low hn⟩
  · exact .inr h
theorem FaultIs.zero {P : PP} {p : Int} (h : FaultIs P 0 p) : P.err1 = 0 ∧ P.allWell ∧ p = -1 := by
  rcases h with ⟨h1, h2, _⟩ | ⟨h1, h2, _, h4⟩ | ⟨h1, i, s, h2, h3, _⟩
  · exact absurd h2.symm h1
  · exact ⟨h1, h2, h4⟩
  · exact absurd h3.symm h2.2.1
end Go.Proofs.YtoaoienfggjepaaGreatDoor



/- The reference's fault of a program: the walk. -/
namespace Go.Proofs.YtoaoienfggjepaaGreatDoor
set_option linter.unusedSimpArgs false
set_option linter.unusedVariables false
open Go Go.RowKit

end Go.Proofs.YtoaoienfggjepaaGreatDoor



/- RunDoes: the law walked: where the script, or the kind, is long. -/
namespace Go.Proofs.YtoaoienfggjepaaGreatDoor
set_option linter.unusedSimpArgs false
set_option linter.unusedVariables false
open Go Go.RowKit

end Go.Proofs.YtoaoienfggjepaaGreatDoor



/- RunDoes: a script that may not be done. -/
namespace Go.Proofs.YtoaoienfggjepaaGreatDoor
set_option linter.unusedSimpArgs false
set_option linter.unusedVariables false
open Go Go.RowKit

end Go.Proofs.YtoaoienfggjepaaGreatDoor



/- RunDoes: a script that is done. -/
namespace Go.Proofs.YtoaoienfggjepaaGreatDoor
set_option linter.unusedSimpArgs false
set_option linter.unusedVariables false
open Go Go.RowKit

end Go.Proofs.YtoaoienfggjepaaGreatDoor



/- FixSound: the law walked. -/
namespace Go.Proofs.YtoaoienfggjepaaGreatDoor
set_option linter.unusedSimpArgs false
set_option linter.unusedVariables false
open Go Go.RowKit

theorem thing_kind {n : Nat} : ¬ (Vl.thing n).kind.toList = vkNone := by
  rw [thing_kind1]; decide
theorem RunNo.form {ad : Nat → Addr} {P : PP} {l : List Int} {w : World} {v : Value} (h : RunNo ad P l w v) : ∃ t x, v = .iface t (.pointer (some x)) := by
  rcases h with ⟨hb, hr⟩ | ⟨_, _, _, rfl⟩ | ⟨_, _, _, i, b, _, rfl, _⟩
  · rcases hr.form with ⟨_, h1⟩ | ⟨h1, _⟩
    · exact absurd h1 hb
    · exact h1
  · exact ⟨_, _, rfl⟩
  · exact ⟨_, _, rfl⟩
set_option maxRecDepth 100000 in
set_option maxHeartbeats 6400000 in
theorem fixsoundlaw_any (a1 a2 a3 : Option Addr) (c1 c2 c3 : Nat) (P : PP) (va : Value) (l : List Int) (w : World) (ad : Nat → Addr) (hE : ErrsP w ad) (hS : ErrS w ad) (hP : ProgR w w.heap.size (.slice a1 P.vars.length c1) (.slice a2 P.funs.length c2) (.slice a3 P.stmts.length c3) P) (hI : IntsR w w.heap.size va l) :
    Calls Tryz.prog 5 #[pval a1 a2 a3 c1 c2 c3 P, va] w fun e w' => e = .returned (.bool true) ∧ Ext w w' := by
  have hil := hI.len
  obtain ⟨aa, ca, rfl, _⟩ := id hI
  have HI := hid hI
  clear hI
  have HE := hid hE
  have HS := hid hS
  have HP := hid hP
  obtain ⟨W1, hW1⟩ : ∃ W1, W1 = w.alloc (.cells (pcells a1 a2 a3 c1 c2 c3 P) 39) := ⟨_, rfl⟩
  have HX1 : Hid (Ext w W1) := hid (by rw [hW1]; exact (Ext.refl _).alloc _)
  have HB1 : Hid (Blk W1 w.heap.size (pcells a1 a2 a3 c1 c2 c3 P) 39) := hid (by rw [hW1]; exact Blk.new _ _ _)
  have HR := hid (fixed_any W1 ad (hE.ext HX1.out) (hS.ext HX1.out))
  have HW1 : Hid (W1 = w.alloc (.cells #[.slice a1 P.vars.length c1, .slice a2 P.funs.length c2, .slice a3 P.stmts.length c3] 39)) := hid (by rw [hW1]; rfl)
  unfold pval
  clear hE hS hP hW1
  go_enter Tryz.func5, Tryz.ntmps5
  go_wp2_with fail
  rw [← HW1.out]
  refine HR.out.mono ?_
  intro e w1 hx
  obtain ⟨rfl, hx1⟩ := hx
  have HL := hid (large_q a1 a2 a3 c1 c2 c3 25 (by omega) P w1 w.heap.size (HP.out.ext (HX1.out.trans hx1)))
  rw [show ((25 : Nat) : Int) = (25 : Int) from rfl] at HL
  unfold pval at HL
  have HX1' := hid (HX1.out.trans hx1)
  have HBp1 := hid (HB1.out.ext hx1)
  have p0 := HBp1.out.av 0 rfl
  have p1 := HBp1.out.av 1 rfl
  have p2 := HBp1.out.av 2 rfl
  simp only [pcells, List.getElem_toArray, List.getElem_cons_zero, List.getElem_cons_succ] at p0 p1 p2
  clear HR hx1
  go_wp2_with fail
  refine HL.out.mono ?_
  intro e w2 hx
  obtain ⟨r, rfl, hr, hsm, hx2⟩ := hx
  have HX2 := hid (HX1'.out.trans hx2)
  have HBp := hid (HBp1.out.ext hx2)
  clear HL hx2 p0 p1 p2
  rcases (by omega : r = 1 ∨ r = 0) with rfl | rfl
  · clear hsm hr
    go_wp2
    go_ret
    exact ⟨rfl, HX2.out⟩
  have HSm := hid (hsm rfl).1
  have HQl := hid (hsm rfl).2
  clear hsm hr
  rcases Nat.lt_or_ge 200 l.length with h200 | h200
  · go_wp2
    go_ret
    exact ⟨rfl, HX2.out⟩
  obtain ⟨w2', hw2'⟩ : ∃ w2', w2' = w2 := ⟨_, rfl⟩
  subst hw2'
  have HX2' := hid HX2.out
  have HBp' := hid HBp.out
  have hz1 : ∀ s ∈ P.vars, s.size ≤ 1000000 := fun s hs => by have := HSm.out.vs s hs; omega
  have hz2 : ∀ s ∈ P.names, s.size ≤ 1000000 := fun s hs => by
    obtain ⟨f, hf, rfl⟩ := List.mem_map.1 hs
    have := (HSm.out.fs f hf).1
    omega
  have Hz1 := hid hz1
  have Hz2 := hid hz2
  have HPS := hid (show PS0 w2' w2'.heap.size ad a1 a2 a3 c1 c2 c3 P from ⟨HE.out.ext HX2'.out, (HP.out.ext HX2'.out).lift HX2'.out.size, Hz1.out, Hz2.out⟩)
  clear hz1 hz2
  have HQ := hid (ownprogram_any a1 a2 a3 c1 c2 c3 P w2' HPS.out.prog HSm.out)
  have p0 := HBp'.out.av 0 rfl
  have p1 := HBp'.out.av 1 rfl
  have p2 := HBp'.out.av 2 rfl
  simp only [pcells, List.getElem_toArray, List.getElem_cons_zero, List.getElem_cons_succ] at p0 p1 p2
  unfold pval at HQ
  go_wp2_with fail
  refine HQ.out.mono ?_
  intro e w3 hx
  obtain ⟨hx3, b1, b2, b3, d1, d2, d3, rfl, hq⟩ := hx
  have HX3 := hid (HX2'.out.trans hx3)
  have Hx3 := hid hx3
  have Hq3 := hid hq
  clear HQ hx3 hq p0 p1 p2
  obtain ⟨W9, hW9⟩ : ∃ W9, W9 = w3.alloc (.cells (pcells b1 b2 b3 d1 d2 d3 P) 39) := ⟨_, rfl⟩
  have hx9 : Ext w3 W9 := by rw [hW9]; exact (Ext.refl _).alloc _
  have HXw := hid (HX3.out.trans hx9)
  have Hw9 := hid (Hx3.out.trans hx9)
  have HB6 : Hid (Blk W9 w3.heap.size (pcells b1 b2 b3 d1 d2 d3 P) 39) := hid (by rw [hW9]; exact Blk.new _ _ _)
  have HW9 : Hid (W9 = w3.alloc (.cells #[.slice b1 P.vars.length d1, .slice b2 P.funs.length d2, .slice b3 P.stmts.length d3] 39)) := hid (by rw [hW9]; rfl)
  have HPP9 := hid (show PS0 W9 W9.heap.size ad b1 b2 b3 d1 d2 d3 P from ⟨HE.out.ext HXw.out, (Hq3.out.ext hx9).lift hx9.size, Hz1.out, Hz2.out⟩)
  have HS9 := hid (HS.out.ext HXw.out)
  clear hx9 hW9
  have H200 := hid h200
  clear h200
  rcases Classical.em P.Well with hw | hw
  · obtain ⟨n, S, hL⟩ := least_exists hw
    have hgood := hL.good hw
    have HSl := hid hgood.2.1
    have Hw := hid hw
    have HLe := hid hL
    obtain ⟨s, hs⟩ : ∃ s, s = Rn.run P (l.map Int.toNat) := ⟨_, rfl⟩
    have HSn : Hid (Sound P S s) := hid (by rw [hs]; exact Sound.run hw (hL.closed hw) _)
    have Hsd := hid hs
    have hS126 : S.length ≤ 126 := by
      have h1 := hw.few
      have h2 := nodesV_le P hw
      have := HSl.out
      omega
    have HL := hid (fixleast_ok b1 b2 b3 d1 d2 d3 P W9 ad (HPP9.out.pw hw) HS9.out n S hL)
    rw [← HSl.out] at HL
    unfold pval at HL
    clear hw hgood hL hs
    go_wp2_with fail
    rw [← HW9.out]
    refine HL.out.mono ?_
    intro e w4 hx
    obtain ⟨a, c, rfl, hs4, hx4⟩ := hx
    have Hs4 := hid hs4
    have HZ4 := hid hx4
    have HP4 := hid (HPP9.out.on (Nat.le_refl _) hx4)
    have HI4 : Hid (IntsR w4 w.heap.size (.slice aa l.length ca) l) := hid (HI.out.old ((HXw.out.trans hx4).old _))
    have HOwn : ∀ wa, Ext w4 wa → Hid (Calls Tryz.prog 11 #[.slice aa l.length ca] wa fun e w' => ∃ v, e = .returned v ∧ Ext wa w' ∧ IntsNew w4 l v w') := fun wa x => hid ((ownintsR_more (.slice aa l.length ca) l wa w.heap.size (HI4.out.old (x.old _)) (by have := H200.out; omega)).mono fun e w' ⟨v, he, hx, hr⟩ => ⟨v, he, hx, (row_form hr).imp fun a h => ⟨_, h⟩, IntsR.own hr (Nat.le_refl _), x.trans hx⟩)
    have HDo : ∀ wa, Ext w4 wa → ∀ v, IntsR wa wa.heap.size v l → Hid (Calls Tryz.prog 27 #[.agg #[.slice b1 P.vars.length d1, .slice b2 P.funs.length d2, .slice b3 P.stmts.length d3], v] wa fun e w' => Ext wa w' ∧ ∃ t, e = .returned t ∧ RdNew w4 ad P l t w') := fun wa x v hv => hid ((rundo_whole b1 b2 b3 d1 d2 d3 P v l wa ad (HP4.out.errs.ext x) ((HP4.out.prog.ext x).lift x.size) hv Hz1.out Hz2.out).mono fun e w' ⟨hx, s1, s2, s3, m1, m2, m3, e1, e2, e3, ev, he, hr⟩ => ⟨hx, _, he, ⟨_, _, _, _, _, _, _, _, _, _, rfl, hr.low x.size⟩, x.trans hx⟩)
    have h0 := (HB6.out.ext hx4).kc (X := fun _ => False) (fun e => e) 0 rfl
    have h1 := (HB6.out.ext hx4).kc (X := fun _ => False) (fun e => e) 1 rfl
    have h2 := (HB6.out.ext hx4).kc (X := fun _ => False) (fun e => e) 2 rfl
    simp only [pcells, List.getElem_toArray, List.getElem_cons_zero, List.getElem_cons_succ] at h0 h1 h2
    clear HL hs4 hx4
    go_wp2
    refine wp_flow (fun _ => False) (by kernel_rfl) (by kernel_rfl) ?_
    apply Flow.d 0 _ rfl (by simp) (by kernel_rfl)
    · intro w1 hk; unfold does; go_simp; (try go_ints); exact DetR.mk
    simp only [List.getElem_toArray, List.getElem_cons_zero, List.getElem_cons_succ, Act.put, List.setIfInBounds_toArray, List.set_cons_zero, List.set_cons_succ]
    apply Flow.d 1 _ rfl (by simp) (by kernel_rfl)
    · intro w1 hk; unfold does; go_simp; (try go_ints); exact DetR.mk
    simp only [List.getElem_toArray, List.getElem_cons_zero, List.getElem_cons_succ, Act.put, List.setIfInBounds_toArray, List.set_cons_zero, List.set_cons_succ]
    refine Flow.par3j 2 3 4 5 6 7 _ _ _ _ _ _ rfl rfl rfl rfl rfl rfl (by decide) (by decide) (by decide) (by decide) (by decide) (by simp) (by simp) (by simp) (fun _ _ h => by cases h) (fun _ _ h => by cases h) (fun _ _ h => by cases h) (fun _ _ h => by cases h) (fun _ _ h => by cases h) (fun _ _ h => by cases h)
      (by kernel_rfl) (by kernel_rfl) (by kernel_rfl) (by kernel_rfl) (by kernel_rfl) (by kernel_rfl) (by kernel_rfl) (by kernel_rfl) (by kernel_rfl) (by kernel_rfl) (by kernel_rfl) (by kernel_rfl) (by kernel_rfl) (by kernel_rfl) (by kernel_rfl) (by kernel_rfl)
      (StNew w4) (IntsNew w4 l) (fun u v w' => StNew w4 u w' ∧ IntsNew w4 l v w') (fun _ t w' => RdNew w4 ad P l t w') (fun u _ t w' => StNew w4 u w' ∧ RdNew w4 ad P l t w') IsTup id tup0 tup1
      (fun _ _ _ h y => h.ext y) (fun _ _ _ h y => h.ext y) (fun _ _ _ _ h y => ⟨h.1.ext y, h.2.ext y⟩) (fun _ _ _ _ h y => h.ext y) (fun _ _ _ _ _ h y => ⟨h.1.ext y, h.2.ext y⟩)
      (fun _ _ _ h => h.tup) (fun _ _ _ _ h => h.2.tup) ?_ ?_ ?_ ?_ ?_ ?_ ?_ ?_ ?_ ?_ ?_
    · intro wa hC hk
      unfold does
      go_simp
      exact ⟨hk.alloc _, StNew.mk hC⟩
    · intro wa hC hk
      unfold does
      go_simp
      refine CallR.act ((HOwn wa hC).out.mono ?_)
      rintro e wb ⟨v, rfl, hx, hN⟩
      exact ⟨_, rfl, (hC.trans hx).keep _, hN⟩
    · rintro _ wa hN hk
      unfold does
      go_simp
      exact ⟨hk.alloc _, StNew.mk hN.2.2, hN.ext ((Ext.refl _).alloc _)⟩
    · rintro _ wa hS hk
      unfold does
      go_simp
      refine CallR.act ((HOwn wa hS.2).out.mono ?_)
      rintro e wb ⟨v, rfl, hx, hN⟩
      exact ⟨_, rfl, (hS.2.trans hx).keep _, hS.ext hx, hN⟩
    · rintro _ wa ⟨⟨a, n, c, rfl⟩, hN, hx⟩ hk
      have HN := hid hN
      clear hN
      unfold does
      go_simp
      refine CallR.act ((HDo wa hx _ HN.out).out.mono ?_)
      rintro e wb ⟨hx2, t, rfl, hR⟩
      exact ⟨_, rfl, (hx.trans hx2).keep _, hR⟩
    · rintro _ _ wa ⟨hS, ⟨a, n, c, rfl⟩, hN, hx⟩ hk
      have HN := hid hN
      clear hN
      unfold does
      go_simp
      refine CallR.act ((HDo wa hx _ HN.out).out.mono ?_)
      rintro e wb ⟨hx2, t, rfl, hR⟩
      exact ⟨_, rfl, (hx.trans hx2).keep _, hS.ext hx2, hR⟩
    · rintro _ _ wa ⟨u, v, rfl⟩ hk
      unfold does
      go_simp
      exact DetR.mk
    · rintro _ _ wa ⟨u, v, rfl⟩ hk
      unfold does
      go_simp
      exact DetR.mk
    · rintro _ _ wa ⟨u, v, rfl⟩ hk
      unfold does
      go_simp
      exact DetR.mk
    · rintro _ _ wa hR hk
      unfold does
      go_simp
      exact ⟨hk.alloc _, StNew.mk hR.2, hR.ext ((Ext.refl _).alloc _)⟩
    rintro _ _ _ ⟨_, ⟨⟨bqA, rfl, _, Hq0⟩, _⟩, ⟨s1A, m1A, d1A, s2A, m2A, d2A, s3A, m3A, d3A, evA, rfl, _⟩, _⟩
    simp only [List.getElem_toArray, List.getElem_cons_zero, List.getElem_cons_succ, Act.put, List.setIfInBounds_toArray, List.set_cons_zero, List.set_cons_succ]
    have HbqA := hid Hq0
    clear Hq0
    simp only [id, tup0, tup1, Array.getD_eq_getD_getElem?, List.getElem?_toArray, List.getElem?_cons_zero, List.getElem?_cons_succ, Option.getD_some]
    refine Flow.one 8 _ rfl (by kernel_rfl) (fun _ w' => RdAt w4 ad P l bqA s1A s2A s3A m1A m2A m3A d1A d2A d3A evA w') (fun _ _ _ h y => h.on y) ?_ ?_
    · rintro wa ⟨⟨⟨b', eb, hB, _⟩, _⟩, ⟨t1, p1', e1, t2, p2', e2, t3, p3', e3, ev', et, hO⟩, hx⟩ hk
      obtain rfl : bqA = b' := by simpa using eb
      simp only [Value.tuple.injEq, Array.mk.injEq, List.cons.injEq, Value.agg.injEq, Value.slice.injEq, and_true] at et
      obtain ⟨⟨⟨rfl, rfl, rfl⟩, ⟨rfl, rfl, rfl⟩, ⟨rfl, rfl, rfl⟩⟩, rfl⟩ := et
      have z0 := hB.av 0 rfl
      have z1 := hB.av 1 rfl
      have z2 := hB.av 2 rfl
      have f0 := hB.free 0
      have f1 := hB.free 1
      have f2 := hB.free 2
      have hB2 := store3 (v0 := .slice s1A m1A d1A) (v1 := .slice s2A m2A d2A) (v2 := .slice s3A m3A d3A) hB
      have hK2 := store3_keep wa bqA (.slice s1A m1A d1A) (.slice s2A m2A d2A) (.slice s3A m3A d3A)
      have hx2 := Keep.new hx hK2 fun q e => by subst e; exact HbqA.out
      have hO2 := hO.keep hK2 fun q e => by subst e; exact ⟨_, hB⟩
      simp only [zcells, List.getElem_toArray, List.getElem_cons_zero, List.getElem_cons_succ] at z0 z1 z2
      clear hk eb
      unfold does
      go_simp
      exact ⟨hx2.keep _, ⟨hB2, hO2, hx2⟩⟩
    rintro _ ⟨_, _⟩
    simp only [List.getElem_toArray, List.getElem_cons_zero, List.getElem_cons_succ, Act.put, List.setIfInBounds_toArray, List.set_cons_zero, List.set_cons_succ]
    apply Flow.d 9 _ rfl (by simp) (by kernel_rfl)
    · intro w1 hk; unfold does; go_simp; (try go_ints); exact DetR.mk
    simp only [List.getElem_toArray, List.getElem_cons_zero, List.getElem_cons_succ, Act.put, List.setIfInBounds_toArray, List.set_cons_zero, List.set_cons_succ]
    refine Flow.fin (by kernel_rfl) fun w5 hA5 hk5 => ?_
    have HA5 := hid hA5
    have HbA5 := hid HbqA.out
    clear hA5 hk5 HOwn HDo HbqA h0 h1 h2
    have HX5 := hid (HZ4.out.trans HA5.out.ext)
    have HXw5 := hid (HXw.out.trans HX5.out)
    by_cases hr : P.Runs l
    · obtain ⟨hev, hR5⟩ : evA = .nilIface ∧ RnRows w5 w4.heap.size (.slice s1A m1A d1A) (.slice s2A m2A d2A) (.slice s3A m3A d3A) s := by
        rcases HA5.out.out with ⟨_, h1, h2⟩ | ⟨h, _⟩
        · exact ⟨h1, by rw [Hsd.out]; exact h2⟩
        · exact absurd hr h
      subst hev
      obtain ⟨_, _, hz⟩ := row_form hR5.vars
      obtain ⟨rfl, rfl, rfl⟩ : s1A = _ ∧ m1A = s.vars.length ∧ d1A = _ := by simpa using hz
      obtain ⟨_, _, hz⟩ := row_form hR5.things
      obtain ⟨rfl, rfl, rfl⟩ : s2A = _ ∧ m2A = s.things.length ∧ d2A = _ := by simpa using hz
      obtain ⟨_, _, hz⟩ := row_form hR5.places
      obtain ⟨rfl, rfl, rfl⟩ : s3A = _ ∧ m3A = s.places.length ∧ d3A = _ := by simpa using hz
      have HR5 := hid hR5
      have htl : s.things.length ≤ 200 := by
        have h1 := Rn.run_len hr.2.1 (l.map Int.toNat)
        rw [← Hsd.out, List.length_map] at h1
        have := H200.out
        omega
      have hplc : s.places.length = s.things.length := HSn.out.ok.lp
      have hvl : s.vars.length = P.vars.length := HSn.out.ok.lv
      have hnv := nodes_vars P
      have hSle : s.vars.length ≤ S.length := by rw [HSl.out, hvl]; exact hnv
      have Hs5 := hid ((Hs4.out.ext HA5.out.ext).lift HA5.out.ext.size)
      have HO := fun kd n w1 (x : Ext w5 w1) => hid (runobject_any b1 b2 b3 d1 d2 d3 P kd n s w1 w4.heap.size (.slice s1A s.vars.length d1A) (.slice s2A s.things.length d2A) (.slice s3A s.places.length d3A) ad (HP4.out.errs.ext (HA5.out.ext.trans x)) (HR5.out.ext x) (HP4.out.prog.ext (HA5.out.ext.trans x)) Hz1.out Hz2.out Hw.out (by omega))
      unfold pval at HO
      have t0 := HA5.out.blk.av 0 rfl
      simp only [List.getElem_toArray, List.getElem_cons_zero, List.getElem_cons_succ] at t0
      have Hvl := hid hvl
      clear hr hR5 hz hnv hvl hplc
      go_wp2
      clear t0
      go_loopw [11] (fun t11 wr => ∃ i : Nat, t11 = .int .i64 (i : Int) ∧ i ≤ s.vars.length ∧ Ext w5 wr) (fun t11 _ => s.vars.length - (intOf t11).toNat)
      case atStart => exact ⟨0, rfl, Nat.zero_le _, Ext.refl _⟩
      case round =>
        obtain ⟨i, rfl, hi, hx⟩ := hrel
        have Hx := hid hx
        clear hx
        have t0 := (HA5.out.blk.ext Hx.out).av 0 rfl
        simp only [List.getElem_toArray, List.getElem_cons_zero, List.getElem_cons_succ] at t0
        by_cases hlt : i < s.vars.length
        · obtain ⟨g, cp, e1⟩ := own_some HR5.out.vars (by omega)
          simp only [Value.slice.injEq, true_and] at e1
          obtain ⟨rfl, rfl⟩ := e1
          have hu := at_some hlt
          obtain ⟨r0, r1⟩ := own_v (own_ext HR5.out.vars Hx.out) hu
          have hov := objV_of HSn.out (Ok_getD HSn.out.ok i)
          obtain ⟨v, hv⟩ : ∃ v, v = s.vars.getD i .none := ⟨_, rfl⟩
          have hhs := HSn.out.vars i
          rw [← hv] at r0 r1 hov hhs
          have HO1 := fun w1 (x : Ext wr w1) => HO v.kind v.num w1 (Hx.out.trans x)
          have hne : v.kind.toList ≠ vkNone → v ≠ .none := fun h e => h (by rw [e]; exact none_kind)
          obtain ⟨uk, huk⟩ : ∃ uk, uk = v.kind := ⟨_, rfl⟩
          obtain ⟨un, hun⟩ : ∃ un, un = v.num := ⟨_, rfl⟩
          rw [← huk, ← hun] at hov
          rw [← huk] at r0 hne
          rw [← hun] at r1
          rw [← huk, ← hun] at HO1
          obtain ⟨o, ho⟩ : ∃ o, o = P.objV s.pl uk.toList un := ⟨_, rfl⟩
          rw [← ho] at HO1 hov
          have s0 := (HA5.out.blk.ext Hx.out).kc (X := fun _ => False) (fun e => e) 0 rfl
          have s1 := (HA5.out.blk.ext Hx.out).kc (X := fun _ => False) (fun e => e) 1 rfl
          have s2 := (HA5.out.blk.ext Hx.out).kc (X := fun _ => False) (fun e => e) 2 rfl
          have g0 := (HB6.out.ext (HX5.out.trans Hx.out)).kc (X := fun _ => False) (fun e => e) 0 rfl
          have g1 := (HB6.out.ext (HX5.out.trans Hx.out)).kc (X := fun _ => False) (fun e => e) 1 rfl
          have g2 := (HB6.out.ext (HX5.out.trans Hx.out)).kc (X := fun _ => False) (fun e => e) 2 rfl
          simp only [pcells, List.getElem_toArray, List.getElem_cons_zero, List.getElem_cons_succ] at s0 s1 s2 g0 g1 g2
          have u0 : ∀ w1, Keep (fun _ => False) wr w1 → w1.cell? ⟨g, i * 2, none⟩ = some (.string uk) := fun w1 k => k.ext.cellx r0
          have u1 : ∀ w1, Keep (fun _ => False) wr w1 → w1.cell? ⟨g, i * 2 + 1, none⟩ = some (.int .i64 (un : Int)) := fun w1 k => k.ext.cellx r1
          have hi2 : i < S.length := by omega
          obtain ⟨y, lS, bl, cl, hy, hl, hc, hIl⟩ := (Hs5.out.ext Hx.out).at hi2
          subst hy
          have Hc := hid hc
          have HIl := hid hIl
          have Hr0 := hid r0
          have hSi : S.getD (i) [] = lS := by rw [List.getD_eq_getElem?_getD, hl]; rfl
          unfold Hs at hhs
          rw [hSi] at hhs
          cases hk : (uk.toList == [110, 111, 110, 101]) with
          | true =>
            rw [if_pos (show uk.toList = vkNone from eq_of_beq hk)] at hov
            subst hov
            clear hu r0 r1 huk hun hv ho hhs hl hc hIl hSi hne HIl
            go_wp2
            clear t0
            refine wp_flowT (fun _ => False) (by kernel_rfl) (by kernel_rfl) ?_
            repeat (apply FlowT.d; (intro w1 hk; unfold does; go_simp; (try go_ints); (first | exact DetR.mk | (simp only [↓IntWalk.iteOmega, Oper.doesUpon_value]; exact DetR.mk) | (simp only [↓IntWalk.iteOmega]; go_simp; (try go_ints); exact DetR.mk))); simp only [Act.put, List.setIfInBounds_toArray, List.set_cons_zero, List.set_cons_succ])
            apply FlowT.d
            · intro w1 hk
              unfold does
              go_simp
              exact CallR.det ((HO1 w1 hk.ext).out)
            simp only [Act.put, List.setIfInBounds_toArray, List.set_cons_zero, List.set_cons_succ]
            repeat (apply FlowT.d; (intro w1 hk; unfold does; go_simp; (try go_ints); (first | exact DetR.mk | (simp only [↓IntWalk.iteOmega, Oper.doesUpon_value]; exact DetR.mk) | (simp only [↓IntWalk.iteOmega]; go_simp; (try go_ints); exact DetR.mk))); simp only [Act.put, List.setIfInBounds_toArray, List.set_cons_zero, List.set_cons_succ])
            refine FlowT.fin fun wy hxy hky => ?_
            have Hxy := hid (Hx.out.trans hky.ext)
            have Hwy := hid hky.ext
            clear hxy hky s0 s1 s2 g0 g1 g2 u0 u1 HO1
            have t0 := (HA5.out.blk.ext Hxy.out).av 0 rfl
            simp only [List.getElem_toArray, List.getElem_cons_zero, List.getElem_cons_succ] at t0
            have r0 := Hwy.out.cellx Hr0.out
            go_wp2
            go_roundw
            case rel => exact ⟨i + 1, by go_num, by omega, Hxy.out⟩
            case measure => simp [intOf]; omega
          | false =>
            have hkn : ¬ uk.toList = vkNone := fun e => by rw [e] at hk; exact absurd hk (by decide)
            rw [if_neg hkn] at hov
            obtain ⟨m, hm⟩ : ∃ m, m = s.oN P v := ⟨_, rfl⟩
            rw [← hm] at hov hhs
            subst hov
            have Hmem := hid (hhs (hne hkn))
            clear hkn
            clear hu r0 r1 huk hun hv ho hhs hl hc hIl hSi hm hne
            go_wp2
            clear t0
            refine wp_flowT (fun _ => False) (by kernel_rfl) (by kernel_rfl) ?_
            repeat (apply FlowT.d; (intro w1 hk; unfold does; go_simp; (try go_ints); (first | exact DetR.mk | (simp only [↓IntWalk.iteOmega, Oper.doesUpon_value]; exact DetR.mk) | (simp only [↓IntWalk.iteOmega]; go_simp; (try go_ints); exact DetR.mk))); simp only [Act.put, List.setIfInBounds_toArray, List.set_cons_zero, List.set_cons_succ])
            apply FlowT.d
            · intro w1 hk
              unfold does
              go_simp
              exact CallR.det ((HO1 w1 hk.ext).out)
            simp only [Act.put, List.setIfInBounds_toArray, List.set_cons_zero, List.set_cons_succ]
            repeat (apply FlowT.d; (intro w1 hk; unfold does; go_simp; (try go_ints); (first | exact DetR.mk | (simp only [↓IntWalk.iteOmega, Oper.doesUpon_value]; exact DetR.mk) | (simp only [↓IntWalk.iteOmega]; go_simp; (try go_ints); exact DetR.mk))); simp only [Act.put, List.setIfInBounds_toArray, List.set_cons_zero, List.set_cons_succ])
            refine FlowT.fin fun wy hxy hky => ?_
            have Hxy := hid (Hx.out.trans hky.ext)
            have Hwy := hid hky.ext
            clear hxy hky s0 s1 s2 g0 g1 g2 u0 u1 HO1
            have t0 := (HA5.out.blk.ext Hxy.out).av 0 rfl
            simp only [List.getElem_toArray, List.getElem_cons_zero, List.getElem_cons_succ] at t0
            have r0 := Hwy.out.cellx Hr0.out
            have q0 := Hwy.out.cellx Hc.out
            have HC := hid (sethas_any (.slice bl lS.length cl) lS (m : Int) wy w5.heap.size (HIl.out.old (Hwy.out.old _)))
            rw [decide_eq_true Hmem.out] at HC
            go_wp2_with fail
            refine HC.out.mono ?_
            intro e wz hz
            obtain ⟨rfl, rfl⟩ := hz
            clear HC
            go_wp2
            go_roundw
            case rel => exact ⟨i + 1, by go_num, by omega, Hxy.out⟩
            case measure => simp [intOf]; omega
        · obtain rfl : i = s.vars.length := by omega
          clear hlt hi
          obtain ⟨V, hV⟩ : ∃ V, V = wr := ⟨_, rfl⟩
          subst hV
          have HxV := hid Hx.out
          clear Hx
          go_wp2
          clear t0
          go_loopw [13] (fun t13 wr => ∃ i : Nat, t13 = .int .i64 (i : Int) ∧ i ≤ s.things.length ∧ Ext w5 wr) (fun t13 _ => s.things.length - (intOf t13).toNat)
          case atStart => exact ⟨0, rfl, Nat.zero_le _, HxV.out⟩
          case round =>
            obtain ⟨i, rfl, hi, hx⟩ := hrel
            have Hx := hid hx
            clear hx
            have t0 := (HA5.out.blk.ext Hx.out).av 1 rfl
            simp only [List.getElem_toArray, List.getElem_cons_zero, List.getElem_cons_succ] at t0
            by_cases hlt : i < s.things.length
            · have hat := HSn.out.at hlt
              have hth := objV_of HSn.out (v := .thing i) hlt
              rw [if_neg thing_kind] at hth
              have HO2 := fun w1 (x : Ext w5 w1) => HO (Vl.thing i).kind (Vl.thing i).num w1 x
              rw [hth] at HO2
              rw [show (Vl.thing i).kind = ⟨#[116, 104, 105, 110, 103]⟩ from rfl, show (((Vl.thing i).num : Nat) : Int) = (i : Int) from rfl, show s.oN P (.thing i) = s.atN P i from rfl] at HO2
              have Hlt := hid hlt
              obtain ⟨g, cp, e1⟩ := own_some HR5.out.things (by omega)
              simp only [Value.slice.injEq, true_and] at e1
              obtain ⟨rfl, rfl⟩ := e1
              have hu := at_some hlt
              obtain ⟨r0, r1⟩ := own_v (own_ext HR5.out.things Hx.out) hu
              have hov := objV_of HSn.out (Ok_getT HSn.out.ok i)
              obtain ⟨v, hv⟩ : ∃ v, v = s.things.getD i .none := ⟨_, rfl⟩
              have hhs := HSn.out.things i
              rw [← hv] at r0 r1 hov hhs
              have HO1 := fun w1 (x : Ext wr w1) => HO v.kind v.num w1 (Hx.out.trans x)
              have hne : v.kind.toList ≠ vkNone → v ≠ .none := fun h e => h (by rw [e]; exact none_kind)
              obtain ⟨uk, huk⟩ : ∃ uk, uk = v.kind := ⟨_, rfl⟩
              obtain ⟨un, hun⟩ : ∃ un, un = v.num := ⟨_, rfl⟩
              rw [← huk, ← hun] at hov
              rw [← huk] at r0 hne
              rw [← hun] at r1
              rw [← huk, ← hun] at HO1
              obtain ⟨o, ho⟩ : ∃ o, o = P.objV s.pl uk.toList un := ⟨_, rfl⟩
              rw [← ho] at HO1 hov
              have s0 := (HA5.out.blk.ext Hx.out).kc (X := fun _ => False) (fun e => e) 0 rfl
              have s1 := (HA5.out.blk.ext Hx.out).kc (X := fun _ => False) (fun e => e) 1 rfl
              have s2 := (HA5.out.blk.ext Hx.out).kc (X := fun _ => False) (fun e => e) 2 rfl
              have g0 := (HB6.out.ext (HX5.out.trans Hx.out)).kc (X := fun _ => False) (fun e => e) 0 rfl
              have g1 := (HB6.out.ext (HX5.out.trans Hx.out)).kc (X := fun _ => False) (fun e => e) 1 rfl
              have g2 := (HB6.out.ext (HX5.out.trans Hx.out)).kc (X := fun _ => False) (fun e => e) 2 rfl
              simp only [pcells, List.getElem_toArray, List.getElem_cons_zero, List.getElem_cons_succ] at s0 s1 s2 g0 g1 g2
              have u0 : ∀ w1, Keep (fun _ => False) wr w1 → w1.cell? ⟨g, i * 2, none⟩ = some (.string uk) := fun w1 k => k.ext.cellx r0
              have u1 : ∀ w1, Keep (fun _ => False) wr w1 → w1.cell? ⟨g, i * 2 + 1, none⟩ = some (.int .i64 (un : Int)) := fun w1 k => k.ext.cellx r1
              have hi2 : s.atN P i < S.length := by rw [HSl.out]; exact hat.2
              obtain ⟨y, lS, bl, cl, hy, hl, hc, hIl⟩ := (Hs5.out.ext Hx.out).at hi2
              subst hy
              have Hc := hid hc
              have HIl := hid hIl
              have Hr0 := hid r0
              have hSi : S.getD (s.atN P i) [] = lS := by rw [List.getD_eq_getElem?_getD, hl]; rfl
              unfold Hs at hhs
              rw [hSi] at hhs
              obtain ⟨q, hq⟩ : ∃ q, q = s.atN P i := ⟨_, rfl⟩
              rw [← hq] at HO2 Hc hat hi2
              clear hth
              cases hk : (uk.toList == [110, 111, 110, 101]) with
              | true =>
                rw [hq] at hat
                rw [if_pos (show uk.toList = vkNone from eq_of_beq hk)] at hov
                subst hov
                clear hu r0 r1 huk hun hv ho hhs hl hc hIl hSi hne HIl
                rw [← hq] at hat
                clear hq
                go_wp2
                clear t0
                refine wp_flowT (fun _ => False) (by kernel_rfl) (by kernel_rfl) ?_
                repeat (apply FlowT.d; (intro w1 hk; unfold does; go_simp; (try go_ints); (first | exact DetR.mk | (simp only [↓IntWalk.iteOmega, Oper.doesUpon_value]; exact DetR.mk) | (simp only [↓IntWalk.iteOmega]; go_simp; (try go_ints); exact DetR.mk))); simp only [Act.put, List.setIfInBounds_toArray, List.set_cons_zero, List.set_cons_succ])
                apply FlowT.d
                · intro w1 hk
                  unfold does
                  go_simp
                  exact CallR.det ((HO1 w1 hk.ext).out)
                simp only [Act.put, List.setIfInBounds_toArray, List.set_cons_zero, List.set_cons_succ]
                repeat (apply FlowT.d; (intro w1 hk; unfold does; go_simp; (try go_ints); (first | exact DetR.mk | (simp only [↓IntWalk.iteOmega, Oper.doesUpon_value]; exact DetR.mk) | (simp only [↓IntWalk.iteOmega]; go_simp; (try go_ints); exact DetR.mk))); simp only [Act.put, List.setIfInBounds_toArray, List.set_cons_zero, List.set_cons_succ])
                refine FlowT.fin fun wy hxy hky => ?_
                have Hxy := hid (Hx.out.trans hky.ext)
                have Hwy := hid hky.ext
                clear hxy hky s0 s1 s2 g0 g1 g2 u0 u1 HO1
                have HOt := HO2 wy Hxy.out
                have s0 := (HA5.out.blk.ext Hxy.out).av 0 rfl
                have s1 := (HA5.out.blk.ext Hxy.out).av 1 rfl
                have s2 := (HA5.out.blk.ext Hxy.out).av 2 rfl
                have g0 := (HB6.out.ext (HX5.out.trans Hxy.out)).av 0 rfl
                have g1 := (HB6.out.ext (HX5.out.trans Hxy.out)).av 1 rfl
                have g2 := (HB6.out.ext (HX5.out.trans Hxy.out)).av 2 rfl
                simp only [pcells, List.getElem_toArray, List.getElem_cons_zero, List.getElem_cons_succ] at s0 s1 s2 g0 g1 g2
                clear HO2
                go_wp2_with fail
                refine HOt.out.mono ?_
                intro e wz hz
                obtain ⟨rfl, hz⟩ := hz
                have Hyz := hid hz
                have Hxz := hid (Hxy.out.trans hz)
                clear HOt hz s0 s1 s2 g0 g1 g2
                have p0 := (HBp'.out.ext (Hw9.out.trans (HX5.out.trans Hxz.out))).av 0 rfl
                simp only [pcells, List.getElem_toArray, List.getElem_cons_zero, List.getElem_cons_succ] at p0
                go_wp2
                go_roundw
                case rel => exact ⟨i + 1, by go_num, by omega, Hxz.out⟩
                case measure => simp [intOf]; omega
              | false =>
                have hkn : ¬ uk.toList = vkNone := fun e => by rw [e] at hk; exact absurd hk (by decide)
                rw [if_neg hkn] at hov
                obtain ⟨m, hm⟩ : ∃ m, m = s.oN P v := ⟨_, rfl⟩
                rw [← hm] at hov hhs
                subst hov
                have Hmem := hid (hhs (hne hkn))
                clear hkn
                clear hu r0 r1 huk hun hv ho hhs hl hc hIl hSi hm hne
                clear hq
                go_wp2
                clear t0
                refine wp_flowT (fun _ => False) (by kernel_rfl) (by kernel_rfl) ?_
                repeat (apply FlowT.d; (intro w1 hk; unfold does; go_simp; (try go_ints); (first | exact DetR.mk | (simp only [↓IntWalk.iteOmega, Oper.doesUpon_value]; exact DetR.mk) | (simp only [↓IntWalk.iteOmega]; go_simp; (try go_ints); exact DetR.mk))); simp only [Act.put, List.setIfInBounds_toArray, List.set_cons_zero, List.set_cons_succ])
                apply FlowT.d
                · intro w1 hk
                  unfold does
                  go_simp
                  exact CallR.det ((HO1 w1 hk.ext).out)
                simp only [Act.put, List.setIfInBounds_toArray, List.set_cons_zero, List.set_cons_succ]
                repeat (apply FlowT.d; (intro w1 hk; unfold does; go_simp; (try go_ints); (first | exact DetR.mk | (simp only [↓IntWalk.iteOmega, Oper.doesUpon_value]; exact DetR.mk) | (simp only [↓IntWalk.iteOmega]; go_simp; (try go_ints); exact DetR.mk))); simp only [Act.put, List.setIfInBounds_toArray, List.set_cons_zero, List.set_cons_succ])
                refine FlowT.fin fun wy hxy hky => ?_
                have Hxy := hid (Hx.out.trans hky.ext)
                have Hwy := hid hky.ext
                clear hxy hky s0 s1 s2 g0 g1 g2 u0 u1 HO1
                have HOt := HO2 wy Hxy.out
                have s0 := (HA5.out.blk.ext Hxy.out).av 0 rfl
                have s1 := (HA5.out.blk.ext Hxy.out).av 1 rfl
                have s2 := (HA5.out.blk.ext Hxy.out).av 2 rfl
                have g0 := (HB6.out.ext (HX5.out.trans Hxy.out)).av 0 rfl
                have g1 := (HB6.out.ext (HX5.out.trans Hxy.out)).av 1 rfl
                have g2 := (HB6.out.ext (HX5.out.trans Hxy.out)).av 2 rfl
                simp only [pcells, List.getElem_toArray, List.getElem_cons_zero, List.getElem_cons_succ] at s0 s1 s2 g0 g1 g2
                clear HO2
                go_wp2_with fail
                refine HOt.out.mono ?_
                intro e wz hz
                obtain ⟨rfl, hz⟩ := hz
                have Hyz := hid hz
                have Hxz := hid (Hxy.out.trans hz)
                clear HOt hz s0 s1 s2 g0 g1 g2
                have p0 := (HBp'.out.ext (Hw9.out.trans (HX5.out.trans Hxz.out))).av 0 rfl
                simp only [pcells, List.getElem_toArray, List.getElem_cons_zero, List.getElem_cons_succ] at p0
                have q0 := (Hwy.out.trans Hyz.out).cellx Hc.out
                have HC := hid (sethas_any (.slice bl lS.length cl) lS (m : Int) wz w5.heap.size (HIl.out.old ((Hwy.out.trans Hyz.out).old _)))
                rw [decide_eq_true Hmem.out] at HC
                go_wp2_with fail
                refine HC.out.mono ?_
                intro e wz2 hz
                obtain ⟨rfl, rfl⟩ := hz
                clear HC
                go_wp2
                go_roundw
                case rel => exact ⟨i + 1, by go_num, by omega, Hxz.out⟩
                case measure => simp [intOf]; omega
            · go_wp2
              go_ret
              exact ⟨rfl, HXw5.out.trans Hx.out⟩
    · obtain ⟨te, xe, rfl⟩ : ∃ t x, evA = .iface t (.pointer (some x)) := by
        rcases HA5.out.out with ⟨h, _⟩ | ⟨_, _, _, _, h⟩
        · exact absurd h hr
        · exact h.form
      clear hr
      go_wp2
      go_ret
      exact ⟨rfl, HXw5.out⟩
  · clear hil
    have HL := hid (fixleast_no b1 b2 b3 d1 d2 d3 P W9 W9.heap.size ad HPP9.out hw)
    unfold pval at HL
    clear hw
    go_wp2_with fail
    rw [← HW9.out]
    refine HL.out.mono ?_
    intro e w4 hx
    obtain ⟨t, x, rfl, _, hx4⟩ := hx
    have HZ4 := hid hx4
    clear HL hx4
    go_wp2
    go_ret
    exact ⟨rfl, HXw.out.trans HZ4.out⟩
end Go.Proofs.YtoaoienfggjepaaGreatDoor


/- FixSound: whatever the program and the script, the law returns true, and its arguments read as they did: as the given card of that statement says it, with no further condition. -/
namespace Go.Proofs.YtoaoienfggjepaaGreatDoor.fixSound
set_option linter.unusedSimpArgs false
set_option linter.unusedVariables false
open Go Go.ChangeShapes Go.WideShapes Go.ChangeAt Go.WideMaps Go.WideElems Go.RowKit Go.Joins Go.Deep

/-- The errors that are told, out of the row's list. -/
theorem errs_of {W : World} (h : laidMetH Tryz.prog (sentL [2, 3, 4, 5, 7, 8, 9, 10]) W) : ∃ ad : Nat → Addr, ErrsP W ad ∧ ErrS W ad := by
  obtain ⟨ad, s1, s2⟩ := sents_ad [2, 3, 4, 5, 7, 8, 9, 10] (by decide) (met_plain h)
  exact ⟨ad, ⟨(s1 2 (by decide)).var, (s1 3 (by decide)).var, (s1 4 (by decide)).var, (s1 5 (by decide)).var, (s1 7 (by decide)).var, (s1 8 (by decide)).var, (s1 9 (by decide)).var,
    fun e => by have := s2 5 (by decide) 7 (by decide) e; omega, (s1 5 (by decide)).row, (s1 7 (by decide)).row⟩, ⟨(s1 2 (by decide)).var, (s1 10 (by decide)).var⟩⟩
theorem laid_eq : (Rows.fixSoundRow.laid.filter fun x => !(x.1 == "unicode/utf8.acceptRanges") && !(x.1 == "unicode/utf8.first")) = sentL [2, 3, 4, 5, 7, 8, 9, 10] := by kernel_rfl
theorem own : ownKnob Tryz.prog.godebug = none := by kernel_rfl
theorem laidOut : laidOutB Tryz.prog = true := by kernel_rfl
set_option maxRecDepth 100000 in
theorem lifted (os : Os) (started : os.Started) (H : Type) (enc : TypeId × Value → H) :
    ReturnsInHanded {} Tryz.checked os 5 .any (fun w args => (Rows.fixSoundSpec.pre enc Tryz.prog Tryz.f5 [] false w args ∧ laidMetH Tryz.prog Rows.fixSoundRow.laid w) ∧ sizedMet enc Tryz.prog Tryz.f5 (OpenSpec.ofChange Rows.fixSoundSpec) false w args)
      (Rows.fixSoundSpec.post enc Tryz.prog Tryz.f5 false true false false) := by
  refine returnsInHanded_of_change_and (C := Tryz.checked) (X := fun w _ => laidMetH Tryz.prog Rows.fixSoundRow.laid w) (fun _ _ _ hh h => h.of_heap hh) own started (by kernel_rfl) Tryz.func5
    (ChangeSpec.witness_shaped (enc := enc) (C := Tryz.checked) (os := os) (X := fun w _ => laidMetH Tryz.prog Rows.fixSoundRow.laid w) false (World.laidAll Tryz.prog os Rows.fixSoundRow.laid) #[.agg #[.slice none 0 0, .slice none 0 0, .slice none 0 0], .slice none 0 0] 8 (World.laidAll_os _ _ _) (World.shaped_of_ZipB (by kernel_rfl) (by kernel_rfl)) (by kernel_rfl) (by kernel_rfl) (by kernel_rfl)
      (by rw [MakeChecks.laidMetH_plain _ _ _ (by kernel_rfl)]; exact laidMet_laidAll _ (by kernel_rfl) (by kernel_rfl))) ?_
  intro W base args ds gs before hval0 hW _ _ hL _
  have hval : ∀ (j : Nat) t v, Tryz.f5.params[j]? = some t → args[j]? = some v → Value.okWide Tryz.prog W .any base t v := hval0
  have hW' := hW
  obtain ⟨p, q, hA0, hV, rfl, hfz, hnd⟩ := hW
  have hA : DataW.TrodAll enc Tryz.prog W 0 (fun _ => true) true Tryz.f5.params.toList args.toList ds p := hA0
  rw [Tryz.params5] at hA hval
  obtain ⟨v0, vs0, d0, ds0, p0, q0, hargs, rfl, rfl, h0, r0⟩ := trodAll_cons hA
  obtain ⟨v1, vs1, d1, ds1, p1, q1, rfl, rfl, rfl, h1, r1⟩ := trodAll_cons r0
  obtain ⟨rfl, rfl, rfl⟩ := trodAll_nil r1
  obtain rfl : args = #[v0, v1] := by cases args; simp_all
  obtain ⟨rfl, rfl⟩ := trodVars_none hV
  have k0 := h0
  have lt0 : ∀ x ∈ p0, x.block < W.heap.size := by obtain ⟨m, hm⟩ := k0; exact DataW.trod_lt m _ _ _ hm
  have k1 := h1
  have lt1 : ∀ x ∈ p1, x.block < W.heap.size := by obtain ⟨m, hm⟩ := k1; exact DataW.trod_lt m _ _ _ hm
  obtain ⟨b1, b2, b3, c1, c2, c3, P, rfl, hP⟩ := prog_of (hval 0 39 v0 rfl rfl) h0
  obtain ⟨sa, sl, sc, rfl⟩ := okWide_slice Tryz.underlying22 (hval 1 22 v1 rfl rfl)
  obtain ⟨l, hI⟩ : ∃ l, IntsR W W.heap.size (.slice sa sl sc) l := by
    obtain ⟨m, hm⟩ := h1
    exact intsR_of (by simpa [Value.cells] using hm)
  obtain ⟨ad, hE, hS⟩ := errs_of (by have := laidMetH.filter (fun x => !(x.1 == "unicode/utf8.acceptRanges") && !(x.1 == "unicode/utf8.first")) hL; rw [laid_eq] at this; exact this)
  clear hA0 hval0
  refine (fixsoundlaw_any b1 b2 b3 c1 c2 c3 P _ l W ad hE hS hP hI).mono fun e W' ⟨he, bel⟩ => ?_
  subst he
  exact ⟨_, rfl, _, _, _, [], _, [], hW', trodAll_mk1 (shut_bool Tryz.underlying4 _), (trodAll_cons_mk (Below.trod laidOut (by kernel_rfl) (of_decide_eq_true (by kernel_rfl)) k0 bel lt0) (trodAll_cons_mk (Below.trod laidOut (by kernel_rfl) (of_decide_eq_true (by kernel_rfl)) k1 bel lt1) trodAll_mk0)), rfl, bel.frame _, fun h => by cases h⟩

theorem said : Rows.FixSoundSaid :=
  OpenClaim.holds_of_wide 5 Tryz.f5 rfl rfl rfl rfl rfl rfl rfl ⟨rfl, rfl, rfl, rfl, rfl⟩ rfl rfl rfl rfl rfl (by kernel_rfl) Tryz.func5 (by kernel_rfl)
    (of_decide_eq_true (by kernel_rfl)) (by unfold Func.isWrapper; first | (rw [if_pos (by decide +kernel)]; kernel_rfl) | (rw [if_neg (by decide +kernel)]; exact ⟨rfl, rfl⟩))
    (fun os started H enc _ => lifted os started H enc)

/-- No parameter wants a stand-in. -/
theorem plain (f : FuncId) (fn : Func) (hf : Tryz.pinned.checked.prog.funcNamed Tryz.f5.name = some f) (hfn : Tryz.pinned.checked.prog.funcs[f]? = some fn) :
    true = Tryz.pinned.checked.prog.looks [] ∧ ∀ (j : Nat) t, fn.params[j]? = some t → Tryz.pinned.checked.prog.wantsStandIn t = false := by
  obtain rfl : f = 5 := Option.some.inj ((show Tryz.prog.funcNamed Tryz.f5.name = some 5 by kernel_rfl).symm.trans hf) |>.symm
  obtain rfl : fn = Tryz.f5 := (Option.some.inj (Tryz.func5.symm.trans hfn)).symm
  refine ⟨by kernel_rfl, fun j t ht => ?_⟩
  rw [Tryz.params5] at ht
  have hm : t ∈ ([39, 22] : List Nat) := by simpa using Array.mem_of_getElem? ht
  have hall : (([39, 22] : List Nat).all fun u => !Tryz.prog.wantsStandIn u) = true := by kernel_rfl
  exact (show Tryz.prog.wantsStandIn t = false by simpa using List.all_eq_true.1 hall t hm)

set_option maxRecDepth 100000 in
theorem card : Rows.FixSoundCardSaid :=
  Claim7.holds_tied_plain_at .later [] _ _ _ _ said (fun _ h => by cases h) (by kernel_rfl) (fun _ h => by cases h) fixSound_row_tie rfl ⟨rfl, rfl⟩ (by kernel_rfl) rfl plain (by kernel_rfl)
#print axioms card
end Go.Proofs.YtoaoienfggjepaaGreatDoor.fixSound

