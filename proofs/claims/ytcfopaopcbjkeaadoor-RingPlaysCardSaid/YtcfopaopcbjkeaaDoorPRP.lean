/- RingPlays: whatever the number of peers, the list, the peer and the token, the law returns true, and its arguments read as they did: as the given card of that statement says it, with no further condition. -/
import Derived.Test.YtcfopaopcbjkeaaDoorGE
import Derived.Test.YtcfopaopcbjkeaaDoorGF
import Derived.Test.YtcfopaopcbjkeaaDoorGG
import Derived.Test.YtcfopaopcbjkeaaDoorGH
import Derived.Test.YtcfopaopcbjkeaaDoorSA
import Derived.Test.YtcfopaopcbjkeaaDoorCards
import Derived.Test.YtcfopaopcbjkeaaDoorTie
import Derived.ProofKit
import Derived.LaidMore
import Derived.OpenShut
import Derived.Below
import Derived.Stop.Joined
import Derived.SevenTiedAt
import Derived.Lib.SmallJoins
namespace Go.Proofs.YtcfopaopcbjkeaaDoor.ringPlays
set_option linter.unusedSimpArgs false
set_option linter.unusedVariables false
open Go Go.ChangeShapes Go.WideShapes Go.ChangeAt Go.WideMaps Go.WideElems Go.RowKit Go.Joins Go.Deep

theorem ringPlays_any (n : Int) (a : Option Addr) (len cap : Nat) (vs : List Int) (pc tc : Int) (pb tb : Bool) (w : World) (ad : Nat → Addr) (h : AllErrs w ad) (hr : Ints w a len vs) (hl : (len : Int) ≤ 9223372036854775807) :
    Calls Tryd.prog 5 (rpArgs n a len cap pc tc pb tb) w fun e w' => e = .returned (.bool true) ∧ Ext w w' := by
  by_cases hn : 300 < len ∨ 1152921504606846976 < pc ∨ pc < -1152921504606846976 ∨ 1152921504606846976 < tc ∨ tc < -1152921504606846976
  · exact ringPlays_no n a len cap pc tc pb tb w hl hn
  have h1 : len ≤ 300 := by omega
  have h2 : pc ≤ 1152921504606846976 := by omega
  have h3 : -1152921504606846976 ≤ pc := by omega
  have h4 : tc ≤ 1152921504606846976 := by omega
  have h5 : -1152921504606846976 ≤ tc := by omega
  by_cases hb : n < 2 ∨ 6 < n
  · cases pb <;> cases tb
    · exact rpE_bad n a len cap pc tc w ad h h1 h2 h3 h4 h5 hb
    · exact rpF_bad n a len cap pc tc w ad h h1 h2 h3 h4 h5 hb
    · exact rpG_bad n a len cap pc tc w ad h h1 h2 h3 h4 h5 hb
    · exact rpH_bad n a len cap pc tc w ad h h1 h2 h3 h4 h5 hb
  · obtain ⟨k, rfl⟩ : ∃ k : Nat, n = (k : Int) := ⟨n.toNat, by omega⟩
    have g1 : 2 ≤ k := by omega
    have g2 : k ≤ 6 := by omega
    cases pb <;> cases tb
    · exact rpE_ok k a len cap vs pc tc w hr h1 h2 h3 h4 h5 g1 g2
    · exact rpF_ok k a len cap vs pc tc w hr h1 h2 h3 h4 h5 g1 g2
    · exact rpG_ok k a len cap vs pc tc w hr h1 h2 h3 h4 h5 g1 g2
    · exact rpH_ok k a len cap vs pc tc w hr h1 h2 h3 h4 h5 g1 g2

set_option maxRecDepth 100000 in
/-- A peer, or a token, that came in. -/
theorem pair_of {H : Type} {enc : TypeId × Value → H} {w : World} {base b0 : Nat} {sp : Nat → Bool} {held : Bool} {t : TypeId} {f0 f1 : Field} {v : Value} {d : DataW H} {p : List MemPlace} (hs : Tryd.prog.underlying t = some (.struct #[f0, f1])) (hone : oneCellFields Tryd.prog #[f0, f1] = true) (hC : Tryd.prog.cellsOf t = 2)
    (ht0 : Tryd.prog.underlying f0.type = some (.int .i64)) (ht1 : Tryd.prog.underlying f1.type = some .bool) (hv : Value.okWide Tryd.prog w .any b0 t v) (h : DataW.Trod enc Tryd.prog w base sp held t v d p) : ∃ (c : Int) (b : Bool), v = .agg #[.int .i64 c, .bool b] := by
  obtain ⟨v0, v1, y0, y1, n, rfl, _, _, h0, h1⟩ := open_agg2 hs hone hC hv h
  obtain ⟨c, e0, _, _⟩ := DataW.trod_int ht0 h0
  obtain ⟨b, e1, _⟩ := DataW.trod_bool ht1 h1
  simp only [List.cons.injEq, and_true] at e0 e1
  subst e0 e1
  exact ⟨c, b, rfl⟩

theorem laid_eq : Rows.ringPlaysRow.laid = fullL := rfl
theorem own : ownKnob Tryd.prog.godebug = none := by kernel_rfl
theorem laidOut : laidOutB Tryd.prog = true := by kernel_rfl
theorem door_met (os : Os) (args : Array Value) : laidMetH Tryd.prog Rows.ringPlaysRow.laid ((World.doorLaid Tryd.prog 235 os).forCall (fun _ _ => 0) ⟨#[], args, []⟩).memory :=
  laidMetH_of_parts3 (fuel := 8) (laidMet_of_run' 8 (by kernel_rfl) (by kernel_rfl)) (by kernel_rfl) (by kernel_rfl)

set_option maxRecDepth 100000 in
theorem lifted (os : Os) (started : os.Started) (H : Type) (enc : TypeId × Value → H) :
    ReturnsInHanded {} Tryd.checked os 5 .any (fun w args => (Rows.ringPlaysSpec.pre enc Tryd.prog Tryd.f5 [] false w args ∧ laidMetH Tryd.prog Rows.ringPlaysRow.laid w) ∧ sizedMet enc Tryd.prog Tryd.f5 (OpenSpec.ofChange Rows.ringPlaysSpec) false w args)
      (Rows.ringPlaysSpec.post enc Tryd.prog Tryd.f5 false true false false) := by
  refine returnsInHanded_of_change_and (C := Tryd.checked) (X := fun w _ => laidMetH Tryd.prog Rows.ringPlaysRow.laid w) (fun _ _ _ hh h => h.of_heap hh) own started (by kernel_rfl) Tryd.func5
    (ChangeSpec.witness_shaped (enc := enc) (C := Tryd.checked) (os := os) (X := fun w _ => laidMetH Tryd.prog Rows.ringPlaysRow.laid w) false (World.doorLaid Tryd.prog 235 os) #[.int .i64 0, .slice none 0 0, .agg #[.int .i64 0, .bool false], .agg #[.int .i64 0, .bool false]] 8 rfl (World.shaped_of_RefB (by kernel_rfl) (by kernel_rfl)) (by kernel_rfl) (by kernel_rfl) (by kernel_rfl) (door_met os _)) ?_
  intro W base args ds gs before hval0 hW _ _ hL _
  have hval : ∀ (j : Nat) t v, Tryd.f5.params[j]? = some t → args[j]? = some v → Value.okWide Tryd.prog W .any base t v := hval0
  have hW' := hW
  obtain ⟨p, q, hA0, hV, rfl, hfz, hnd⟩ := hW
  have hA : DataW.TrodAll enc Tryd.prog W 0 (fun _ => true) true Tryd.f5.params.toList args.toList ds p := hA0
  rw [Tryd.params5] at hA hval
  obtain ⟨v0, vs0, d0, ds0, p0, q0, hargs, rfl, rfl, h0, r0⟩ := trodAll_cons hA
  obtain ⟨v1, vs1, d1, ds1, p1, q1, rfl, rfl, rfl, h1, r1⟩ := trodAll_cons r0
  obtain ⟨v2, vs2, d2, ds2, p2, q2, rfl, rfl, rfl, h2, r2⟩ := trodAll_cons r1
  obtain ⟨v3, vs3, d3, ds3, p3, q3, rfl, rfl, rfl, h3, r3⟩ := trodAll_cons r2
  obtain ⟨rfl, rfl, rfl⟩ := trodAll_nil r3
  obtain rfl : args = #[v0, v1, v2, v3] := by cases args; simp_all
  obtain ⟨rfl, rfl⟩ := trodVars_none hV
  obtain ⟨a0, rfl, rfl, rfl, w0⟩ := open_int Tryd.underlying3 (hval 0 3 v0 rfl rfl) h0
  obtain ⟨a1, len1, cap1, rfl⟩ := okWide_slice Tryd.underlying22 (hval 1 22 v1 rfl rfl)
  have k1 := h1
  have k2 := h2
  have k3 := h3
  have lt1 : ∀ x ∈ p1, x.block < W.heap.size := by obtain ⟨m, hm⟩ := k1; exact DataW.trod_lt m _ _ _ hm
  have lt2 : ∀ x ∈ p2, x.block < W.heap.size := by obtain ⟨m, hm⟩ := k2; exact DataW.trod_lt m _ _ _ hm
  have lt3 : ∀ x ∈ p3, x.block < W.heap.size := by obtain ⟨m, hm⟩ := k3; exact DataW.trod_lt m _ _ _ hm
  obtain ⟨z1, hin1, hl1⟩ := ints_of Tryd.underlying22 Tryd.underlying3 (by kernel_rfl) h1
  obtain ⟨pc, pb, rfl⟩ := pair_of Tryd.underlying45 (by kernel_rfl) (by kernel_rfl) Tryd.underlying3 Tryd.underlying4 (hval 2 45 v2 rfl rfl) h2
  obtain ⟨tc, tb, rfl⟩ := pair_of Tryd.underlying46 (by kernel_rfl) (by kernel_rfl) Tryd.underlying3 Tryd.underlying4 (hval 3 46 v3 rfl rfl) h3
  obtain ⟨ad, hE⟩ := all_of (by rw [laid_eq] at hL; exact hL)
  clear hA0 hval0
  refine (ringPlays_any a0 a1 len1 cap1 z1 pc tc pb tb W ad hE hin1 hl1).mono fun e W' ⟨he, bel⟩ => ?_
  subst he
  exact ⟨_, rfl, _, _, _, [], _, [], hW', trodAll_mk1 (shut_bool Tryd.underlying4 _), (trodAll_cons_mk (shut_int Tryd.underlying3 w0) (trodAll_cons_mk (Below.trod laidOut (by kernel_rfl) (of_decide_eq_true (by kernel_rfl)) k1 bel lt1) (trodAll_cons_mk (Below.trod laidOut (by kernel_rfl) (of_decide_eq_true (by kernel_rfl)) k2 bel lt2) (trodAll_cons_mk (Below.trod laidOut (by kernel_rfl) (of_decide_eq_true (by kernel_rfl)) k3 bel lt3) trodAll_mk0)))), rfl, bel.frame _, fun h => by cases h⟩

theorem said : Rows.RingPlaysSaid :=
  OpenClaim.holds_of_wide 5 Tryd.f5 rfl rfl rfl rfl rfl rfl rfl ⟨rfl, rfl, rfl, rfl, rfl⟩ rfl rfl rfl rfl rfl (by kernel_rfl) Tryd.func5 (by kernel_rfl)
    (of_decide_eq_true (by kernel_rfl)) (by unfold Func.isWrapper; first | (rw [if_pos (by decide +kernel)]; kernel_rfl) | (rw [if_neg (by decide +kernel)]; exact ⟨rfl, rfl⟩))
    (fun os started H enc _ => lifted os started H enc)

/-- No parameter wants a stand-in. -/
theorem plain (f : FuncId) (fn : Func) (hf : Tryd.pinned.checked.prog.funcNamed Tryd.f5.name = some f) (hfn : Tryd.pinned.checked.prog.funcs[f]? = some fn) :
    true = Tryd.pinned.checked.prog.looks [] ∧ ∀ (j : Nat) t, fn.params[j]? = some t → Tryd.pinned.checked.prog.wantsStandIn t = false := by
  obtain rfl : f = 5 := Option.some.inj ((show Tryd.prog.funcNamed Tryd.f5.name = some 5 by kernel_rfl).symm.trans hf) |>.symm
  obtain rfl : fn = Tryd.f5 := (Option.some.inj (Tryd.func5.symm.trans hfn)).symm
  refine ⟨by kernel_rfl, fun j t ht => ?_⟩
  rw [Tryd.params5] at ht
  have hm : t ∈ ([3, 22, 45, 46] : List Nat) := by simpa using Array.mem_of_getElem? ht
  have hall : (([3, 22, 45, 46] : List Nat).all fun u => !Tryd.prog.wantsStandIn u) = true := by kernel_rfl
  exact (show Tryd.prog.wantsStandIn t = false by simpa using List.all_eq_true.1 hall t hm)

set_option maxRecDepth 100000 in
theorem card : Rows.RingPlaysCardSaid :=
  Claim7.holds_tied_plain_at .later [] _ _ _ _ said (fun _ h => by cases h) (by kernel_rfl) (fun _ h => by cases h) ringPlays_row_tie rfl ⟨rfl, rfl⟩ (by kernel_rfl) rfl plain (by kernel_rfl)
#print axioms card
end Go.Proofs.YtcfopaopcbjkeaaDoor.ringPlays
