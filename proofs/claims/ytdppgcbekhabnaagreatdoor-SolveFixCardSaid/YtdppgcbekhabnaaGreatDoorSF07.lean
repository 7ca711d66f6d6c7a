/- Texts of one proof, put together: UZ V1 V2 W4 W7 W8 W9. -/
import Derived.Test.YtdppgcbekhabnaaGreatDoorSF06

/- Runs: what any statement does. -/
namespace Go.Proofs.YtdppgcbekhabnaaGreatDoor
set_option linter.unusedSimpArgs false
set_option linter.unusedVariables false
open Go Go.RowKit

theorem isK_of {x : PS} {b : ByteArray} {k : List UInt8} (hb : b.toList = k) (h : eqB x.kind b = true) : x.isK k = true := by
  unfold eqB at h
  rw [hb] at h
  exact h
theorem kind_cases {P : PP} {x : PS} (h : P.stmtErr x = 0) : x.isK kAddr = true ∨ x.isK kCopy = true ∨ x.isK kLoad = true ∨ x.isK kStore = true ∨ x.isK kNew = true ∨ x.isK kFun = true ∨ x.isK kCall = true := by
  unfold PP.stmtErr at h
  cases hm : memB x.kind kindsS with
  | false => rw [hm] at h; simp at h
  | true =>
    simp only [memB, kindsS, List.any_cons, List.any_nil, Bool.or_false, Bool.or_eq_true] at hm
    refine hm.imp (fun h => ?_) (Or.imp (fun h => ?_) (Or.imp (fun h => ?_) (Or.imp (fun h => ?_) (Or.imp (fun h => ?_) (Or.imp (fun h => ?_) (fun h => ?_))))))
    · exact isK_of (k := kAddr) (by decide +kernel) h
    · exact isK_of (k := kCopy) (by decide +kernel) h
    · exact isK_of (k := kLoad) (by decide +kernel) h
    · exact isK_of (k := kStore) (by decide +kernel) h
    · exact isK_of (k := kNew) (by decide +kernel) h
    · exact isK_of (k := kFun) (by decide +kernel) h
    · exact isK_of (k := kCall) (by decide +kernel) h
end Go.Proofs.YtdppgcbekhabnaaGreatDoor



/- Runs: run.Do: programs that are none, scripts that are none. -/
namespace Go.Proofs.YtdppgcbekhabnaaGreatDoor
set_option linter.unusedSimpArgs false
set_option linter.unusedVariables false
open Go Go.RowKit

def PP.badk (P : PP) (n : Int) : Bool := decide (n < 0) || decide ((P.stmts.length : Int) ≤ n)
def zeroS : Value := .agg #[.slice none 0 0, .slice none 0 0, .slice none 0 0]
def zcells : Array Value := #[.slice none 0 0, .slice none 0 0, .slice none 0 0]
theorem ErrIs.form {ad : Nat → Addr} {P : PP} {w : World} {v : Value} (h : ErrIs ad P w v) : (v = .nilIface ∧ P.err1 = 0 ∧ P.allWell) ∨ ((∃ t x, v = .iface t (.pointer (some x))) ∧ ¬ (P.err1 = 0 ∧ P.allWell)) := by
  rcases h with ⟨h1, h2⟩ | ⟨h1, h2, h3⟩ | ⟨h1, i, s, b, h2, h3, _⟩
  · refine .inr ⟨?_, fun h => h1 h.1⟩
    obtain ⟨x, hx⟩ : ∃ x, evOf ad P.err1 = .iface 270 (.pointer (some x)) := ⟨_, rfl⟩
    exact ⟨_, _, by rw [h2, hx]⟩
  · exact .inl ⟨h3, h1, h2⟩
  · refine .inr ⟨⟨_, _, h3⟩, fun h => h2.2.1 (h.2 i s ?_ h2.1)⟩
    rcases Nat.lt_or_ge i P.stmts.length with h | h
    · exact h
    · have h3 := h2.1; rw [List.getElem?_eq_none h] at h3; cases h3
/-- The script's first number that names no statement. -/
def PP.FirstK (P : PP) (l : List Int) (i : Nat) : Prop := ∃ x, l[i]? = some x ∧ P.badk x = true ∧ ∀ j y, j < i → l[j]? = some y → P.badk y = false
/-- What a run tells that is refused. -/
def RunNo (ad : Nat → Addr) (P : PP) (l : List Int) (w : World) (v : Value) : Prop :=
  (¬ (P.err1 = 0 ∧ P.allWell) ∧ ErrIs ad P w v) ∨ (P.err1 = 0 ∧ P.allWell ∧ 2000 < l.length ∧ v = evOf ad 8) ∨
  (P.err1 = 0 ∧ P.allWell ∧ l.length ≤ 2000 ∧ ∃ i b, P.FirstK l i ∧ v = .iface 118 (.pointer (some ⟨b, 0, none⟩)) ∧ Blk w b #[.int .i64 (i : Int), evOf ad 2] 120)
/-- A script that may be done. -/
def PP.Runs (P : PP) (l : List Int) : Prop := P.err1 = 0 ∧ P.allWell ∧ l.length ≤ 2000 ∧ ∀ x ∈ l, P.badk x = false

theorem store3_keep (w : World) (g : Nat) (v0 v1 v2 : Value) : Keep (fun b => b = g) w (((w.setCell ⟨g, 0, none⟩ v0).setCell ⟨g, 1, none⟩ v1).setCell ⟨g, 2, none⟩ v2) :=
  have k : ∀ (u : World) j v, Keep (fun b => b = g) w u → Keep (fun b => b = g) w (u.setCell ⟨g, j, none⟩ v) := fun _ _ v h => h.set rfl v
  k _ _ _ (k _ _ _ (k _ _ _ (Keep.refl _ w)))
theorem store3 {w : World} {g : Nat} {x0 x1 x2 v0 v1 v2 : Value} {t : TypeId} (h : Blk w g #[x0, x1, x2] t) : Blk (((w.setCell ⟨g, 0, none⟩ v0).setCell ⟨g, 1, none⟩ v1).setCell ⟨g, 2, none⟩ v2) g #[v0, v1, v2] t := by
  have := ((h.set 0 v0).set 1 v1).set 2 v2
  simpa using this
/-- A fault in a new block. -/
def FtAt (i : Nat) (ev : Value) (v : Value) (w : World) : Prop := ∃ b, v = .pointer (some ⟨b, 0, none⟩) ∧ Blk w b #[.int .i64 (i : Int), ev] 120
theorem FtAt.ext {i : Nat} {ev v : Value} {w w' : World} (h : FtAt i ev v w) (x : Ext w w') : FtAt i ev v w' := by
  obtain ⟨b, e, h⟩ := h
  exact ⟨b, e, h.ext x⟩
end Go.Proofs.YtdppgcbekhabnaaGreatDoor



/- Runs: run.Do: a script that is done. -/
namespace Go.Proofs.YtdppgcbekhabnaaGreatDoor
set_option linter.unusedSimpArgs false
set_option linter.unusedVariables false
open Go Go.RowKit

theorem Rn.Ok.step {P : PP} {s : Rn} (h : s.Ok P) (hw : P.allWell) (k : Nat) : (s.step P k).Ok P := by
  unfold Rn.step
  cases hx : P.stmts[k]? with
  | none => exact h
  | some x =>
    have hk : k < P.stmts.length := by
      rcases Nat.lt_or_ge k P.stmts.length with h | h
      · exact h
      · rw [List.getElem?_eq_none h] at hx; cases hx
    exact h.stmt k (PP.good (hw k x hk hx))
theorem Rn.Ok.foldl {P : PP} (hw : P.allWell) : ∀ (l : List Nat) {s : Rn}, s.Ok P → (l.foldl (Rn.step P) s).Ok P
  | [], _, h => h
  | k :: l, _, h => Rn.Ok.foldl hw l (h.step hw k)
theorem Rn.Ok.run {P : PP} (hw : P.allWell) (l : List Nat) : (Rn.run P l).Ok P := Rn.Ok.foldl hw l (Rn.Ok.begin P)
theorem ElR.lift {n0 n1 n : Nat} {v : Value} {E : Nat → Addr → Prop} (h : ElR n0 v n E) (hn : n0 ≤ n1) : ElR n1 v n E := h.mono hn fun _ _ _ _ h => h
theorem ProgR.lift {w : World} {n0 n1 : Nat} {v1 v2 v3 : Value} {P : PP} (h : ProgR w n0 v1 v2 v3 P) (hn : n0 ≤ n1) : ProgR w n1 v1 v2 v3 P :=
  ⟨ElR.lift h.vars hn, ElR.mono h.funs hn fun i y _ _ hE f hf => by
    obtain ⟨pv, h1, h2, h3, h4⟩ := hE f hf
    exact ⟨pv, h1, h2, h3, ElR.lift h4 hn⟩, ElR.mono h.stmts hn fun i y _ _ hE f hf => by
    obtain ⟨pv, h1, h2, h3, h4, h5⟩ := hE f hf
    exact ⟨pv, h1, h2, h3, h4, ElR.lift h5 hn⟩⟩
theorem IntsR.at {w : World} {n0 : Nat} {a : Option Addr} {n cap : Nat} {l : List Int} (h : IntsR w n0 (.slice a n cap) l) {k : Nat} (hk : k < l.length) : ∃ y q, a = some y ∧ l[k]? = some q ∧ w.cell? (y.add k) = some (.int .i64 q) := by
  obtain ⟨a', cap', h1, h2, h3, h4, h5⟩ := h
  obtain ⟨rfl, rfl, rfl⟩ : a = a' ∧ n = l.length ∧ cap = cap' := by simpa using h1
  obtain ⟨y, rfl⟩ := h4 (by omega)
  have hx : l[k]? = some (l[k]'hk) := List.getElem?_eq_getElem hk
  exact ⟨y, _, rfl, hx, (h5 y rfl (by omega)).2 k hk _ hx⟩
theorem PP.funs_ok {P : PP} (h : P.err1 = 0) : P.funsErr = 0 := by
  unfold PP.err1 at h
  cases hb : P.big with
  | true => rw [hb] at h; simp at h
  | false =>
    rw [hb] at h
    simp only [cond_false] at h
    split at h
    · omega
    · split at h
      · omega
      · exact h
end Go.Proofs.YtdppgcbekhabnaaGreatDoor



/- The reference's fault of a program. -/
namespace Go.Proofs.YtdppgcbekhabnaaGreatDoor
set_option linter.unusedSimpArgs false
set_option linter.unusedVariables false
open Go Go.RowKit

/-- The reference's fault: a number, and where. -/
def FaultIs (P : PP) (c : Nat) (p : Int) : Prop :=
  (P.err1 ≠ 0 ∧ c = P.err1 ∧ p = -1) ∨ (P.err1 = 0 ∧ P.allWell ∧ c = 0 ∧ p = -1) ∨ (P.err1 = 0 ∧ ∃ i s, P.FirstBad i s ∧ c = P.stmtErr s ∧ p = (i : Int))
theorem two {w : World} {g : Nat} {x0 x1 v0 v1 : Value} {t : TypeId} (h : Blk w g #[x0, x1] t) : Blk ((w.setCell ⟨g, 0, none⟩ v0).setCell ⟨g, 1, none⟩ v1) g #[v0, v1] t := by
  have := (h.set 0 v0).set 1 v1
  simpa using this
/-! What the lists' laws give. -/
end Go.Proofs.YtdppgcbekhabnaaGreatDoor



/- The reference's runs: load and store. -/
namespace Go.Proofs.YtdppgcbekhabnaaGreatDoor
set_option linter.unusedSimpArgs false
set_option linter.unusedVariables false
open Go Go.RowKit

/-- What a value is the address of, for the reference. -/
def rgv (s : Rn) : Vl → Value
  | .var n => .tuple #[.agg #[.string (s.vars.getD n .none).kind, .int .i64 ((s.vars.getD n .none).num : Int)], .bool true]
  | .thing n => .tuple #[.agg #[.string (s.things.getD n .none).kind, .int .i64 ((s.things.getD n .none).num : Int)], .bool true]
  | _ => .tuple #[.agg #[.string ⟨#[]⟩, .int .i64 0], .bool false]
end Go.Proofs.YtdppgcbekhabnaaGreatDoor



/- The reference's runs: load and store. -/
namespace Go.Proofs.YtdppgcbekhabnaaGreatDoor
set_option linter.unusedSimpArgs false
set_option linter.unusedVariables false
open Go Go.RowKit

end Go.Proofs.YtdppgcbekhabnaaGreatDoor



/- The reference's runs: store. -/
namespace Go.Proofs.YtdppgcbekhabnaaGreatDoor
set_option linter.unusedSimpArgs false
set_option linter.unusedVariables false
open Go Go.RowKit

end Go.Proofs.YtdppgcbekhabnaaGreatDoor

