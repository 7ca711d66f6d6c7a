/- Texts of one proof, put together: UQ UR UT UV UW UX W6 W1 W2 W3 Par2 UY. -/
import Derived.Test.YtdppgcbekhabnaaGreatDoorSF02
import Derived.Test.YtdppgcbekhabnaaGreatDoorSF04
import Derived.Test.YtdppgcbekhabnaaGreatDoorSF05

/- Runs, plainly: values, states, what a statement does, and what stays so. -/
namespace Go.Proofs.YtdppgcbekhabnaaGreatDoor
set_option linter.unusedSimpArgs false
set_option linter.unusedVariables false
open Go Go.RowKit

inductive Vl where
  | none
  | var (n : Nat)
  | thing (n : Nat)
  | fn (n : Nat)
def Vl.kind : Vl → ByteArray
  | .none => ⟨#[110, 111, 110, 101]⟩
  | .var _ => ⟨#[118, 97, 114]⟩
  | .thing _ => ⟨#[116, 104, 105, 110, 103]⟩
  | .fn _ => ⟨#[102, 117, 110]⟩
def Vl.num : Vl → Nat
  | .none => 0
  | .var n => n
  | .thing n => n
  | .fn n => n
def Vl.cells (v : Vl) : List Value := [.string v.kind, .int .i64 (v.num : Int)]
theorem Vl.cells_len (v : Vl) : v.cells.length = 2 := rfl
def Vl.In (nv nt nf : Nat) : Vl → Prop
  | .none => True
  | .var n => n < nv
  | .thing n => n < nt
  | .fn n => n < nf
theorem Vl.In.mono {nv nt nf nt' : Nat} {v : Vl} (h : v.In nv nt nf) (hn : nt ≤ nt') : v.In nv nt' nf := by
  cases v <;> simp only [Vl.In] at h ⊢ <;> omega
structure Rn where
  vars : List Vl
  things : List Vl
  places : List Nat
def Rn.at (s : Rn) (n : Int) : Vl := s.vars.getD n.toNat .none
def Rn.get (s : Rn) : Vl → Vl
  | .var n => s.vars.getD n .none
  | .thing n => s.things.getD n .none
  | _ => .none
def Vl.isAddr : Vl → Bool
  | .var _ => true
  | .thing _ => true
  | _ => false
def Rn.set (s : Rn) (n : Int) (v : Vl) : Rn := { s with vars := s.vars.set n.toNat v }
def Rn.put (s : Rn) (c v : Vl) : Rn :=
  match c with
  | .var n => { s with vars := s.vars.set n v }
  | .thing n => { s with things := s.things.set n v }
  | _ => s
def kAddr : List UInt8 := [97, 100, 100, 114]
def kCopy : List UInt8 := [99, 111, 112, 121]
def kLoad : List UInt8 := [108, 111, 97, 100]
def kStore : List UInt8 := [115, 116, 111, 114, 101]
/-- Parameters take what came. -/
def Rn.give (s : Rn) : List Int → List Vl → Rn
  | p :: ps, v :: vs => (s.set p v).give ps vs
  | _, _ => s
def Rn.callF (s : Rn) (x : PS) (f : PF) : Rn :=
  if f.params.length = x.args.length then
    let s1 := s.give f.params (x.args.map s.at)
    s1.set x.x (s1.at f.ret)
  else s
def Rn.call (P : PP) (x : PS) (s : Rn) : Rn :=
  match s.at x.y with
  | .fn n => match P.funs[n]? with
    | some f => s.callF x f
    | none => s
  | _ => s
def Rn.stmt (P : PP) (k : Nat) (x : PS) (s : Rn) : Rn :=
  bif x.isK kAddr then s.set x.x (.var x.y.toNat) else
  bif x.isK kCopy then s.set x.x (s.at x.y) else
  bif x.isK kLoad then (bif (s.at x.y).isAddr then s.set x.x (s.get (s.at x.y)) else s) else
  bif x.isK kStore then s.put (s.at x.x) (s.at x.y) else
  bif x.isK kNew then { (s.set x.x (.thing s.things.length)) with things := s.things ++ [.none], places := s.places ++ [k] } else
  bif x.isK kFun then s.set x.x (.fn x.y.toNat) else
  bif x.isK kCall then s.call P x else s
def Rn.step (P : PP) (s : Rn) (k : Nat) : Rn :=
  match P.stmts[k]? with
  | some x => s.stmt P k x
  | none => s
def Rn.begin (P : PP) : Rn := ⟨List.replicate P.vars.length .none, [], []⟩
def Rn.run (P : PP) (l : List Nat) : Rn := l.foldl (Rn.step P) (Rn.begin P)

structure Rn.Ok (P : PP) (s : Rn) : Prop where
  lv : s.vars.length = P.vars.length
  rv : ∀ v ∈ s.vars, v.In P.vars.length s.things.length P.funs.length
  rt : ∀ v ∈ s.things, v.In P.vars.length s.things.length P.funs.length
  lp : s.places.length = s.things.length

/-- What a statement that is well has. -/
structure PP.Good (P : PP) (x : PS) : Prop where
  gx : 0 ≤ x.x ∧ x.x < P.vars.length
  yf : x.isK kFun = true → 0 ≤ x.y ∧ x.y < P.funs.length
  yv : x.isK kFun = false → x.isK kNew = false → 0 ≤ x.y ∧ x.y < P.vars.length
  args : ∀ a ∈ x.args, 0 ≤ a ∧ a < P.vars.length
theorem PP.inV_iff {P : PP} {n : Int} (h : P.inV n = true) : 0 ≤ n ∧ n < P.vars.length := by
  unfold PP.inV at h
  simp at h
  omega
theorem PP.good {P : PP} {x : PS} (h : P.stmtErr x = 0) : P.Good x := by
  unfold PP.stmtErr at h
  cases h1 : memB x.kind kindsS with
  | false => rw [h1] at h; simp at h
  | true =>
  cases h2 : P.bound x with
  | false => rw [h1, h2] at h; simp at h
  | true =>
  unfold PP.bound at h2
  simp only [Bool.and_eq_true] at h2
  refine ⟨PP.inV_iff h2.1.1, fun hf => ?_, fun hf hn => ?_, fun a ha => ?_⟩
  · have := h2.1.2
    unfold PP.boundY at this
    rw [hf] at this
    simpa using this
  · have := h2.1.2
    unfold PP.boundY at this
    rw [hf, hn] at this
    exact PP.inV_iff this
  · have := h2.2
    unfold PP.allV at this
    exact PP.inV_iff (List.all_eq_true.1 this a ha)
/-- What a function that is well has. -/
structure PP.GoodF (P : PP) (f : PF) : Prop where
  params : ∀ a ∈ f.params, 0 ≤ a ∧ a < P.vars.length
  ret : 0 ≤ f.ret ∧ f.ret < P.vars.length
  few : f.params.length ≤ 3
theorem PP.goodF {P : PP} (h : P.funsErr = 0) {f : PF} (hf : f ∈ P.funs) : P.GoodF f := by
  unfold PP.funsErr at h
  cases h1 : P.funs.any bad9 with
  | true => rw [h1] at h; simp at h
  | false =>
  cases h2 : P.funs.any P.bad2 with
  | true => rw [h1, h2] at h; simp at h
  | false =>
  have g1 := List.any_eq_false.1 h1 f hf
  have g2 := List.any_eq_false.1 h2 f hf
  unfold bad9 at g1
  unfold PP.bad2 PP.allV at g2
  simp at g1 g2
  exact ⟨fun a ha => PP.inV_iff (g2.1 a ha), PP.inV_iff g2.2, g1⟩

theorem Rn.Ok.at {P : PP} {s : Rn} (h : s.Ok P) (n : Int) : (s.at n).In P.vars.length s.things.length P.funs.length := by
  unfold Rn.at
  rw [List.getD_eq_getElem?_getD]
  cases hx : s.vars[n.toNat]? with
  | none => exact trivial
  | some v => exact h.rv v (List.mem_of_getElem? hx)
theorem Rn.Ok.get {P : PP} {s : Rn} (h : s.Ok P) (c : Vl) : (s.get c).In P.vars.length s.things.length P.funs.length := by
  cases c with
  | none => exact trivial
  | fn n => exact trivial
  | var n =>
    simp only [Rn.get, List.getD_eq_getElem?_getD]
    cases hx : s.vars[n]? with
    | none => exact trivial
    | some v => exact h.rv v (List.mem_of_getElem? hx)
  | thing n =>
    simp only [Rn.get, List.getD_eq_getElem?_getD]
    cases hx : s.things[n]? with
    | none => exact trivial
    | some v => exact h.rt v (List.mem_of_getElem? hx)
theorem Rn.Ok.set {P : PP} {s : Rn} (h : s.Ok P) (n : Int) {v : Vl} (hv : v.In P.vars.length s.things.length P.funs.length) : (s.set n v).Ok P := by
  refine ⟨by simp [Rn.set, h.lv], fun u hu => ?_, h.rt, h.lp⟩
  rcases List.mem_or_eq_of_mem_set hu with hu | rfl
  · exact h.rv u hu
  · exact hv
theorem Rn.Ok.put {P : PP} {s : Rn} (h : s.Ok P) (c : Vl) {v : Vl} (hv : v.In P.vars.length s.things.length P.funs.length) : (s.put c v).Ok P := by
  cases c with
  | none => exact h
  | fn n => exact h
  | var n => exact h.set (n : Int) hv
  | thing n =>
    refine ⟨h.lv, fun u hu => ?_, fun u hu => ?_, ?_⟩
    · simp only [Rn.put, List.length_set]; exact h.rv u hu
    · simp only [Rn.put, List.length_set]
      rcases List.mem_or_eq_of_mem_set hu with hu | rfl
      · exact h.rt u hu
      · exact hv
    · simp only [Rn.put, List.length_set]; exact h.lp
theorem Rn.Ok.give {P : PP} : ∀ (ps : List Int) (vs : List Vl) {s : Rn}, s.Ok P → (∀ v ∈ vs, v.In P.vars.length s.things.length P.funs.length) → (s.give ps vs).Ok P
  | [], _, _, h, _ => h
  | _ :: _, [], _, h, _ => h
  | p :: ps, v :: vs, s, h, hv => Rn.Ok.give ps vs (h.set p (hv v (List.mem_cons_self ..))) fun u hu => hv u (List.mem_cons_of_mem _ hu)
theorem Rn.Ok.call {P : PP} {s : Rn} (h : s.Ok P) (x : PS) : (s.call P x).Ok P := by
  unfold Rn.call
  split
  · split
    · rename_i f _
      unfold Rn.callF
      split
      · have h1 : (s.give f.params (x.args.map s.at)).Ok P := h.give _ _ (fun v hv => by
          obtain ⟨a, _, rfl⟩ := List.mem_map.1 hv
          exact h.at a)
        exact h1.set _ (h1.at _)
      · exact h
    · exact h
  · exact h
theorem Rn.Ok.stmt {P : PP} {s : Rn} (h : s.Ok P) (k : Nat) {x : PS} (hg : P.Good x) : (s.stmt P k x).Ok P := by
  unfold Rn.stmt
  cases h1 : x.isK kAddr with
  | true =>
    have hf : x.isK kFun = false := by unfold PS.isK at h1 ⊢; rw [eq_of_beq h1]; rfl
    have hn : x.isK kNew = false := by unfold PS.isK at h1 ⊢; rw [eq_of_beq h1]; rfl
    have := hg.yv hf hn
    exact h.set _ (show Vl.In _ _ _ (.var _) by simp only [Vl.In]; omega)
  | false =>
  cases h2 : x.isK kCopy with
  | true => exact h.set _ (h.at _)
  | false =>
  cases h3 : x.isK kLoad with
  | true =>
    simp only [cond_true, cond_false]
    cases h4 : (s.at x.y).isAddr with
    | true => exact h.set _ (h.get _)
    | false => exact h
  | false =>
  cases h4 : x.isK kStore with
  | true => exact h.put _ (h.at _)
  | false =>
  cases h5 : x.isK kNew with
  | true =>
    simp only [cond_true, cond_false]
    refine ⟨by simp [Rn.set, h.lv], fun u hu => ?_, fun u hu => ?_, by simp [h.lp]⟩
    · rcases List.mem_or_eq_of_mem_set hu with hu | rfl
      · exact (h.rv u hu).mono (by simp)
      · simp only [Vl.In, List.length_append, List.length_singleton]; omega
    · rcases List.mem_append.1 hu with hu | hu
      · exact (h.rt u hu).mono (by simp)
      · rw [List.mem_singleton.1 hu]; exact trivial
  | false =>
  cases h6 : x.isK kFun with
  | true =>
    have := hg.yf h6
    exact h.set _ (show Vl.In _ _ _ (.fn _) by simp only [Vl.In]; omega)
  | false =>
  cases h7 : x.isK kCall with
  | true => exact h.call x
  | false => exact h
theorem Rn.Ok.begin (P : PP) : (Rn.begin P).Ok P :=
  ⟨by simp [Rn.begin], fun v hv => by rw [(List.mem_replicate.1 hv).2]; exact trivial, fun v hv => (by cases hv), rfl⟩
end Go.Proofs.YtdppgcbekhabnaaGreatDoor



/- Runs: a state in memory; the cell that a value is the address of. -/
namespace Go.Proofs.YtdppgcbekhabnaaGreatDoor
set_option linter.unusedSimpArgs false
set_option linter.unusedVariables false
open Go Go.RowKit

def Rn.pl (s : Rn) : List Int := s.places.map Int.ofNat
def store2 (w : World) (g i : Nat) (y : Vl) : World := (w.setCell ⟨g, i, none⟩ (.string y.kind)).setCell ⟨g, i + 1, none⟩ (.int .i64 (y.num : Int))
/-- The address that a value is. -/
def Vl.ptr (vv tv : Value) : Vl → Value
  | .var n => .pointer (vv.ownBlock.map fun g => ⟨g, n * 2, Option.none⟩)
  | .thing n => .pointer (tv.ownBlock.map fun g => ⟨g, n * 2, Option.none⟩)
  | _ => .pointer Option.none

end Go.Proofs.YtdppgcbekhabnaaGreatDoor



/- Runs: what a statement does: those that set one variable, or a cell. -/
namespace Go.Proofs.YtdppgcbekhabnaaGreatDoor
set_option linter.unusedSimpArgs false
set_option linter.unusedVariables false
open Go Go.RowKit

theorem isK_ne {x : PS} {k k' : List UInt8} (h : x.isK k = true) (hne : (k == k') = false) : x.isK k' = false := by
  unfold PS.isK at h ⊢
  rw [eq_of_beq h]
  exact hne


end Go.Proofs.YtdppgcbekhabnaaGreatDoor



/- Runs: what a statement does: load and store. -/
namespace Go.Proofs.YtdppgcbekhabnaaGreatDoor
set_option linter.unusedSimpArgs false
set_option linter.unusedVariables false
open Go Go.RowKit


end Go.Proofs.YtdppgcbekhabnaaGreatDoor



/- Runs: what a call does. -/
namespace Go.Proofs.YtdppgcbekhabnaaGreatDoor
set_option linter.unusedSimpArgs false
set_option linter.unusedVariables false
open Go Go.RowKit

end Go.Proofs.YtdppgcbekhabnaaGreatDoor



/- Runs: a call that is done. -/
namespace Go.Proofs.YtdppgcbekhabnaaGreatDoor
set_option linter.unusedSimpArgs false
set_option linter.unusedVariables false
open Go Go.RowKit

end Go.Proofs.YtdppgcbekhabnaaGreatDoor



/- The reference's runs: a state in memory; statements that set one variable. -/
namespace Go.Proofs.YtdppgcbekhabnaaGreatDoor
set_option linter.unusedSimpArgs false
set_option linter.unusedVariables false
open Go Go.RowKit

end Go.Proofs.YtdppgcbekhabnaaGreatDoor



/- The reference's programs: variables, lists, names. -/
namespace Go.Proofs.YtdppgcbekhabnaaGreatDoor
set_option linter.unusedSimpArgs false
set_option linter.unusedVariables false
open Go Go.RowKit

end Go.Proofs.YtdppgcbekhabnaaGreatDoor



/- The reference's names. -/
namespace Go.Proofs.YtdppgcbekhabnaaGreatDoor
set_option linter.unusedSimpArgs false
set_option linter.unusedVariables false
open Go Go.RowKit Go.Shelf
open Go.Lib (trimS trimLeftS trimRightS toList_data)

def okAt (b k : Nat) : Bool := (decide (97 ≤ b) && decide (b ≤ 122)) || (decide (48 ≤ b) && decide (b ≤ 57) && !decide (k = 0))
end Go.Proofs.YtdppgcbekhabnaaGreatDoor



/- The reference's statements. -/
namespace Go.Proofs.YtdppgcbekhabnaaGreatDoor
set_option linter.unusedSimpArgs false
set_option linter.unusedVariables false
open Go Go.RowKit

end Go.Proofs.YtdppgcbekhabnaaGreatDoor


/- One that acts floats beside two that act in a row. -/
namespace Go.Proofs.YtdppgcbekhabnaaGreatDoor
set_option linter.unusedSimpArgs false
set_option linter.unusedVariables false
open Go Go.RowKit
section
variable {P : Program} {ops : Array Oper} {X : Nat → Prop} {w0 : World} {Q : Act → World → Prop} {L : List Nat}

end
end Go.Proofs.YtdppgcbekhabnaaGreatDoor



/- Runs: what a new thing does. -/
namespace Go.Proofs.YtdppgcbekhabnaaGreatDoor
set_option linter.unusedSimpArgs false
set_option linter.unusedVariables false
open Go Go.RowKit

/-- append of one element to a row of one's own, where the order is left open. -/
theorem does_append_el {ops : Array Oper} {o : Oper} {a : Act} {w : World} {R : Value → World → Prop} (base : Nat) (hbase : base ≤ w.heap.size) (t e : TypeId) (z : Value) (size bytes : Nat) (ht : Tryz.prog.underlying t = some (.slice e)) (hinf : (Tryz.prog.info? e).map (fun i => (i.zero, i.size, i.bytes)) = some (some z, size, bytes)) (hz1 : z.cells.size = size) (hsz : 0 < size)
    (hb8 : bytes ≤ 64) (hg : o.guard = none) (s x : Operand) (ho : o.op = .call { callee := .builtin .append, args := #[s, x], argTypes := #[t, t] })
    (v : Value) (n : Nat) (xs : List Value) (hs : a.eval s = v) (hown : w.ownsRow base e size v n xs) (g : Nat) (us : List Value) (hul : us.length = size) (hu : ∀ u ∈ us, u.oneCell' = true) (hx : a.eval x = .slice (some ⟨g, 0, none⟩) 1 1) (hb : Blk w g us.toArray e) (hl : n ≤ 1000000)
    (h : ∀ v' w', w'.ownsRow base e size v' (n + 1) (xs ++ us) → Keep (fun k => v.ownBlock = some k) w w' → (v'.ownBlock = v.ownBlock ∨ v'.ownBlock = some w.heap.size) → R v' w') : does Tryz.prog ops o a w R := by
  obtain ⟨ti, hi, hz0, hz, hz2⟩ := info_parts hinf
  obtain ⟨v', w', hr, h2, h3, _, h4⟩ := run_append_own_at (P := Tryz.prog) w base t o.type e ti z size bytes ht hi hz0 hz hz2 hz1 hsz v n xs hown ⟨g, 0, none⟩ 1 1 us (by rw [hul]; omega) (fun j q hq => by
    rw [show (⟨g, 0, none⟩ : Addr).add j = ⟨g, j, none⟩ from by by_cases h0 : j = 0 <;> simp [Addr.add, h0], hb.cell j]
    simpa using hq) hu (by simp only [maxLen]; omega) (by
      have : (n + 1) * bytes ≤ (n + 1) * 64 := Nat.mul_le_mul_left _ hb8
      omega) hbase
  exact does_of_run hg (run_exec_append s x t ho hs hx hr) (h v' w' h2 (grown_keep h3) h4)

section
variable {P : Program} {ops : Array Oper} {X : Nat → Prop} {w0 : World} {Q : Act → World → Prop} {L : List Nat}
theorem Flow.l {listed : Array Bool} {C : World → Prop} {a : Act} {v : Value} (i : Nat) (o : Oper) (ho : ops[i]? = some o) (hr : (Region.ready .any ops listed).contains i = true)
    (h : ∀ w, does P ops o a w (DetR v w)) (k : Flow P ops w0 Q X (i :: L) (listed.setIfInBounds i true) C (a.put o.dst v)) : Flow P ops w0 Q X L listed C a :=
  Flow.loose i o v ho (by simpa using hr) h k
end
/-- One number in a new block; one value that is none. -/
def IntOne (k : Nat) (u : Value) (w : World) : Prop := ∃ b, u = .slice (some ⟨b, 0, none⟩) 1 1 ∧ Blk w b #[.int .i64 (k : Int)] 3
theorem IntOne.ext {k : Nat} {u : Value} {w w' : World} (h : IntOne k u w) (x : Ext w w') : IntOne k u w' := by
  obtain ⟨b, e, hb⟩ := h
  exact ⟨b, e, hb.ext x⟩
theorem IntOne.mk (k : Nat) (w : World) : IntOne k (.slice (some ⟨w.heap.size, 0, none⟩) 1 1) (w.alloc (.cells #[.int .i64 (k : Int)] 3)) := ⟨_, rfl, Blk.new _ _ _⟩
end Go.Proofs.YtdppgcbekhabnaaGreatDoor

