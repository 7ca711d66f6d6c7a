
/- Small words that all walks use. -/
import Derived.Test.YtcfopaopcbjkeaaDoorFlowT
import Derived.WalkKit
import Derived.WalkSpells
import Derived.WalkLawsBesides
import Derived.Outline
namespace Go.Proofs.YtcfopaopcbjkeaaDoor
set_option linter.unusedSimpArgs false
set_option linter.unusedVariables false
open Go Go.RowKit

theorem hid {p : Prop} (h : p) : Hid p := h
attribute [go_sem] Oper.doesUpon_value Oper.doesUpon_skip

def DetR (v : Value) (w : World) : Value → World → Prop := fun v' w' => v' = v ∧ Ext w w'
def CallR (R : Value → World → Prop) : Ending → World → Prop := fun e w => ∃ v, e = .returned v ∧ R v w
theorem DetR.mk {v : Value} {w : World} : DetR v w v w := ⟨rfl, Ext.refl _⟩
theorem doesUpon_enter' {P : Program} (R : Value → World → Prop) (f : FuncId) (args : Array Value) (w : World) : Oper.doesUpon P R (.ok (.enter f args) w) = Calls P f args w (CallR R) := rfl
attribute [go_sem] doesUpon_enter'

section
variable {P : Program} {ops : Array Oper} {X : Nat → Prop} {w0 : World} {Q : Act → World → Prop} {L : List Nat}
theorem FlowT.d {C : World → Prop} {a : Act} {o : Oper} {rest : List Oper} (v : Value) (h : ∀ w, Keep X w0 w → does P ops o a w (DetR v w))
    (k : FlowT P ops X w0 Q L rest C (a.put o.dst v)) : FlowT P ops X w0 Q L (o :: rest) C a := FlowT.det v h k

/-- What an operation that acts leaves. -/
def ActR (X : Nat → Prop) (w0 : World) (R : Value → World → Prop) : Value → World → Prop := fun v w' => Keep X w0 w' ∧ R v w'
theorem FlowT.a {C : World → Prop} {a : Act} {o : Oper} {rest : List Oper} (R : Value → World → Prop) (n : Nat) (hn : n + (o :: rest).length = ops.size) (hal : aloneB ops n = true)
    (h : ∀ w, C w → Keep X w0 w → does P ops o a w (ActR X w0 R))
    (k : ∀ v, (∃ w, R v w) → FlowT P ops X w0 Q L rest (fun w => ∃ w1, R v w1 ∧ Ext w1 w) (a.put o.dst v)) : FlowT P ops X w0 Q L (o :: rest) C a := FlowT.act R n hn hal h k
theorem Flow.mono {full : Array Bool} {C : World → Prop} {a : Act} (h : Flow P ops w0 Q X L full C a) : ∀ {C' : World → Prop}, (∀ w, C' w → C w) → Flow P ops w0 Q X L full C' a := by
  induction h with
  | fin hr h => exact fun hc => Flow.fin hr fun w hw => h w (hc w hw)
  | det i o v hL ho hr h k ih => exact fun hc => Flow.det i o v hL ho hr h (ih hc)
  | loose i o v ho hr h k ih => exact fun hc => Flow.loose i o v ho hr h (ih hc)
  | act O R hn ho h k ih => exact fun hc => Flow.act O R hn ho (fun i hi w hw => h i hi w (hc w hw)) k
  | turn Y i o R ho hr hw h k ih => exact fun hc => Flow.turn Y i o R ho hr hw (fun w hw => h w (hc w hw)) k
  | last i o R ho hr hall h k => exact fun hc => Flow.last i o R ho hr hall (fun w hw => h w (hc w hw)) k
/-- .. where what is left stays so as new blocks come. -/
theorem FlowT.s {C : World → Prop} {a : Act} {o : Oper} {rest : List Oper} (R : Value → World → Prop) (n : Nat) (hn : n + (o :: rest).length = ops.size) (hal : aloneB ops n = true)
    (hR : ∀ v w w', R v w → Ext w w' → R v w') (h : ∀ w, C w → Keep X w0 w → does P ops o a w (ActR X w0 R))
    (k : ∀ v, (∃ w, R v w) → FlowT P ops X w0 Q L rest (R v) (a.put o.dst v)) : FlowT P ops X w0 Q L (o :: rest) C a :=
  FlowT.act R n hn hal h fun v hv k' h1 h2 h3 h4 h5 => Flow.mono (k v hv k' h1 h2 h3 h4 h5) fun _ ⟨_, hw, he⟩ => hR _ _ _ hw he
/-- A value in whatever world. -/
theorem FlowT.l {C : World → Prop} {a : Act} {o : Oper} {rest : List Oper} {v : Value} (n : Nat) (hn : n + (o :: rest).length = ops.size) (h : ∀ w, does P ops o a w (DetR v w))
    (k : FlowT P ops X w0 Q (n :: L) rest C (a.put o.dst v)) : FlowT P ops X w0 Q L (o :: rest) C a := FlowT.loose v n hn h k
/-- From here on other blocks may be written. -/
theorem FlowT.t {C : World → Prop} {a : Act} {o : Oper} {rest : List Oper} (Y : Nat → Prop) (R : Value → World → Prop) (n : Nat) (hn : n + (o :: rest).length = ops.size) (hal : aloneB ops n = true) (ht : turnB ops n L = true)
    (hR : ∀ v w w', R v w → Ext w w' → R v w') (h : ∀ w, C w → Keep X w0 w → does P ops o a w (ActR Y w0 R))
    (k : ∀ v, (∃ w, R v w) → FlowT P ops Y w0 Q L rest (R v) (a.put o.dst v)) : FlowT P ops X w0 Q L (o :: rest) C a :=
  FlowT.turn Y R n hn hal ht h fun v hv k' h1 h2 h3 h4 h5 => Flow.mono (k v hv k' h1 h2 h3 h4 h5) fun _ ⟨_, hw, he⟩ => hR _ _ _ hw he
/-- .. where the value is known. -/
theorem FlowT.v {C : World → Prop} {a : Act} {o : Oper} {rest : List Oper} (v : Value) (R : World → Prop) (n : Nat) (hn : n + (o :: rest).length = ops.size) (hal : aloneB ops n = true)
    (hR : ∀ w w', R w → Ext w w' → R w') (h : ∀ w, C w → Keep X w0 w → does P ops o a w (ActR X w0 fun v' w' => v' = v ∧ R w'))
    (k : FlowT P ops X w0 Q L rest R (a.put o.dst v)) : FlowT P ops X w0 Q L (o :: rest) C a :=
  FlowT.act (fun v' w' => v' = v ∧ R w') n hn hal h fun v' ⟨_, hv, _⟩ k' h1 h2 h3 h4 h5 => by
    subst hv
    exact Flow.mono (k k' h1 h2 h3 h4 h5) fun _ ⟨_, hw, he⟩ => hR _ _ hw.2 he
/-- Several may come now; each leaves what stays so. -/
theorem Flow.acts {listed : Array Bool} {C : World → Prop} {a : Act} (rs : List Nat) (hr : (Region.ready .any ops listed == rs) = true) (hne : rs ≠ []) (O : Nat → Oper) (R : Nat → Value → World → Prop)
    (hR : ∀ i v w w', R i v w → Ext w w' → R i v w') (h : ∀ i ∈ rs, ops[i]? = some (O i) ∧ ∀ w, C w → Keep X w0 w → does P ops (O i) a w (ActR X w0 (R i)))
    (k : ∀ i ∈ rs, ∀ v, (∃ w, R i v w) → Flow P ops w0 Q X L (listed.setIfInBounds i true) (R i v) (a.put (O i).dst v)) : Flow P ops w0 Q X L listed C a := by
  have hr' : Region.ready .any ops listed = rs := by simpa using hr
  refine Flow.act O R (by rw [hr']; exact hne) (fun i hi => (h i (by rwa [hr'] at hi)).1) (fun i hi => (h i (by rwa [hr'] at hi)).2) (fun i hi v hv => ?_)
  exact Flow.mono (k i (by rwa [hr'] at hi) v hv) fun _ ⟨_, hw, he⟩ => hR _ _ _ _ hw he
/-- One that gives its value. -/
theorem Flow.d {listed : Array Bool} {C : World → Prop} {a : Act} {v : Value} (i : Nat) (o : Oper) (ho : ops[i]? = some o) (hL : i ∉ L) (hr : (Region.ready .any ops listed).contains i = true)
    (h : ∀ w, Keep X w0 w → does P ops o a w (DetR v w)) (k : Flow P ops w0 Q X L (listed.setIfInBounds i true) C (a.put o.dst v)) : Flow P ops w0 Q X L listed C a :=
  Flow.det i o v hL ho (by simpa using hr) h k
theorem CallR.det {f : FuncId} {args : Array Value} {w : World} {v : Value} (h : Calls P f args w fun e w' => e = .returned v ∧ Ext w w') : Calls P f args w (CallR (DetR v w)) :=
  h.mono fun _ _ ⟨he, hx⟩ => ⟨v, he, rfl, hx⟩
theorem CallR.act {f : FuncId} {args : Array Value} {w : World} {R : Value → World → Prop} (h : Calls P f args w fun e w' => ∃ v, e = .returned v ∧ Keep X w0 w' ∧ R v w') : Calls P f args w (CallR (ActR X w0 R)) := h
end

/-- Block b holds the cells c. -/
def Blk (w : World) (b : Nat) (c : Array Value) (e : TypeId) : Prop := w.heap[b]? = some (.cells c e (0, 0))
theorem Blk.cell {w : World} {b : Nat} {c : Array Value} {e : TypeId} (h : Blk w b c e) (i : Nat) : w.cell? ⟨b, i, none⟩ = c[i]? := by
  unfold Blk at h; simp [World.cell?, h]
theorem Blk.free {w : World} {b : Nat} {c : Array Value} {e : TypeId} (h : Blk w b c e) (i : Nat) : w.frozen? ⟨b, i, none⟩ = false := by
  unfold Blk at h; simp [World.frozen?, h]
theorem Blk.lt {w : World} {b : Nat} {c : Array Value} {e : TypeId} (h : Blk w b c e) : b < w.heap.size := (Array.getElem?_eq_some_iff.1 h).1
theorem Blk.ext {w w' : World} {b : Nat} {c : Array Value} {e : TypeId} (h : Blk w b c e) (x : Ext w w') : Blk w' b c e := Ext.get x h
theorem Blk.keep {X : Nat → Prop} {w w' : World} {b : Nat} {c : Array Value} {e : TypeId} (h : Blk w b c e) (x : Keep X w w') (hx : ¬ X b) : Blk w' b c e := Keep.get x h hx
theorem Blk.new (w : World) (c : Array Value) (e : TypeId) : Blk (w.alloc (.cells c e)) w.heap.size c e := heap_alloc_new w _
theorem Blk.alloc {w : World} {b : Nat} {c : Array Value} {e : TypeId} (h : Blk w b c e) (o : Obj) : Blk (w.alloc o) b c e := (heap_alloc_old w o h.lt).trans h
theorem Blk.set {w : World} {b : Nat} {c : Array Value} {e : TypeId} (h : Blk w b c e) (i : Nat) (v : Value) : Blk (w.setCell ⟨b, i, none⟩ v) b (c.setIfInBounds i v) e := by
  unfold Blk at *; simp [World.setCell, Array.getElem?_modify, h]
theorem Blk.set_ne {w : World} {b : Nat} {c : Array Value} {e : TypeId} (h : Blk w b c e) {p : Addr} (hp : p.block ≠ b) (v : Value) : Blk (w.setCell p v) b c e := by
  unfold Blk at *; rw [Below.heap_setCell _ _ _ _ (Ne.symm hp)]; exact h
theorem Blk.drew {w : World} {b : Nat} {c : Array Value} {e : TypeId} (h : Blk w b c e) : Blk w.drew b c e := h
theorem Keep.set {X : Nat → Prop} {a w : World} (h : Keep X a w) {p : Addr} (hp : X p.block) (v : Value) : Keep X a (w.setCell p v) :=
  h.trans ⟨rfl, rfl, rfl, by simp [World.setCell], fun k _ hk => Below.heap_setCell _ _ _ _ (fun e => hk (e ▸ hp))⟩
theorem Keep.ext_r {X : Nat → Prop} {a b c : World} (h : Keep X a b) (x : Ext b c) : Keep X a c := h.trans (x.keep X)
theorem Keep.alloc {X : Nat → Prop} {a w : World} (h : Keep X a w) (o : Obj) : Keep X a (w.alloc o) := h.trans (((Ext.refl w).alloc o).keep X)
theorem Blk.kc {X : Nat → Prop} {W : World} {b : Nat} {c : Array Value} {e : TypeId} (h : Blk W b c e) (hx : ¬ X b) (i : Nat) {v : Value} (hv : c[i]? = some v) : ∀ w1, Keep X W w1 → w1.cell? ⟨b, i, none⟩ = some v :=
  fun _ hk => ((h.keep hk hx).cell i).trans hv
theorem Blk.ec {W : World} {b : Nat} {c : Array Value} {e : TypeId} (h : Blk W b c e) (i : Nat) {v : Value} (hv : c[i]? = some v) : ∀ w1, Ext W w1 → w1.cell? ⟨b, i, none⟩ = some v :=
  fun _ hk => ((h.ext hk).cell i).trans hv
/-- What is written may be what is new. -/
theorem Keep.sub {X : Nat → Prop} {a b c : World} (h : Ext a b) (k : Keep X b c) {Y : Nat → Prop} (hx : ∀ n, X n → a.heap.size ≤ n ∨ Y n) : Keep Y a c :=
  ⟨k.os.trans h.os, k.tape.trans h.tape, k.output.trans h.output, Nat.le_trans h.size k.size, fun i hi hy => (k.block i (Nat.lt_of_lt_of_le hi h.size) fun hX => (hx i hX).elim (fun h => by omega) hy).trans (h.block i hi)⟩
theorem Keep.new {X : Nat → Prop} {a b c : World} (h : Ext a b) (k : Keep X b c) (hx : ∀ n, X n → a.heap.size ≤ n) : Ext a c :=
  (Keep.sub h k (Y := fun _ => False) fun n hn => .inl (hx n hn)).ext
theorem heap_size_alloc (w : World) (o : Obj) : (w.alloc o).heap.size = w.heap.size + 1 := by simp

/-- The errors' variables, by their numbers. -/
def gE : Nat → Nat
  | 1 => 4
  | 2 => 3
  | 3 => 2
  | 4 => 0
  | 5 => 5
  | 6 => 6
  | 7 => 7
  | 8 => 1
  | 9 => 8
  | 10 => 9
  | 11 => 10
  | _ => 99999
end Go.Proofs.YtcfopaopcbjkeaaDoor
