
/- The same, in the order of the text: one step an operation. -/
import Derived.Test.YtcfopaopcbjkeaaDoorFlow
namespace Go.Proofs.YtcfopaopcbjkeaaDoor
set_option linter.unusedSimpArgs false
set_option linter.unusedVariables false
open Go Go.RowKit

section
variable {P : Program} {ops : Array Oper} {X : Nat → Prop} {w0 : World} {Q : Act → World → Prop}

/-- Each operation waits for earlier ones alone. -/
def lexOk (ops : Array Oper) : Bool := (List.range ops.size).all fun i => (List.range ops.size).all fun k => !waitsB ops i k || decide (k < i)
/-- .. and an edge names an operation that there is. -/
def edgesIn (ops : Array Oper) : Bool := (List.range ops.size).all fun i => (((ops[i]?).map fun o => o.after.all fun e => !Region.binds .any e || decide (e.on < ops.size))).getD true

def firsts (n k : Nat) : Array Bool := ((List.range n).map fun i => decide (i < k)).toArray
theorem firsts_getD (n k i : Nat) : (firsts n k).getD i false = (decide (i < k) && decide (i < n)) := by
  by_cases h : i < n <;> simp [firsts, h]
theorem firsts_set {n k : Nat} (_h : k < n) : (firsts n k).setIfInBounds k true = firsts n (k + 1) := by
  apply Array.ext
  · simp [firsts]
  · intro i h1 h2
    simp only [firsts, Array.size_setIfInBounds, List.size_toArray, List.length_map, List.length_range] at h1 h2
    rw [Array.getElem_setIfInBounds (by simpa [firsts] using h1)]
    by_cases hk : k = i
    · subst hk; simp [firsts]
    · simp [firsts, hk]; omega
theorem firsts_zero (n : Nat) : firsts n 0 = Array.replicate n false := by
  apply Array.ext
  · simp [firsts]
  · intro i h1 h2; simp [firsts]

theorem lex_ready (h : lexOk ops = true) (he : edgesIn ops = true) {k : Nat} (hk : k < ops.size) : k ∈ Region.ready .any ops (firsts ops.size k) := by
  refine ready_iff.2 ⟨?_, hk, fun j hj => ?_⟩
  · rw [getD_tf (by simpa [firsts] using hk), firsts_getD]; simp
  · have hjs : j < ops.size := by
      simp only [edgesIn, List.all_eq_true, List.mem_range] at he
      have h1 := he k hk
      unfold waitsB at hj
      simp only [Array.getElem?_eq_getElem hk, Option.map_some, Option.getD_some] at h1 hj
      obtain ⟨e, hm, hb⟩ := Array.any_eq_true'.1 hj
      simp only [Bool.and_eq_true, beq_iff_eq] at hb
      have h2 := (Array.all_eq_true'.1 h1) e hm
      simp only [hb.1, Bool.not_true, Bool.false_or, decide_eq_true_eq] at h2
      omega
    simp only [lexOk, List.all_eq_true, List.mem_range, Bool.or_eq_true, Bool.not_eq_true', decide_eq_true_eq] at h
    have hlt : j < k := by
      rcases h k hk j hjs with h3 | h3
      · rw [h3] at hj; cases hj
      · exact h3
    rw [firsts_getD]; simp [hlt, hjs]

/-- What is left of the text. -/
def FlowT (P : Program) (ops : Array Oper) (X : Nat → Prop) (w0 : World) (Q : Act → World → Prop) (L : List Nat) (rest : List Oper) (C : World → Prop) (a : Act) : Prop :=
  ∀ k, k + rest.length = ops.size → (∀ j, rest[j]? = ops[k + j]?) → lexOk ops = true → edgesIn ops = true → (∀ j ∈ L, j < k) → Flow P ops w0 Q X L (firsts ops.size k) C a

variable {L : List Nat}
theorem FlowT.fin {C : World → Prop} {a : Act} (h : ∀ w, C w → Keep X w0 w → Q a w) : FlowT P ops X w0 Q L [] C a := by
  intro k hk hl _ _ _
  have hk' : k = ops.size := by simpa using hk
  refine Flow.fin (List.eq_nil_iff_forall_not_mem.2 fun i hi => ?_) h
  obtain ⟨h1, h2, _⟩ := ready_iff.1 hi
  rw [getD_tf (by simpa [firsts] using h2), firsts_getD] at h1
  simp [hk', h2] at h1

theorem FlowT.det {C : World → Prop} {a : Act} {o : Oper} {rest : List Oper} (v : Value) (h : ∀ w, Keep X w0 w → does P ops o a w fun v' w' => v' = v ∧ Ext w w')
    (k : FlowT P ops X w0 Q L rest C (a.put o.dst v)) : FlowT P ops X w0 Q L (o :: rest) C a := by
  intro n hn hl hx he hL
  have hns : n < ops.size := by simp at hn; omega
  have ho : ops[n]? = some o := by have := hl 0; simpa using this.symm
  refine Flow.det n o v (fun hm => by have := hL n hm; omega) ho (lex_ready hx he hns) h ?_
  rw [firsts_set hns]
  exact k (n + 1) (by simp at hn; omega) (fun j => by have := hl (j + 1); rw [show n + 1 + j = n + (j + 1) by omega]; simpa using this) hx he (fun j hj => by have := hL j hj; omega)

/-- A value in whatever world. n: its number. -/
theorem FlowT.loose {C : World → Prop} {a : Act} {o : Oper} {rest : List Oper} (v : Value) (n : Nat) (hn : n + (o :: rest).length = ops.size) (h : ∀ w, does P ops o a w fun v' w' => v' = v ∧ Ext w w')
    (k : FlowT P ops X w0 Q (n :: L) rest C (a.put o.dst v)) : FlowT P ops X w0 Q L (o :: rest) C a := by
  intro n' hn' hl hx he hL
  obtain rfl : n' = n := by omega
  have hns : n' < ops.size := by simp at hn; omega
  have ho : ops[n']? = some o := by have := hl 0; simpa using this.symm
  refine Flow.loose n' o v ho (lex_ready hx he hns) h ?_
  rw [firsts_set hns]
  exact k (n' + 1) (by simp at hn; omega) (fun j => by have := hl (j + 1); rw [show n' + 1 + j = n' + (j + 1) by omega]; simpa using this) hx he (fun j hj => by
    rcases List.mem_cons.1 hj with rfl | hj
    · omega
    · have := hL j hj; omega)

/-- The only one that may come now. -/
def aloneB (ops : Array Oper) (k : Nat) : Bool := Region.ready .any ops (firsts ops.size k) == [k]

theorem FlowT.act {C : World → Prop} {a : Act} {o : Oper} {rest : List Oper} (R : Value → World → Prop) (n : Nat) (hn : n + (o :: rest).length = ops.size) (hal : aloneB ops n = true)
    (h : ∀ w, C w → Keep X w0 w → does P ops o a w fun v w' => Keep X w0 w' ∧ R v w')
    (k : ∀ v, (∃ w, R v w) → FlowT P ops X w0 Q L rest (fun w => ∃ w1, R v w1 ∧ Ext w1 w) (a.put o.dst v)) : FlowT P ops X w0 Q L (o :: rest) C a := by
  intro n' hn' hl hx he hL
  obtain rfl : n' = n := by omega
  have hns : n' < ops.size := by simp at hn; omega
  have ho : ops[n']? = some o := by have := hl 0; simpa using this.symm
  have hr : Region.ready .any ops (firsts ops.size n') = [n'] := by simpa [aloneB] using hal
  refine Flow.act (fun _ => o) (fun _ => R) (by rw [hr]; simp) (fun i hi => ?_) (fun i hi => h) (fun i hi v hv => ?_)
  · rw [hr] at hi; obtain rfl : i = n' := by simpa using hi
    exact ho
  · rw [hr] at hi; obtain rfl : i = n' := by simpa using hi
    rw [firsts_set hns]
    exact k v hv (i + 1) (by simp at hn; omega) (fun j => by have := hl (j + 1); rw [show i + 1 + j = i + (j + 1) by omega]; simpa using this) hx he (fun j hj => by have := hL j hj; omega)

def waits2B (ops : Array Oper) (n j : Nat) : Bool := waitsB ops n j || (List.range ops.size).any fun k => waitsB ops n k && waitsB ops k j
theorem waits2_of {n j : Nat} (h : waits2B ops n j = true) : waits2 ops n j := by
  simp only [waits2B, Bool.or_eq_true] at h
  refine h.imp id fun h1 => ?_
  obtain ⟨k, _, h2⟩ := List.any_eq_true.1 h1
  simp only [Bool.and_eq_true] at h2
  exact ⟨k, h2⟩

/-- From here on other blocks may be written: all that is not loose is done. -/
def turnB (ops : Array Oper) (n : Nat) (L : List Nat) : Bool := (List.range n).all fun j => L.contains j || waits2B ops n j
theorem FlowT.turn {C : World → Prop} {a : Act} {o : Oper} {rest : List Oper} (Y : Nat → Prop) (R : Value → World → Prop) (n : Nat) (hn : n + (o :: rest).length = ops.size) (hal : aloneB ops n = true) (ht : turnB ops n L = true)
    (h : ∀ w, C w → Keep X w0 w → does P ops o a w fun v w' => Keep Y w0 w' ∧ R v w')
    (k : ∀ v, (∃ w, R v w) → FlowT P ops Y w0 Q L rest (fun w => ∃ w1, R v w1 ∧ Ext w1 w) (a.put o.dst v)) : FlowT P ops X w0 Q L (o :: rest) C a := by
  intro n' hn' hl hx he hL
  obtain rfl : n' = n := by omega
  have hns : n' < ops.size := by simp at hn; omega
  have ho : ops[n']? = some o := by have := hl 0; simpa using this.symm
  have hr : Region.ready .any ops (firsts ops.size n') = [n'] := by simpa [aloneB] using hal
  refine Flow.turn Y n' o R ho hr (fun j hj => ?_) h (fun v hv => ?_)
  · rw [firsts_getD] at hj
    simp only [Bool.and_eq_true, decide_eq_true_eq] at hj
    simp only [turnB, List.all_eq_true, List.mem_range, Bool.or_eq_true, List.contains_iff_mem] at ht
    exact (ht j hj.1).imp id waits2_of
  · rw [firsts_set hns]
    exact k v hv (n' + 1) (by simp at hn; omega) (fun j => by have := hl (j + 1); rw [show n' + 1 + j = n' + (j + 1) by omega]; simpa using this) hx he (fun j hj => by have := hL j hj; omega)

def sinkAllB (ops : Array Oper) (n : Nat) : Bool := (List.range ops.size).all fun j => decide (j = n) || waits2B ops n j
/-- The last one, which waits for all others. -/
theorem FlowT.last {C : World → Prop} {a : Act} {o : Oper} (R : Value → World → Prop) (n : Nat) (hn : n + 1 = ops.size) (hal : aloneB ops n = true) (hs : sinkAllB ops n = true)
    (h : ∀ w, C w → Keep X w0 w → does P ops o a w R) (k : ∀ v w', R v w' → Q (a.put o.dst v) w') : FlowT P ops X w0 Q L [o] C a := by
  intro n' hn' hl hx he hL
  obtain rfl : n' = n := by simp at hn'; omega
  have hns : n' < ops.size := by omega
  have ho : ops[n']? = some o := by have := hl 0; simpa using this.symm
  have hr : Region.ready .any ops (firsts ops.size n') = [n'] := by simpa [aloneB] using hal
  refine Flow.last n' o R ho hr (fun j hj hne => ?_) h k
  simp only [sinkAllB, List.all_eq_true, List.mem_range, Bool.or_eq_true, decide_eq_true_eq] at hs
  exact waits2_of ((hs j hj).resolve_left hne)

def regionOk (ops : Array Oper) : Bool := okB ops && (lexOk ops && edgesIn ops)

theorem wp_flowT {id : Nat} {Q : Exit → Act → World → Prop} {a : Act} {w : World} {l : List Oper} (X : Nat → Prop) (hm : P.follows .mixedOrders = true) (hB : regionOk l.toArray = true)
    (h : FlowT P l.toArray X w (Q .normal) [] l (fun w' => Ext w w') a) : (Code.region id l.toArray true).wp P Q a w := by
  simp only [regionOk, Bool.and_eq_true] at hB
  refine wp_flow X hm hB.1 ?_
  rw [← firsts_zero]
  exact h 0 (by simp) (fun j => by simp) hB.2.1 hB.2.2 (fun j hj => by simp at hj)

end
end Go.Proofs.YtcfopaopcbjkeaaDoor
