
/- Links, plainly: a sender and a receiver. -/
import Derived.Test.YtcfopaopcbjkeaaDoorF4
namespace Go.Proofs.YtcfopaopcbjkeaaDoor
set_option linter.unusedSimpArgs false
set_option linter.unusedVariables false

/-- A sender of a link: the frames that are kept, each with the tick at which it was sent last. -/
structure Snd where
  fr : Int
  to : Int
  next : Int
  now : Int
  l : List (Fr × Int)
namespace Snd
def new (fr to : Int) : Snd := ⟨fr, to, 0, 0, []⟩
def frame (s : Snd) (kind : UInt8) (nums : List Int) : Fr := ⟨kind, s.fr, s.to, s.next, nums⟩
/-- An error's number. -/
def err (s : Snd) (kind : UInt8) (nums : List Int) : Nat := if (s.frame kind nums).code ≠ 0 then (s.frame kind nums).code else if kind = 97 then 4 else if 200 ≤ s.l.length then 8 else 0
def sent (s : Snd) (kind : UInt8) (nums : List Int) : Snd := { s with next := s.next + 1, l := s.l ++ [(s.frame kind nums, s.now)] }
def send (s : Snd) (kind : UInt8) (nums : List Int) : Snd := if s.err kind nums = 0 then s.sent kind nums else s
/-- At the next tick: is it sent again? -/
def late (s : Snd) (k : Fr × Int) : Bool := decide (s.now + 1 - k.2 = 3)
def stamp (s : Snd) (k : Fr × Int) : Fr × Int := if s.late k then (k.1, s.now + 1) else k
def tick (s : Snd) : Snd := { s with now := s.now + 1, l := s.l.map s.stamp }
def again (s : Snd) : List Fr := (s.l.filter s.late).map (·.1)
def acked (s : Snd) (n : Int) : Snd := { s with l := s.l.filter fun k => decide (n ≤ k.1.seq) }
/-- What bounds it. -/
structure Ok (s : Snd) (m : Nat) : Prop where
  next : 0 ≤ s.next ∧ s.next ≤ m
  now : 0 ≤ s.now ∧ s.now ≤ m
  at_ : ∀ k ∈ s.l, 0 ≤ k.2 ∧ k.2 ≤ s.now
  len : s.l.length ≤ 200
theorem Ok.new (fr to : Int) : (new fr to).Ok 0 := ⟨by simp [Snd.new], by simp [Snd.new], by simp [Snd.new], by simp [Snd.new]⟩
theorem Ok.mono {s : Snd} {m k : Nat} (h : s.Ok m) (hk : m ≤ k) : s.Ok k := ⟨by have := h.next; omega, by have := h.now; omega, h.at_, h.len⟩
theorem err_zero {s : Snd} {kind : UInt8} {nums : List Int} (h : s.err kind nums = 0) : (s.frame kind nums).code = 0 ∧ kind ≠ 97 ∧ s.l.length < 200 := by
  unfold err at h
  split at h
  · contradiction
  rename_i h1
  split at h
  · contradiction
  rename_i h2
  split at h
  · contradiction
  rename_i h3
  exact ⟨by omega, h2, by omega⟩
theorem Ok.sent {s : Snd} {m : Nat} (h : s.Ok m) {kind : UInt8} {nums : List Int} (hl : s.l.length < 200) : (s.sent kind nums).Ok (m + 1) := by
  have h1 := h.next
  have h2 := h.now
  refine ⟨by simp only [Snd.sent]; omega, by simp only [Snd.sent]; omega, fun k hk => ?_, by simp only [Snd.sent, List.length_append, List.length_cons, List.length_nil]; omega⟩
  simp only [Snd.sent, List.mem_append, List.mem_singleton] at hk ⊢
  rcases hk with hk | rfl
  · exact h.at_ k hk
  · exact ⟨h2.1, Int.le_refl _⟩
theorem Ok.send {s : Snd} {m : Nat} (h : s.Ok m) (kind : UInt8) (nums : List Int) : (s.send kind nums).Ok (m + 1) := by
  unfold Snd.send
  split
  · rename_i he
    exact h.sent (err_zero he).2.2
  · exact h.mono (by omega)
theorem Ok.tick {s : Snd} {m : Nat} (h : s.Ok m) : s.tick.Ok (m + 1) := by
  have h1 := h.next
  have h2 := h.now
  refine ⟨by simp only [Snd.tick]; omega, by simp only [Snd.tick]; omega, fun k hk => ?_, by simpa [Snd.tick] using h.len⟩
  simp only [Snd.tick, List.mem_map] at hk ⊢
  obtain ⟨x, hx, rfl⟩ := hk
  have := h.at_ x hx
  unfold stamp
  split
  · simp only; omega
  · omega
theorem Ok.acked {s : Snd} {m : Nat} (h : s.Ok m) (n : Int) : (s.acked n).Ok m :=
  ⟨h.next, h.now, fun k hk => h.at_ k ((List.mem_filter.1 hk).1), Nat.le_trans (List.length_filter_le _ _) h.len⟩
end Snd

/-- A receiver of a link. -/
structure Rcv where
  fr : Int
  to : Int
  due : Int
  wait : List Fr
namespace Rcv
def new (fr to : Int) : Rcv := ⟨fr, to, 0, []⟩
def find (l : List Fr) (q : Int) : Option Nat := l.findIdx? fun f => decide (f.seq = q)
/-- What waits is told, as long as the next one waits. -/
def run : Nat → Rcv → List Fr → List Fr × Rcv
  | 0, r, out => (out, r)
  | n + 1, r, out => match find r.wait r.due with
    | none => (out, r)
    | some k => run n { r with due := r.due + 1, wait := r.wait.eraseIdx k } (out ++ (r.wait[k]?).toList)
def err (r : Rcv) (f : Fr) : Nat := if f.code ≠ 0 then f.code else if f.fr ≠ r.fr ∨ f.to ≠ r.to ∨ f.kind = 97 then 3 else 0
/-- A right frame is taken: what is told, and what then is. -/
def took (r : Rcv) (f : Fr) : List Fr × Rcv :=
  if f.seq < r.due ∨ (find r.wait f.seq).isSome then ([], r)
  else if r.due < f.seq then ([], if r.wait.length < 8 then { r with wait := r.wait ++ [f] } else r)
  else run (r.wait.length + 1) { r with due := r.due + 1 } [f]
def take (r : Rcv) (f : Fr) : List Fr × Rcv := if r.err f = 0 then r.took f else ([], r)
theorem find_get {l : List Fr} {q : Int} {k : Nat} (h : find l q = some k) : ∃ f, l[k]? = some f ∧ f.seq = q := by
  obtain ⟨hk, h1, _⟩ := List.findIdx?_eq_some_iff_getElem.1 h
  exact ⟨l[k], List.getElem?_eq_getElem hk, of_decide_eq_true h1⟩
theorem find_lt {l : List Fr} {q : Int} {k : Nat} (h : find l q = some k) : k < l.length := by
  obtain ⟨f, hf, _⟩ := find_get h
  rcases Nat.lt_or_ge k l.length with h1 | h1
  · exact h1
  · rw [List.getElem?_eq_none h1] at hf; cases hf
end Rcv
end Go.Proofs.YtcfopaopcbjkeaaDoor
