
/- A ring's play, plainly: what its state is and what a number does to it. -/
import Derived.KernelRfl
namespace Go.Proofs.YtcfopaopcbjkeaaDoor
set_option linter.unusedSimpArgs false
set_option linter.unusedVariables false

/-- What a play is: peers (count, black), who is active, to whom messages are under way, the token (count, black), who has it, was it not sent round yet, is it told. -/
structure RS where
  ps : List (Int × Bool)
  ac : List Bool
  un : List Nat
  tc : Int
  tb : Bool
  pos : Nat
  fr : Bool
  told : Bool

namespace RS
def n (s : RS) : Nat := s.ps.length
def init (n : Nat) : RS := { ps := List.replicate n (0, false), ac := List.replicate n true, un := [], tc := 0, tb := false, pos := 0, fr := true, told := false }
def cnt (s : RS) (i : Nat) : Int := (s.ps.getD i (0, false)).1
def blk (s : RS) (i : Nat) : Bool := (s.ps.getD i (0, false)).2
def act (s : RS) (i : Nat) : Bool := s.ac.getD i false
def goal (s : RS) (q : Nat) : Nat := (q % s.n + 1 + q / s.n % (s.n - 1)) % s.n
def send (s : RS) (q : Nat) : RS :=
  if s.act (q % s.n) then { s with ps := s.ps.set (q % s.n) (s.cnt (q % s.n) + 1, s.blk (q % s.n)), un := s.un ++ [s.goal q] } else s
def come (s : RS) (q : Nat) : RS :=
  if s.un.length = 0 then s else
    let k := q % s.un.length
    let to := s.un.getD k 0
    { s with un := s.un.eraseIdx k, ps := s.ps.set to (s.cnt to - 1, true), ac := s.ac.set to true }
def over (s : RS) : Bool := !s.fr && (!s.blk 0 && !s.tb && (s.cnt 0 + s.tc == 0))
def pass (s : RS) : RS :=
  if s.act s.pos then s
  else if 0 < s.pos then { s with ps := s.ps.set s.pos (s.cnt s.pos, false), tc := s.tc + s.cnt s.pos, tb := s.tb || s.blk s.pos, pos := s.pos - 1 }
  else if s.over then { s with told := true }
  else { s with ps := s.ps.set 0 (s.cnt 0, false), tc := 0, tb := false, pos := s.n - 1, fr := false }
def quiet (s : RS) (q : Nat) : RS := { s with ac := s.ac.set (q % s.n) false }
def does (s : RS) (v : Int) : RS :=
  if v < 0 ∨ s.told then s else
    let q := (v / 4).toNat
    if v % 4 = 0 then s.send q else if v % 4 = 1 then s.come q else if v % 4 = 2 then s.quiet q else s.pass

/-- What always is so: m bounds the counts. -/
structure Ok (s : RS) (m : Nat) : Prop where
  lo : 2 ≤ s.n
  hi : s.n ≤ 6
  la : s.ac.length = s.n
  pos : s.pos < s.n
  un : ∀ t ∈ s.un, t < s.n
  ul : s.un.length ≤ m
  cb : ∀ i, -(m : Int) ≤ s.cnt i ∧ s.cnt i ≤ m
  tb : -((m * m : Nat) : Int) ≤ s.tc ∧ s.tc ≤ (m * m : Nat)

theorem Ok.mono {s : RS} {m k : Nat} (h : s.Ok m) (hk : m ≤ k) : s.Ok k := by
  have h1 : m * m ≤ k * k := Nat.mul_le_mul hk hk
  refine ⟨h.lo, h.hi, h.la, h.pos, h.un, by have := h.ul; omega, fun i => ?_, ?_⟩
  · have := h.cb i; omega
  · have := h.tb
    exact ⟨by omega, by omega⟩

theorem cnt_set {s : RS} {l : List (Int × Bool)} {i j : Nat} {x : Int × Bool} (hl : l = s.ps.set i x) (hi : i < s.n) : (l.getD j (0, false)).1 = if i = j then x.1 else s.cnt j := by
  subst hl
  simp only [List.getD_eq_getElem?_getD, List.getElem?_set, cnt]
  by_cases h : i = j
  · subst h; simp [show i < s.ps.length from hi]
  · simp [h]

theorem Ok.init {n : Nat} (h1 : 2 ≤ n) (h2 : n ≤ 6) : (RS.init n).Ok 0 := by
  refine ⟨by simpa [RS.n, RS.init] using h1, by simpa [RS.n, RS.init] using h2, by simp [RS.n, RS.init], by simp [RS.n, RS.init]; omega, by simp [RS.init], by simp [RS.init], fun i => ?_, by simp [RS.init]⟩
  simp only [RS.cnt, RS.init, List.getD_eq_getElem?_getD, List.getElem?_replicate]
  split <;> simp

theorem n_set (s : RS) (i : Nat) (x : Int × Bool) : (s.ps.set i x).length = s.n := by simp [RS.n]

theorem sq_succ (m : Nat) : (m + 1) * (m + 1) = m * m + 2 * m + 1 := by
  rw [Nat.add_mul, Nat.mul_add]; omega

theorem Ok.send {s : RS} {m : Nat} (h : s.Ok m) (q : Nat) : (s.send q).Ok (m + 1) := by
  unfold RS.send
  split
  · have hn : q % s.n < s.n := Nat.mod_lt _ (by have := h.lo; omega)
    refine ⟨by simpa [RS.n] using h.lo, by simpa [RS.n] using h.hi, by simpa [RS.n] using h.la, by simpa [RS.n] using h.pos, ?_, ?_, fun i => ?_, ?_⟩
    · intro t ht
      simp only [List.mem_append, List.mem_singleton] at ht
      rcases ht with ht | ht
      · simpa [RS.n] using h.un t ht
      · subst ht; simp only [RS.n, List.length_set]; exact Nat.mod_lt _ (by have := h.lo; simp only [RS.n] at this; omega)
    · have := h.ul; simp; omega
    · have h1 := h.cb i
      have h2 := h.cb (q % s.n)
      have e := cnt_set (s := s) (j := i) (x := (s.cnt (q % s.n) + 1, s.blk (q % s.n))) rfl hn
      show -_ ≤ (List.getD (α := Int × Bool) _ i (0, false)).1 ∧ (List.getD (α := Int × Bool) _ i (0, false)).1 ≤ _
      rw [e]
      split <;> constructor <;> (try simp only) <;> omega
    · have := h.tb; have := sq_succ m; exact ⟨by simp only; omega, by simp only; omega⟩
  · exact h.mono (by omega)

theorem Ok.come {s : RS} {m : Nat} (h : s.Ok m) (q : Nat) : (s.come q).Ok (m + 1) := by
  unfold RS.come
  split
  · exact h.mono (by omega)
  · rename_i hu
    have hk : q % s.un.length < s.un.length := Nat.mod_lt _ (by omega)
    have hto : s.un.getD (q % s.un.length) 0 < s.n := by
      apply h.un
      simp only [List.getD_eq_getElem?_getD, List.getElem?_eq_getElem hk, Option.getD_some]
      exact List.getElem_mem _
    refine ⟨by simpa [RS.n] using h.lo, by simpa [RS.n] using h.hi, by simpa [RS.n] using h.la, by simpa [RS.n] using h.pos, ?_, ?_, fun i => ?_, ?_⟩
    · intro t ht
      have := h.un t (List.mem_of_mem_eraseIdx ht)
      simpa [RS.n] using this
    · have h1 := h.ul
      have : (s.un.eraseIdx (q % s.un.length)).length ≤ s.un.length := List.length_eraseIdx_le ..
      simp only; omega
    · have h1 := h.cb i
      have h2 := h.cb (s.un.getD (q % s.un.length) 0)
      have e := cnt_set (s := s) (j := i) (x := (s.cnt (s.un.getD (q % s.un.length) 0) - 1, true)) rfl hto
      show -_ ≤ (List.getD (α := Int × Bool) _ i (0, false)).1 ∧ (List.getD (α := Int × Bool) _ i (0, false)).1 ≤ _
      rw [e]
      split <;> constructor <;> (try simp only) <;> omega
    · have := h.tb; have := sq_succ m; exact ⟨by simp only; omega, by simp only; omega⟩

theorem Ok.pass {s : RS} {m : Nat} (h : s.Ok m) : s.pass.Ok (m + 1) := by
  unfold RS.pass
  split
  · exact h.mono (by omega)
  split
  · have hp := h.pos
    refine ⟨by simpa [RS.n] using h.lo, by simpa [RS.n] using h.hi, by simpa [RS.n] using h.la, by simp [RS.n]; simp only [RS.n] at hp; omega, by simpa [RS.n] using h.un, by have := h.ul; simp only; omega, fun i => ?_, ?_⟩
    · have h1 := h.cb i
      have h2 := h.cb s.pos
      have e := cnt_set (s := s) (j := i) (x := (s.cnt s.pos, false)) rfl hp
      show -_ ≤ (List.getD (α := Int × Bool) _ i (0, false)).1 ∧ (List.getD (α := Int × Bool) _ i (0, false)).1 ≤ _
      rw [e]
      split <;> constructor <;> (try simp only) <;> omega
    · have := h.tb; have := sq_succ m; have := h.cb s.pos; exact ⟨by simp only; omega, by simp only; omega⟩
  split
  · have := h.mono (k := m + 1) (by omega)
    exact ⟨this.lo, this.hi, this.la, this.pos, this.un, this.ul, this.cb, this.tb⟩
  · have h0 : 0 < s.n := by have := h.lo; omega
    refine ⟨by simpa [RS.n] using h.lo, by simpa [RS.n] using h.hi, by simpa [RS.n] using h.la, by simp [RS.n]; simp only [RS.n] at h0; omega, by simpa [RS.n] using h.un, by have := h.ul; simp only; omega, fun i => ?_, ⟨by simp only; omega, by simp only; omega⟩⟩
    have h1 := h.cb i
    have h2 := h.cb 0
    have e := cnt_set (s := s) (j := i) (x := (s.cnt 0, false)) rfl h0
    show -_ ≤ (List.getD (α := Int × Bool) _ i (0, false)).1 ∧ (List.getD (α := Int × Bool) _ i (0, false)).1 ≤ _
    rw [e]
    split <;> constructor <;> (try simp only) <;> omega

theorem Ok.quiet {s : RS} {m : Nat} (h : s.Ok m) (q : Nat) : (s.quiet q).Ok m :=
  ⟨h.lo, h.hi, by simpa [RS.quiet, RS.n] using h.la, h.pos, h.un, h.ul, h.cb, h.tb⟩

theorem Ok.does {s : RS} {m : Nat} (h : s.Ok m) (v : Int) : (s.does v).Ok (m + 1) := by
  unfold RS.does
  split
  · exact h.mono (by omega)
  · simp only
    split
    · exact h.send _
    split
    · exact h.come _
    split
    · exact (h.quiet _).mono (by omega)
    · exact h.pass

theorem n_does (s : RS) (v : Int) : (s.does v).n = s.n := by
  have h1 : ∀ q, (s.send q).n = s.n := fun q => by unfold RS.send; split <;> simp [RS.n]
  have h2 : ∀ q, (s.come q).n = s.n := fun q => by unfold RS.come; split <;> simp [RS.n]
  have h3 : s.pass.n = s.n := by
    unfold RS.pass
    split
    · rfl
    split
    · simp [RS.n]
    split
    · rfl
    · simp [RS.n]
  unfold RS.does
  split
  · rfl
  · simp only
    split
    · exact h1 _
    split
    · exact h2 _
    split
    · rfl
    · exact h3
end RS
end Go.Proofs.YtcfopaopcbjkeaaDoor
