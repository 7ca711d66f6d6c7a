/- A ring's play, plainly: how much a number changes of what is counted. -/
import Derived.Test.YtmdcjfgdmmncpaaDoorRL
namespace Go.Proofs.YtmdcjfgdmmncpaaDoor
namespace RS

theorem countP_set (l : List Bool) (b : Bool) : ∀ i, (l.set i b).countP id ≤ l.countP id + 1 ∧ l.countP id ≤ (l.set i b).countP id + 1 := by
  induction l with
  | nil => intro i; simp
  | cons x l ih =>
    intro i
    cases i with
    | zero => cases x <;> cases b <;> simp <;> omega
    | succ i =>
      have := ih i
      cases x <;> simp [List.set_cons_succ] at this ⊢ <;> omega

/-- What a number may change. -/
structure Near (s s' : RS) : Prop where
  u1 : s'.un.length ≤ s.un.length + 1
  u2 : s.un.length ≤ s'.un.length + 1
  l1 : s'.live ≤ s.live + 1
  l2 : s.live ≤ s'.live + 1
theorem Near.same (s : RS) : Near s s := ⟨by omega, by omega, by omega, by omega⟩
theorem near_does (s : RS) (v : Int) : Near s (s.does v) := by
  have h1 : ∀ q, Near s (s.send q) := fun q => by
    unfold RS.send
    split
    · exact ⟨by simp, by simp; omega, by simp [live], by simp [live]⟩
    · exact Near.same s
  have h2 : ∀ q, Near s (s.come q) := fun q => by
    unfold RS.come
    split
    · exact Near.same s
    · rename_i hu
      have hk : q % s.un.length < s.un.length := Nat.mod_lt _ (by omega)
      have hc := countP_set s.ac true (s.un.getD (q % s.un.length) 0)
      refine ⟨?_, ?_, ?_, ?_⟩
      · simp only [List.length_eraseIdx, if_pos hk]; omega
      · simp only [List.length_eraseIdx, if_pos hk]; omega
      · exact hc.1
      · exact hc.2
  have h3 : Near s s.pass := by
    unfold RS.pass
    split
    · exact Near.same s
    split
    · exact ⟨by simp, by simp, by simp [live], by simp [live]⟩
    split
    · exact ⟨by simp, by simp, by simp [live], by simp [live]⟩
    · exact ⟨by simp, by simp, by simp [live], by simp [live]⟩
  unfold RS.does
  split
  · exact Near.same s
  · simp only
    split
    · exact h1 _
    split
    · exact h2 _
    split
    · have hc := countP_set s.ac false ((v / 4).toNat % s.n)
      exact ⟨by simp [RS.quiet], by simp [RS.quiet], hc.1, hc.2⟩
    · exact h3

/-- It is told at place 0 alone. -/
def AtZero (s : RS) : Prop := s.told = true → s.pos = 0
theorem atZero_init (n : Nat) : (RS.init n).AtZero := fun h => by simp [RS.init] at h
theorem told_step {s : RS} (h : s.Inv) (hz : s.AtZero) (v : Int) (ht : (s.does v).told = true) : s.un.length = 0 ∧ s.live = 0 ∧ s.pos = 0 ∧ (s.does v).pos = 0 := by
  cases h0 : s.told with
  | true =>
    obtain ⟨h1, h2⟩ := h.safe h0
    rw [does_told h0]
    exact ⟨h2, h1, hz h0, hz h0⟩
  | false =>
    obtain ⟨h1, h2⟩ := (h.does v).safe ht
    have h3 : ∀ q, (s.send q).told = s.told := fun q => by unfold RS.send; split <;> rfl
    have h4 : ∀ q, (s.come q).told = s.told := fun q => by unfold RS.come; split <;> rfl
    have key : s.does v = s.pass ∧ s.pass.told = true := by
      unfold RS.does at ht ⊢
      split at ht
      · rw [h0] at ht; cases ht
      · rename_i hn
        rw [if_neg hn]
        simp only at ht ⊢
        split at ht
        · rw [h3, h0] at ht; cases ht
        split at ht
        · rw [h4, h0] at ht; cases ht
        split at ht
        · simp [RS.quiet, h0] at ht
        · rename_i e1 e2 e3
          rw [if_neg e1, if_neg e2, if_neg e3]
          exact ⟨rfl, ht⟩
    rw [key.1] at h1 h2 ⊢
    have hp : s.pass = { s with told := true } ∧ s.pos = 0 := by
      have h5 := key.2
      unfold RS.pass at h5 ⊢
      split at h5
      · rw [h0] at h5; cases h5
      rename_i e1
      split at h5
      · simp [h0] at h5
      rename_i e2
      split at h5
      · rename_i e3
        rw [if_neg e1, if_neg e2, if_pos e3]
        exact ⟨rfl, by omega⟩
      · simp [h0] at h5
    rw [hp.1] at h1 h2 ⊢
    exact ⟨h2, h1, hp.2, hp.2⟩
theorem AtZero.does {s : RS} (h : s.Inv) (hz : s.AtZero) (v : Int) : (s.does v).AtZero := fun ht => (told_step h hz v ht).2.2.2
theorem live_init (n : Nat) : (RS.init n).live = n := by
  unfold live RS.init
  induction n with
  | zero => rfl
  | succ n ih => simp only [List.replicate_succ, List.countP_cons] at ih ⊢; rw [ih]; rfl
end RS
end Go.Proofs.YtmdcjfgdmmncpaaDoor
