
/- A ring's play, plainly: Safra's invariant; and when all is silent, three rounds tell it. -/
import Derived.Test.YtcfopaopcbjkeaaDoorRM
namespace Go.Proofs.YtcfopaopcbjkeaaDoor
set_option linter.unusedSimpArgs false
set_option linter.unusedVariables false
namespace RS

def live (s : RS) : Nat := s.ac.countP id

/-- The sum of the counts from a peer on. -/
def sum (s : RS) (t : Nat) : Int := ((s.ps.drop t).map (·.1)).sum

theorem sum_set_lt (l : List (Int × Bool)) (x : Int × Bool) : ∀ (k t : Nat), k < t → (((l.set k x).drop t).map (·.1)).sum = ((l.drop t).map (·.1)).sum := by
  intro k t h
  rw [List.drop_set_of_lt h]
theorem sum_set (l : List (Int × Bool)) (x : Int × Bool) : ∀ (k : Nat), k < l.length → ((l.set k x).map (·.1)).sum = (l.map (·.1)).sum + (x.1 - (l.getD k (0, false)).1) := by
  induction l with
  | nil => intro k h; simp at h
  | cons y l ih =>
    intro k h
    cases k with
    | zero => simp; omega
    | succ k =>
      have := ih k (by simpa using h)
      simp only [List.set_cons_succ, List.map_cons, List.sum_cons, List.getD_cons_succ, this]
      omega
theorem sum_set_ge (l : List (Int × Bool)) (x : Int × Bool) (k t : Nat) (h : t ≤ k) (hk : k < l.length) : (((l.set k x).drop t).map (·.1)).sum = ((l.drop t).map (·.1)).sum + (x.1 - (l.getD k (0, false)).1) := by
  have h1 : (l.set k x).drop t = (l.drop t).set (k - t) x := by
    rw [List.drop_set, if_neg (by omega)]
  rw [h1, sum_set _ _ _ (by simp; omega)]
  congr 3
  simp only [List.getD_eq_getElem?_getD, List.getElem?_drop]
  rw [show t + (k - t) = k by omega]
theorem sum_step (s : RS) (t : Nat) (h : t < s.n) : s.sum t = s.cnt t + s.sum (t + 1) := by
  unfold sum cnt
  have ht : t < s.ps.length := h
  rw [List.drop_eq_getElem_cons ht, List.map_cons, List.sum_cons]
  have : s.ps.getD t (0, false) = s.ps[t] := by simp [ht]
  rw [this]
theorem sum_all (s : RS) (t : Nat) (h : s.n ≤ t) : s.sum t = 0 := by
  unfold sum
  rw [List.drop_of_length_le h]
  rfl

/-- Safra's invariant. -/
structure Inv (s : RS) : Prop where
  la : s.ac.length = s.n
  two : 2 ≤ s.n
  pos : s.pos < s.n
  un : ∀ t ∈ s.un, t < s.n
  all : s.sum 0 = s.un.length
  fr : s.fr = true → s.pos = 0
  told : s.told = true → (∀ i, s.act i = false) ∧ s.un = []
  safra : s.told = false → s.fr = false → ((∀ i, s.pos < i → s.act i = false) ∧ s.sum (s.pos + 1) = s.tc) ∨ 0 < s.sum 0 - s.sum (s.pos + 1) + s.tc ∨ (∃ i, i ≤ s.pos ∧ s.blk i = true) ∨ s.tb = true

theorem Inv.init {n : Nat} (h : 2 ≤ n) : (RS.init n).Inv := by
  refine ⟨by simp [RS.n, RS.init], by simpa [RS.n, RS.init] using h, by simp [RS.n, RS.init]; omega, by simp [RS.init], ?_, fun _ => rfl, fun h => by simp [RS.init] at h, fun _ h => by simp [RS.init] at h⟩
  simp [sum, RS.init, List.sum_replicate_int]

theorem act_set {s : RS} (b : Bool) (i j : Nat) : ({ s with ac := s.ac.set i b } : RS).act j = if i = j ∧ i < s.ac.length then b else s.act j := by
  unfold act
  simp only [List.getD_eq_getElem?_getD, List.getElem?_set]
  by_cases h : i = j
  · subst h
    by_cases h2 : i < s.ac.length
    · simp [h2]
    · simp [h2]
  · simp [h]
theorem blk_set {s : RS} (x : Int × Bool) (i j : Nat) (hi : i < s.n) : ((s.ps.set i x).getD j (0, false)).2 = if i = j then x.2 else s.blk j := by
  unfold blk
  simp only [List.getD_eq_getElem?_getD, List.getElem?_set]
  by_cases h : i = j
  · subst h; simp [show i < s.ps.length from hi]
  · simp [h]

theorem Inv.send {s : RS} (h : s.Inv) (ht : s.told = false) (q : Nat) : (s.send q).Inv := by
  unfold RS.send
  have h2 := h.two
  split
  · rename_i ha
    have hk : q % s.n < s.n := Nat.mod_lt _ (by omega)
    generalize q % s.n = k at *
    have hkl : k < s.ps.length := hk
    refine ⟨by simpa [RS.n] using h.la, by simpa [RS.n] using h2, by simpa [RS.n] using h.pos, ?_, ?_, h.fr, fun e => (by rw [show s.told = true from e] at ht; cases ht), ?_⟩
    · intro t hm
      simp only [List.mem_append, List.mem_singleton] at hm
      rcases hm with hm | hm
      · simpa [RS.n] using h.un t hm
      · subst hm; simp only [RS.n, List.length_set]; exact Nat.mod_lt _ (by simp only [RS.n] at h2; omega)
    · have h3 := h.all
      simp only [sum, List.drop_zero] at h3 ⊢
      rw [sum_set _ _ _ hkl, h3]
      simp only [cnt, List.length_append, List.length_cons, List.length_nil]
      omega
    · intro _ hfr
      have hs := h.safra ht hfr
      simp only [sum, act, blk, cnt] at hs ha ⊢
      rcases hs with ⟨h3, h4⟩ | h3 | ⟨i, h3, h4⟩ | h3
      · refine .inl ⟨h3, ?_⟩
        rw [sum_set_lt _ _ _ _ ?_]
        · exact h4
        · rcases Nat.lt_or_ge s.pos k with h5 | h5
          · rw [h3 k h5] at ha; cases ha
          · omega
      · refine .inr (.inl ?_)
        simp only [List.drop_zero] at h3 ⊢
        rw [sum_set _ _ _ hkl]
        rcases Nat.lt_or_ge k (s.pos + 1) with h5 | h5
        · rw [sum_set_lt _ _ _ _ h5]; simp only; omega
        · rw [sum_set_ge _ _ _ _ h5 hkl]; simp only; omega
      · refine .inr (.inr (.inl ⟨i, h3, ?_⟩))
        have := blk_set (s := s) ((s.ps.getD k (0, false)).1 + 1, (s.ps.getD k (0, false)).2) k i hk
        rw [this]
        split
        · rename_i e; subst e; exact h4
        · exact h4
      · exact .inr (.inr (.inr h3))
  · exact h

theorem Inv.come {s : RS} (h : s.Inv) (ht : s.told = false) (q : Nat) : (s.come q).Inv := by
  unfold RS.come
  have h2 := h.two
  split
  · exact h
  · rename_i hu
    have hlt : q % s.un.length < s.un.length := Nat.mod_lt _ (by omega)
    have hto : s.un.getD (q % s.un.length) 0 < s.n := by
      apply h.un
      simp only [List.getD_eq_getElem?_getD, List.getElem?_eq_getElem hlt, Option.getD_some]
      exact List.getElem_mem _
    simp only
    generalize hk : s.un.getD (q % s.un.length) 0 = k at *
    generalize q % s.un.length = j at *
    have hkl : k < s.ps.length := hto
    refine ⟨by simpa [RS.n] using h.la, by simpa [RS.n] using h2, by simpa [RS.n] using h.pos, ?_, ?_, h.fr, fun e => (by rw [show s.told = true from e] at ht; cases ht), ?_⟩
    · intro t hm
      have := h.un t (List.mem_of_mem_eraseIdx hm)
      simpa [RS.n] using this
    · have h3 := h.all
      simp only [sum, List.drop_zero] at h3 ⊢
      rw [sum_set _ _ _ hkl, h3, List.length_eraseIdx, if_pos hlt]
      simp only [cnt]
      omega
    · intro _ hfr
      have hs := h.safra ht hfr
      have hall := h.all
      rcases Nat.lt_or_ge s.pos k with hpk | hpk
      · -- behind the token
        have h5 : 0 < s.sum 0 - s.sum (s.pos + 1) + s.tc ∨ (∃ i, i ≤ s.pos ∧ s.blk i = true) ∨ s.tb = true := by
          rcases hs with ⟨h3, h4⟩ | h3
          · left; rw [h4, hall]; omega
          · exact h3
        right
        simp only [sum, blk, cnt] at h5 ⊢
        rcases h5 with h3 | ⟨i, h3, h4⟩ | h3
        · left
          simp only [List.drop_zero] at h3 ⊢
          rw [sum_set _ _ _ hkl, sum_set_ge _ _ _ _ (by omega) hkl]
          simp only; omega
        · right; left
          refine ⟨i, h3, ?_⟩
          rw [blk_set (s := s) _ k i hto, if_neg (by omega)]
          exact h4
        · right; right; exact h3
      · right; right; left
        refine ⟨k, hpk, ?_⟩
        simp only [blk]
        rw [blk_set (s := s) _ k k hto, if_pos rfl]

theorem Inv.quiet {s : RS} (h : s.Inv) (ht : s.told = false) (q : Nat) : (s.quiet q).Inv := by
  have hmono : ∀ i, s.act i = false → (s.quiet q).act i = false := fun i hi => by
    unfold RS.quiet; rw [act_set]; split
    · rfl
    · exact hi
  refine ⟨by simpa [RS.quiet, RS.n] using h.la, h.two, h.pos, h.un, h.all, h.fr, fun e => (by rw [show s.told = true from e] at ht; cases ht), fun h1 h3 => ?_⟩
  rcases h.safra h1 h3 with ⟨h4, h5⟩ | h4
  · exact .inl ⟨fun i hi => hmono i (h4 i hi), h5⟩
  · exact .inr h4

theorem Inv.pass {s : RS} (h : s.Inv) (ht : s.told = false) : s.pass.Inv := by
  unfold RS.pass
  have h2 := h.two
  have hp := h.pos
  split
  · exact h
  rename_i hact
  have hact' : s.act s.pos = false := by simpa using hact
  split
  · rename_i h0
    have hkl : s.pos < s.ps.length := hp
    have hps : (s.ps.set s.pos (s.cnt s.pos, false)).map (·.1) = s.ps.map (·.1) := by
      apply List.ext_getElem?
      intro i
      simp only [List.getElem?_map, List.getElem?_set]
      by_cases hi : s.pos = i
      · subst hi; simp [cnt, hkl]
      · simp [hi]
    have hsum : ∀ t, (((s.ps.set s.pos (s.cnt s.pos, false)).drop t).map (·.1)).sum = s.sum t := fun t => by
      rw [List.map_drop, hps, ← List.map_drop]; rfl
    refine ⟨by simpa [RS.n] using h.la, by simpa [RS.n] using h2, by simp only [RS.n, List.length_set]; simp only [RS.n] at hp; omega, by simpa [RS.n] using h.un, ?_, fun e => (by have := h.fr e; omega), fun e => (by rw [show s.told = true from e] at ht; cases ht), ?_⟩
    · show (((s.ps.set s.pos (s.cnt s.pos, false)).drop 0).map (·.1)).sum = _
      rw [hsum]; exact h.all
    · intro _ hfr
      have hs := h.safra ht hfr
      have hst := sum_step s s.pos hp
      show ((∀ i, s.pos - 1 < i → s.act i = false) ∧ (((s.ps.set s.pos (s.cnt s.pos, false)).drop (s.pos - 1 + 1)).map (·.1)).sum = s.tc + s.cnt s.pos) ∨
        0 < (((s.ps.set s.pos (s.cnt s.pos, false)).drop 0).map (·.1)).sum - (((s.ps.set s.pos (s.cnt s.pos, false)).drop (s.pos - 1 + 1)).map (·.1)).sum + (s.tc + s.cnt s.pos) ∨
        (∃ i, i ≤ s.pos - 1 ∧ ((s.ps.set s.pos (s.cnt s.pos, false)).getD i (0, false)).2 = true) ∨ (s.tb || s.blk s.pos) = true
      rw [hsum, hsum, show s.pos - 1 + 1 = s.pos by omega]
      rcases hs with ⟨h3, h4⟩ | h3 | ⟨i, h3, h4⟩ | h3
      · left
        refine ⟨fun i hi => ?_, by omega⟩
        by_cases e : s.pos = i
        · subst e; exact hact'
        · exact h3 i (by omega)
      · right; left; omega
      · by_cases e : i = s.pos
        · subst e; right; right; right; simp [h4]
        · right; right; left
          refine ⟨i, by omega, ?_⟩
          rw [blk_set (s := s) _ s.pos i hp, if_neg (by omega)]
          exact h4
      · right; right; right; simp [h3]
  split
  · rename_i h0 hov
    have hp0 : s.pos = 0 := by omega
    unfold RS.over at hov
    simp only [Bool.and_eq_true, Bool.not_eq_true', beq_iff_eq] at hov
    obtain ⟨hfr, ⟨hb, htb⟩, hc⟩ := hov
    have hs := h.safra ht hfr
    rw [hp0] at hs
    have hst := sum_step s 0 (by omega)
    have hall := h.all
    have hone : (∀ i, 0 < i → s.act i = false) ∧ s.sum (0 + 1) = s.tc := by
      rcases hs with h3 | h3 | ⟨i, h3, h4⟩ | h3
      · exact h3
      · exfalso; omega
      · exfalso
        obtain rfl : i = 0 := by omega
        rw [hb] at h4; cases h4
      · rw [htb] at h3; cases h3
    refine ⟨h.la, h2, hp, h.un, h.all, h.fr, fun _ => ⟨fun i => ?_, ?_⟩, fun e => by cases e⟩
    · show s.act i = false
      by_cases e : i = 0
      · subst e; rw [hp0] at hact'; exact hact'
      · exact hone.1 i (by omega)
    · have : s.un.length = 0 := by have := hone.2; omega
      exact List.length_eq_zero_iff.1 this
  · rename_i h0 hov
    have hkl : 0 < s.ps.length := by simp only [RS.n] at h2; omega
    have hps : (s.ps.set 0 (s.cnt 0, false)).map (·.1) = s.ps.map (·.1) := by
      apply List.ext_getElem?
      intro i
      simp only [List.getElem?_map, List.getElem?_set]
      by_cases hi : 0 = i
      · subst hi; simp [cnt, hkl]
      · simp [hi]
    have hsum : ∀ t, (((s.ps.set 0 (s.cnt 0, false)).drop t).map (·.1)).sum = s.sum t := fun t => by
      rw [List.map_drop, hps, ← List.map_drop]; rfl
    refine ⟨by simpa [RS.n] using h.la, by simpa [RS.n] using h2, by simp only [RS.n, List.length_set]; simp only [RS.n] at h2; omega, by simpa [RS.n] using h.un, ?_, fun e => (by cases e), fun e => (by rw [show s.told = true from e] at ht; cases ht), fun _ _ => .inl ⟨fun i hi => ?_, ?_⟩⟩
    · show (((s.ps.set 0 (s.cnt 0, false)).drop 0).map (·.1)).sum = _
      rw [hsum]; exact h.all
    · have hi' : s.n - 1 < i := hi
      show s.act i = false
      unfold act
      have hla := h.la
      simp [Array.getElem?_eq_none, show s.ac.length ≤ i by omega]
    · show (((s.ps.set 0 (s.cnt 0, false)).drop (s.n - 1 + 1)).map (·.1)).sum = 0
      rw [hsum, sum_all]
      omega

theorem Inv.does {s : RS} (h : s.Inv) (v : Int) : (s.does v).Inv := by
  unfold RS.does
  split
  · exact h
  · rename_i hn
    have ht : s.told = false := by
      cases e : s.told with
      | false => rfl
      | true => exact absurd (.inr e) hn
    simp only
    split
    · exact h.send ht _
    split
    · exact h.come ht _
    split
    · exact h.quiet ht _
    · exact h.pass ht

theorem live_zero {s : RS} (h : ∀ i, s.act i = false) : s.live = 0 := by
  unfold live
  refine List.countP_eq_zero.2 fun b hb => ?_
  obtain ⟨i, hi, rfl⟩ := List.mem_iff_getElem.1 hb
  have := h i
  unfold act at this
  simpa [hi] using this
theorem Inv.safe {s : RS} (h : s.Inv) (ht : s.told = true) : s.live = 0 ∧ s.un.length = 0 :=
  ⟨live_zero (h.told ht).1, by rw [(h.told ht).2]; rfl⟩

/-! ### all is silent: the token tells it -/
def silent (s : RS) : Prop := (∀ i, s.act i = false) ∧ s.un = []
/-- A round that makes white; a round that is clean. -/
def white1 (s : RS) : Prop := s.fr = false ∧ s.blk 0 = false ∧ (∀ i, s.pos < i → s.blk i = false) ∧ s.sum (s.pos + 1) = s.tc
def white2 (s : RS) : Prop := s.fr = false ∧ s.tb = false ∧ (∀ i, s.blk i = false) ∧ s.sum (s.pos + 1) = s.tc
/-- So many passes are enough. -/
def near (s : RS) (k : Nat) : Prop := s.told = true ∨ (s.pos + 1 + 2 * s.n ≤ k) ∨ (s.white1 ∧ s.pos + 1 + s.n ≤ k) ∨ (s.white2 ∧ s.pos + 1 ≤ k)

theorem does3 (s : RS) (h : s.told = false) : s.does 3 = s.pass := by
  unfold RS.does
  rw [if_neg (by simp [h])]
  rfl

theorem pass_n (s : RS) : s.pass.n = s.n := by
  unfold RS.pass
  split
  · rfl
  split
  · simp [RS.n]
  split
  · rfl
  · simp [RS.n]

theorem silent_pass {s : RS} (h : s.silent) : s.pass.silent := by
  unfold RS.pass
  split
  · exact h
  split
  · exact h
  split
  · exact h
  · exact h

theorem sum_keep (s : RS) (k : Nat) (b : Bool) (hk : k < s.n) (t : Nat) : (((s.ps.set k (s.cnt k, b)).drop t).map (·.1)).sum = s.sum t := by
  have hps : (s.ps.set k (s.cnt k, b)).map (·.1) = s.ps.map (·.1) := by
    apply List.ext_getElem?
    intro i
    simp only [List.getElem?_map, List.getElem?_set]
    by_cases hi : k = i
    · subst hi; simp [cnt, show k < s.ps.length from hk]
    · simp [hi]
  rw [List.map_drop, hps, ← List.map_drop]; rfl

theorem blk_big {s : RS} {i : Nat} (h : s.n ≤ i) : s.blk i = false := by
  unfold blk
  simp [show s.ps.length ≤ i from h]

theorem near_pass {s : RS} (hi : s.Inv) (hs : s.silent) {k : Nat} (h : s.near (k + 1)) (ht : s.told = false) : s.pass.near k := by
  have h2 := hi.two
  have hp := hi.pos
  have hn := pass_n s
  have hall : s.sum 0 = 0 := by rw [hi.all, hs.2]; rfl
  have hst := sum_step s 0 (by omega)
  unfold near at h ⊢
  rw [hn]
  rcases h with h | h
  · rw [h] at ht; cases ht
  unfold RS.pass at hn ⊢
  rw [if_neg (by simp [hs.1])]
  split
  · rename_i h0
    right
    simp only
    have hb : ∀ i, ((s.ps.set s.pos (s.cnt s.pos, false)).getD i (0, false)).2 = if s.pos = i then false else s.blk i := fun i => blk_set (s := s) (s.cnt s.pos, false) s.pos i hp
    have hsm : ∀ t, (((s.ps.set s.pos (s.cnt s.pos, false)).drop t).map (·.1)).sum = s.sum t := fun t => sum_keep s s.pos false hp t
    have hpp := sum_step s s.pos hp
    rcases h with h | ⟨⟨h3, h4, h5, h6⟩, h⟩ | ⟨⟨h3, h4, h5, h6⟩, h⟩
    · left; omega
    · right; left
      refine ⟨⟨h3, ?_, fun i hi => ?_, ?_⟩, by omega⟩
      · show ((s.ps.set s.pos (s.cnt s.pos, false)).getD 0 (0, false)).2 = false
        rw [hb, if_neg (by omega)]; exact h4
      · show ((s.ps.set s.pos (s.cnt s.pos, false)).getD i (0, false)).2 = false
        have hi' : s.pos - 1 < i := hi
        rw [hb]
        split
        · rfl
        · exact h5 i (by omega)
      · show (((s.ps.set s.pos (s.cnt s.pos, false)).drop (s.pos - 1 + 1)).map (·.1)).sum = s.tc + s.cnt s.pos
        rw [hsm, show s.pos - 1 + 1 = s.pos by omega]; omega
    · right; right
      refine ⟨⟨h3, ?_, fun i => ?_, ?_⟩, by omega⟩
      · show (s.tb || s.blk s.pos) = false
        rw [h4, h5]; rfl
      · show ((s.ps.set s.pos (s.cnt s.pos, false)).getD i (0, false)).2 = false
        rw [hb]
        split
        · rfl
        · exact h5 i
      · show (((s.ps.set s.pos (s.cnt s.pos, false)).drop (s.pos - 1 + 1)).map (·.1)).sum = s.tc + s.cnt s.pos
        rw [hsm, show s.pos - 1 + 1 = s.pos by omega]; omega
  · rename_i h0
    have hp0 : s.pos = 0 := by omega
    split
    · left; rfl
    · rename_i hov
      have hb : ∀ i, ((s.ps.set 0 (s.cnt 0, false)).getD i (0, false)).2 = if 0 = i then false else s.blk i := fun i => blk_set (s := s) (s.cnt 0, false) 0 i (by omega)
      have hsm : ∀ t, (((s.ps.set 0 (s.cnt 0, false)).drop t).map (·.1)).sum = s.sum t := fun t => sum_keep s 0 false (by omega) t
      have hz : s.sum (s.n - 1 + 1) = 0 := sum_all s _ (by omega)
      right
      simp only
      rcases h with h | ⟨⟨h3, h4, h5, h6⟩, h⟩ | ⟨⟨h3, h4, h5, h6⟩, h⟩
      · right; left
        refine ⟨⟨rfl, ?_, fun i hi => ?_, ?_⟩, by omega⟩
        · show ((s.ps.set 0 (s.cnt 0, false)).getD 0 (0, false)).2 = false
          rw [hb, if_pos rfl]
        · have hi' : s.n - 1 < i := hi
          show ((s.ps.set 0 (s.cnt 0, false)).getD i (0, false)).2 = false
          rw [hb, if_neg (by omega)]
          exact blk_big (by omega)
        · show (((s.ps.set 0 (s.cnt 0, false)).drop (s.n - 1 + 1)).map (·.1)).sum = 0
          rw [hsm]; exact hz
      · right; right
        refine ⟨⟨rfl, rfl, fun i => ?_, ?_⟩, by omega⟩
        · show ((s.ps.set 0 (s.cnt 0, false)).getD i (0, false)).2 = false
          rw [hb]
          split
          · rfl
          · exact h5 i (by omega)
        · show (((s.ps.set 0 (s.cnt 0, false)).drop (s.n - 1 + 1)).map (·.1)).sum = 0
          rw [hsm]; exact hz
      · exfalso
        apply hov
        unfold RS.over
        rw [hp0] at h6
        simp only [h3, h4, h5]
        simp
        omega

/-- n times a number. -/
def times (s : RS) (v : Int) : Nat → RS
  | 0 => s
  | k + 1 => (s.times v k).does v
theorem does_told {s : RS} (h : s.told = true) (v : Int) : s.does v = s := by unfold RS.does; rw [if_pos (.inr h)]
theorem times_told {s : RS} (h : s.told = true) (v : Int) (k : Nat) : s.times v k = s := by
  induction k with
  | zero => rfl
  | succ k ih => simp only [times]; rw [ih, does_told h]
theorem times_inv {s : RS} (h : s.Inv) (v : Int) (k : Nat) : (s.times v k).Inv := by
  induction k with
  | zero => exact h
  | succ k ih => exact ih.does v
theorem times_succ (s : RS) (v : Int) (k : Nat) : s.times v (k + 1) = (s.does v).times v k := by
  induction k with
  | zero => rfl
  | succ k ih => show (s.times v (k + 1)).does v = ((s.does v).times v k).does v; rw [ih]

theorem near_told {k : Nat} : ∀ {s : RS}, s.Inv → s.silent → s.near k → (s.times 3 k).told = true := by
  induction k with
  | zero =>
    intro s hi hs h
    rcases h with h | h | ⟨_, h⟩ | ⟨_, h⟩
    · exact h
    all_goals omega
  | succ k ih =>
    intro s hi hs h
    cases ht : s.told with
    | true => rw [times_told ht]; exact ht
    | false =>
      rw [times_succ, does3 s ht]
      exact ih (hi.pass ht) (silent_pass hs) (near_pass hi hs h ht)
theorem silent_told {s : RS} (hi : s.Inv) (hs : s.silent) : (s.times 3 (3 * s.n + 3)).told = true := by
  refine near_told hi hs (.inr (.inl ?_))
  have := hi.pos
  omega

/-! ### all come, all fall silent -/
theorem does1_len {s : RS} (h : s.told = false) (hu : 0 < s.un.length) : (s.does 1).un.length = s.un.length - 1 := by
  unfold RS.does
  rw [if_neg (by simp [h])]
  show (s.come 0).un.length = _
  unfold RS.come
  rw [if_neg (by omega)]
  simp only [List.length_eraseIdx]
  rw [if_pos (by rw [Nat.zero_mod]; exact hu)]

/-- The first k peers made silent. -/
def hush (s : RS) : Nat → RS
  | 0 => s
  | k + 1 => (s.hush k).does (4 * k + 2)
theorem hush_inv {s : RS} (h : s.Inv) (k : Nat) : (s.hush k).Inv := by
  induction k with
  | zero => exact h
  | succ k ih => exact ih.does _
theorem hush_n (s : RS) (k : Nat) : (s.hush k).n = s.n := by
  induction k with
  | zero => rfl
  | succ k ih => simp only [hush]; rw [n_does, ih]
theorem hush_silent {s : RS} (h : s.Inv) (hu : s.un = []) : ∀ k, k ≤ s.n → (s.hush k).un = [] ∧ ((s.hush k).told = true ∨ ∀ i, i < k → (s.hush k).act i = false)
  | 0, _ => ⟨hu, .inr fun i hi => by omega⟩
  | k + 1, hk => by
    obtain ⟨h1, h2⟩ := hush_silent h hu k (by omega)
    have hinv := hush_inv h k
    simp only [hush]
    cases ht : (s.hush k).told with
    | true => rw [does_told ht]; exact ⟨h1, .inl ht⟩
    | false =>
      have he : (s.hush k).does (4 * k + 2) = (s.hush k).quiet k := by
        unfold RS.does
        rw [if_neg (by simp [ht]; omega)]
        simp only
        rw [if_neg (by omega), if_neg (by omega), if_pos (by omega)]
        congr 1
        omega
      rw [he]
      refine ⟨h1, .inr fun i hi => ?_⟩
      have hn := hush_n s k
      have hkn : k % (s.hush k).n = k := by rw [hn]; exact Nat.mod_eq_of_lt (by omega)
      unfold RS.quiet
      rw [act_set, hkn]
      split
      · rfl
      · rename_i hne
        have h3 : i < k := by
          rcases Nat.lt_or_ge i k with h4 | h4
          · exact h4
          · exfalso; apply hne; exact ⟨by omega, by rw [hinv.la, hn]; omega⟩
        rcases h2 with h2 | h2
        · rw [ht] at h2; cases h2
        · exact h2 i h3
theorem hush_all {s : RS} (h : s.Inv) (hu : s.un = []) : (s.hush s.n).silent := by
  obtain ⟨h1, h2⟩ := hush_silent h hu s.n (Nat.le_refl _)
  refine ⟨fun i => ?_, h1⟩
  rcases h2 with h2 | h2
  · exact ((hush_inv h s.n).told h2).1 i
  · rcases Nat.lt_or_ge i s.n with h3 | h3
    · exact h2 i h3
    · unfold act
      have hla := (hush_inv h s.n).la
      rw [hush_n] at hla
      simp [show (s.hush s.n).ac.length ≤ i by omega]
/-- From whatever state: all come, all fall silent, and it is told. -/
theorem ends_told {s : RS} (h : s.Inv) (hu : s.un.length = 0) : ((s.hush s.n).times 3 (3 * s.n + 3)).told = true := by
  have hs := hush_all h (List.length_eq_zero_iff.1 hu)
  have := silent_told (hush_inv h s.n) hs
  rw [hush_n] at this
  exact this
end RS
end Go.Proofs.YtcfopaopcbjkeaaDoor
