/- Texts of one proof, put together: WJ ZZZZD ZZZZG ZZZZE E5 X2 ZZZZF. -/
import Derived.Test.YtamblahkckaaaaaDoorHPB01
import Derived.Test.YtamblahkckaaaaaDoorHPB02
import Derived.Test.YtamblahkckaaaaaDoorHPB06
import Derived.Test.YtamblahkckaaaaaDoorHPB07
import Derived.Test.YtamblahkckaaaaaDoorHPB09
import Derived.Test.YtamblahkckaaaaaDoorHPB10
import Derived.Test.YtamblahkckaaaaaDoorHPB11
import Derived.Test.YtamblahkckaaaaaDoorHPB13
import Derived.Test.YtamblahkckaaaaaDoorHPB16
import Derived.Test.YtamblahkckaaaaaDoorChecked
import Derived.LaidEql
import Derived.Stop.Asserts
import Derived.RowKitTokens
import Derived.OwnWalk
import Derived.Sort.Grow
import Derived.Deep.Draws
import Derived.Laws.StructEq
set_option linter.unusedSimpArgs false
set_option linter.unusedVariables false
namespace Go.Proofs.YtamblahkckaaaaaDoor
open Go Go.RowKit
theorem PP.stmtErr_le (P : PP) (s : PS) : P.stmtErr s ≤ 9 := by
  unfold PP.stmtErr
  cases (!memB s.kind kindsS) <;> simp only [cond_true, cond_false] <;> try omega
  cases (!P.bound s) <;> simp only [cond_true, cond_false] <;> try omega
  cases (s.isK kCall && decide (3 < s.args.length)) <;> simp only [cond_true, cond_false] <;> try omega
  cases ((!s.isK kCall && decide (0 < s.args.length)) || (s.isK kNew && !decide (s.y = 0))) <;> simp
theorem PP.err1_le (P : PP) : P.err1 ≤ 9 := by
  unfold PP.err1
  cases P.big <;> simp only [cond_true, cond_false] <;> try omega
  split
  · omega
  · split
    · omega
    · unfold PP.funsErr
      cases (P.funs.any bad9) <;> simp only [cond_true, cond_false] <;> try omega
      cases (P.funs.any P.bad2) <;> simp only [cond_true, cond_false] <;> try omega
      cases (P.funs.any bad7) <;> simp
theorem PP.FirstBad.uniq {P : PP} {i j : Nat} {s t : PS} (h : P.FirstBad i s) (g : P.FirstBad j t) : i = j ∧ s = t := by
  obtain ⟨h1, h2, h3⟩ := h
  obtain ⟨g1, g2, g3⟩ := g
  have e : i = j := by
    rcases Nat.lt_trichotomy i j with e | e | e
    · exact absurd (g3 i s e h1) h2
    · exact e
    · exact absurd (h3 j t e g1) g2
  subst e
  exact ⟨rfl, Option.some.inj (h1.symm.trans g1)⟩
theorem PP.FirstBad.not {P : PP} {i : Nat} {s : PS} (h : P.FirstBad i s) : ¬ P.allWell := fun g => by
  obtain ⟨h1, h2, _⟩ := h
  have hi : i < P.stmts.length := by
    rcases Nat.lt_or_ge i P.stmts.length with e | e
    · exact e
    · rw [List.getElem?_eq_none e] at h1; cases h1
  exact h2 (g i s hi h1)
theorem FaultIs.uniq {P : PP} {c d : Nat} {p q : Int} (h : FaultIs P c p) (g : FaultIs P d q) : c = d ∧ p = q := by
  rcases h with ⟨h1, h2, h3⟩ | ⟨h1, h2, h3, h4⟩ | ⟨h1, i, s, h2, h3, h4⟩ <;> rcases g with ⟨g1, g2, g3⟩ | ⟨g1, g2, g3, g4⟩ | ⟨g1, j, t, g2, g3, g4⟩
  · exact ⟨h2.trans g2.symm, h3.trans g3.symm⟩
  · exact absurd g1 h1
  · exact absurd g1 h1
  · exact absurd h1 g1
  · exact ⟨h3.trans g3.symm, h4.trans g4.symm⟩
  · exact absurd h2 g2.not
  · exact absurd h1 g1
  · exact absurd g2 h2.not
  · obtain ⟨rfl, rfl⟩ := h2.uniq g2
    exact ⟨h3.trans g3.symm, h4.trans g4.symm⟩
theorem PP.FirstK.uniq {P : PP} {l : List Int} {i j : Nat} (h : P.FirstK l i) (g : P.FirstK l j) : i = j := by
  obtain ⟨x, h1, h2, h3⟩ := h
  obtain ⟨y, g1, g2, g3⟩ := g
  rcases Nat.lt_trichotomy i j with e | e | e
  · rw [g3 i x e h1] at h2; cases h2
  · exact e
  · rw [h3 j y e g1] at g2; cases g2
def RunFault (P : PP) (l : List Int) (c : Nat) (p : Int) : Prop :=
  (¬ (P.err1 = 0 ∧ P.allWell) ∧ FaultIs P c p) ∨ (P.err1 = 0 ∧ P.allWell ∧ 2000 < l.length ∧ c = 8 ∧ p = -1) ∨
  (P.err1 = 0 ∧ P.allWell ∧ l.length ≤ 2000 ∧ ∃ i : Nat, P.FirstK l i ∧ c = 2 ∧ p = (i : Int))
theorem RunFault.uniq {P : PP} {l : List Int} {c d : Nat} {p q : Int} (h : RunFault P l c p) (g : RunFault P l d q) : c = d ∧ p = q := by
  rcases h with ⟨h1, h2⟩ | ⟨h1, h2, h3, h4, h5⟩ | ⟨h1, h2, h3, i, h4, h5, h6⟩ <;> rcases g with ⟨g1, g2⟩ | ⟨g1, g2, g3, g4, g5⟩ | ⟨g1, g2, g3, j, g4, g5, g6⟩
  · exact h2.uniq g2
  · exact absurd ⟨g1, g2⟩ h1
  · exact absurd ⟨g1, g2⟩ h1
  · exact absurd ⟨h1, h2⟩ g1
  · exact ⟨h4.trans g4.symm, h5.trans g5.symm⟩
  · omega
  · exact absurd ⟨h1, h2⟩ g1
  · omega
  · obtain rfl := h4.uniq g4
    exact ⟨h5.trans g5.symm, h6.trans g6.symm⟩
def nlB : ByteArray := ⟨#[10]⟩
def PP.none : PP := ⟨[], [], []⟩
def linesR : Nat → PP → Nat → Nat → ByteArray → PP × Nat × Nat
  | 0, P, _, i, _ => (P, 0, i)
  | n + 1, P, pt, i, s =>
    if (s.toList == []) = true then (P, 0, i)
    else if (cutB s nlB).2.2 = false then (P, 1, i)
    else if (P.lineR pt (cutB s nlB).1).2 ≠ 0 then ((P.lineR pt (cutB s nlB).1).1, (P.lineR pt (cutB s nlB).1).2, i)
    else linesR n (P.lineR pt (cutB s nlB).1).1 (lineP (cutB s nlB).1) (i + 1) (cutB s nlB).2.1
def PP.May (P : PP) (k : Nat) (r : PP × Nat) : Prop :=
  (r.2 = 1 ∨ r.2 = 6) ∨ (r.2 = 0 ∧ ((∃ v, nameOk v = true ∧ r.1 = { P with vars := P.vars ++ [v] }) ∨ (∃ s, r.1 = { P with stmts := P.stmts ++ [s] }) ∨ (∃ f, nameOk f.name = true ∧ 3 ≤ k ∧ r.1 = { P with funs := P.funs ++ [f] })))
theorem varsR_le (P : PP) (l : List ByteArray) : (P.varsR l).2 = 0 ∨ (P.varsR l).2 = 1 ∨ (P.varsR l).2 = 6 := by
  unfold PP.varsR
  split
  · exact .inr (.inl rfl)
  · split
    · exact .inr (.inr rfl)
    · exact .inl rfl
theorem varR_le (P : PP) (s : ByteArray) : (P.varR s).2 = 0 ∨ (P.varR s).2 = 1 ∨ (P.varR s).2 = 6 := by
  unfold PP.varR
  split
  · split
    · exact .inr (.inr rfl)
    · exact .inl rfl
  · exact .inr (.inl rfl)
theorem May.err {P Q : PP} {k c : Nat} (h : c = 0 ∨ c = 1 ∨ c = 6) (h0 : c ≠ 0) : P.May k (Q, c) := .inl (h.resolve_left h0)
theorem May.st {P : PP} {k : Nat} (s : PS) : P.May k ({ P with stmts := P.stmts ++ [s] }, 0) := .inr ⟨rfl, .inr (.inl ⟨s, rfl⟩)⟩
theorem twoR_may (P : PP) (k : Nat) (kind x y : ByteArray) : P.May k (P.twoR kind x y) := by
  unfold PP.twoR
  split
  · exact May.st _
  · exact May.err (varsR_le _ _) (by assumption)
theorem namedR_may (P : PP) (k : Nat) (x y : ByteArray) : P.May k (P.namedR x y) := by
  unfold PP.namedR
  split
  · exact May.err (.inr (.inl rfl)) (by decide)
  · split
    · exact May.err (.inr (.inr rfl)) (by decide)
    · split
      · exact May.err (.inr (.inr rfl)) (by decide)
      · exact May.st _
theorem calledR_may (P : PP) (k : Nat) (x y : ByteArray) : P.May k (P.calledR x y) := by
  unfold PP.calledR
  split
  · exact May.err (.inr (.inl rfl)) (by decide)
  · split
    · exact May.st _
    · exact May.err (varsR_le _ _) (by assumption)
theorem stmtR_may (P : PP) (k : Nat) (s : ByteArray) : P.May k (P.stmtR s) := by
  unfold PP.stmtR
  split
  · exact May.err (.inr (.inl rfl)) (by decide)
  · split
    · exact twoR_may _ _ _ _ _
    · split
      · split
        · exact May.st _
        · exact May.err (varR_le _ _) (by assumption)
      · split
        · exact twoR_may _ _ _ _ _
        · split
          · exact twoR_may _ _ _ _ _
          · split
            · exact namedR_may _ _ _ _
            · split
              · exact calledR_may _ _ _ _
              · exact twoR_may _ _ _ _ _
theorem funR_may (P : PP) (k pt : Nat) (hk : 3 ≤ k) (s : ByteArray) : P.May k (P.funR pt s) := by
  unfold PP.funR
  split
  · exact May.err (.inr (.inl rfl)) (by decide)
  · rename_i h
    split
    · exact May.err (varsR_le _ _) (by assumption)
    · split
      · exact May.err (varR_le _ _) (by assumption)
      · refine .inr ⟨rfl, .inr (.inr ⟨_, ?_, hk, rfl⟩)⟩
        cases hn : nameOk (splitP s).1 with
        | true => rfl
        | false => rw [hn] at h; simp at h
theorem cpB_has {s p : ByteArray} (h : (cpB s p).2 = true) : p.size ≤ s.size := by
  unfold cpB Lib.hasPrefix at h
  have := (List.isPrefixOf_iff_prefix.1 h).length_le
  rwa [bs_list, bs_list] at this
theorem lineR_may (P : PP) (pt : Nat) (s : ByteArray) : P.May s.size (P.lineR pt s) := by
  unfold PP.lineR
  split
  · split
    · exact May.err (.inr (.inl rfl)) (by decide)
    · rename_i h
      refine .inr ⟨rfl, .inl ⟨_, ?_, rfl⟩⟩
      cases hn : nameOk (cpB s varB).1 with
      | true => rfl
      | false => rw [hn] at h; simp at h
  · split
    · rename_i h
      exact funR_may _ _ _ (cpB_has h) _
    · exact stmtR_may _ _ _
structure LinesI (P : PP) (k : Nat) : Prop where
  v : P.vars.length + k ≤ 4000
  f : 4 * P.funs.length + k ≤ 4000
  s : P.stmts.length + k ≤ 4000
  vn : ∀ s ∈ P.vars, nameOk s = true
  fn : ∀ f ∈ P.funs, nameOk f.name = true
theorem LinesI.few {P : PP} {k : Nat} (h : LinesI P k) : P.Few := ⟨by have := h.v; omega, by have := h.f; omega, by have := h.s; omega⟩
theorem LinesI.start {k : Nat} (h : k ≤ 4000) : LinesI PP.none k := ⟨by simpa [PP.none] using h, by simpa [PP.none] using h, by simpa [PP.none] using h, (fun s hs => by cases hs), (fun s hs => by cases hs)⟩
theorem LinesI.step {P : PP} {pt k : Nat} {l : ByteArray} (h : LinesI P (l.size + 1 + k)) (h0 : (P.lineR pt l).2 = 0) : LinesI (P.lineR pt l).1 k := by
  rcases lineR_may P pt l with h1 | ⟨_, ⟨v, hv, he⟩ | ⟨s, he⟩ | ⟨f, hf, hk, he⟩⟩
  · omega
  · rw [he]
    refine ⟨?_, ?_, ?_, fun s hs => ?_, h.fn⟩
    · have := h.v; simp only [List.length_append, List.length_singleton]; omega
    · have := h.f; simp only; omega
    · have := h.s; simp only; omega
    · rcases List.mem_append.1 hs with e | e
      · exact h.vn s e
      · rw [List.mem_singleton.1 e]; exact hv
  · rw [he]
    refine ⟨?_, ?_, ?_, h.vn, h.fn⟩
    · have := h.v; simp only; omega
    · have := h.f; simp only; omega
    · have := h.s; simp only [List.length_append, List.length_singleton]; omega
  · rw [he]
    refine ⟨?_, ?_, ?_, h.vn, fun s hs => ?_⟩
    · have := h.v; simp only; omega
    · have := h.f; simp only [List.length_append, List.length_singleton]; omega
    · have := h.s; simp only; omega
    · rcases List.mem_append.1 hs with e | e
      · exact h.fn s e
      · rw [List.mem_singleton.1 e]; exact hf
theorem lineP_le (s : ByteArray) : lineP s ≤ 2 := by
  unfold lineP
  split
  · omega
  · split <;> omega
theorem index_nat {l sep : List UInt8} (h : 0 ≤ Lib.index l sep) : ∃ k : Nat, Lib.index l sep = k := ⟨_, (Int.toNat_of_nonneg h).symm⟩
theorem cutB_sum {s sep : ByteArray} (h : (cutB s sep).2.2 = true) : (cutB s sep).1.size + sep.size + (cutB s sep).2.1.size = s.size := by
  have e1 : (cutB s sep).1.size = (Lib.cut s.data.toList sep.data.toList).1.length := rfl
  have e2 : (cutB s sep).2.1.size = (Lib.cut s.data.toList sep.data.toList).2.1.length := rfl
  have e3 : (Lib.cut s.data.toList sep.data.toList).2.2 = true := h
  rw [e1, e2]
  unfold Lib.cut at e3 ⊢
  split at e3
  · rename_i h0
    rw [if_pos h0]
    obtain ⟨k, hk⟩ := index_nat h0
    have hr := Lib.index_room _ _ h0
    rw [bs_list, bs_list, hk] at hr
    simp only [hk, Int.toNat_natCast, List.length_take, List.length_drop, bs_list]
    omega
  · cases e3
def ReadIs (s : ByteArray) (P : PP) (c : Nat) (p : Int) : Prop :=
  (4000 < s.size ∧ P = PP.none ∧ c = 2 ∧ p = -1) ∨
  (s.size ≤ 4000 ∧ (linesR (s.size + 1) PP.none 0 0 s).2.1 ≠ 0 ∧ P = PP.none ∧ c = (linesR (s.size + 1) PP.none 0 0 s).2.1 ∧ p = ((linesR (s.size + 1) PP.none 0 0 s).2.2 : Int)) ∨
  (s.size ≤ 4000 ∧ (linesR (s.size + 1) PP.none 0 0 s).2.1 = 0 ∧ ∃ q, FaultIs (linesR (s.size + 1) PP.none 0 0 s).1 c q ∧ p = -1 ∧ ((c = 0 ∧ P = (linesR (s.size + 1) PP.none 0 0 s).1) ∨ (c ≠ 0 ∧ P = PP.none)))
theorem ReadIs.uniq {s : ByteArray} {P Q : PP} {c d : Nat} {p q : Int} (h : ReadIs s P c p) (g : ReadIs s Q d q) : P = Q ∧ c = d ∧ p = q := by
  rcases h with ⟨h0, h1, h2, h3⟩ | ⟨h0, h1, h2, h3, h4⟩ | ⟨h0, h1, r, h2, h3, h4⟩ <;> rcases g with ⟨g0, g1, g2, g3⟩ | ⟨g0, g1, g2, g3, g4⟩ | ⟨g0, g1, t, g2, g3, g4⟩
  · exact ⟨h1.trans g1.symm, h2.trans g2.symm, h3.trans g3.symm⟩
  · omega
  · omega
  · omega
  · exact ⟨h2.trans g2.symm, h3.trans g3.symm, h4.trans g4.symm⟩
  · exact absurd g1 h1
  · omega
  · exact absurd h1 g1
  · have he := (h2.uniq g2).1
    refine ⟨?_, he, h3.trans g3.symm⟩
    rcases h4 with ⟨h4, h5⟩ | ⟨h4, h5⟩ <;> rcases g4 with ⟨g4, g5⟩ | ⟨g4, g5⟩
    · exact h5.trans g5.symm
    · omega
    · omega
    · exact h5.trans g5.symm
end Go.Proofs.YtamblahkckaaaaaDoor
namespace Go.Proofs.YtamblahkckaaaaaDoor
open Go
theorem bs_ext {a b : ByteArray} (h : a.data.toList = b.data.toList) : a = b := by
  rcases a with ⟨⟨a⟩⟩
  rcases b with ⟨⟨b⟩⟩
  have h : a = b := h
  rw [h]
theorem kB_data (l : List UInt8) : (kB l).data.toList = l := rfl
theorem kB_of (s : ByteArray) : kB s.data.toList = s := bs_ext rfl
def NmB (l : List UInt8) : Prop := ∀ b ∈ l, 48 ≤ b.toNat ∧ b.toNat ≠ 61
theorem NmB.free {l : List UInt8} (h : NmB l) {c : UInt8} (hc : c.toNat < 48 ∨ c.toNat = 61) : c ∉ l := fun hm => by
  have := h c hm
  omega
theorem nm_of {s : ByteArray} (h : nameOk s = true) : NmB s.data.toList := fun b hb => by
  obtain ⟨k, hk, e⟩ := List.mem_iff_getElem.1 hb
  have hk' : k < s.size := by rw [bs_list] at hk; exact hk
  have h1 := ((nameOk_iff s).1 h).2.2.2 k hk'
  have e2 : s[k] = b := e
  rw [e2] at h1
  unfold okAt at h1
  simp only [Bool.or_eq_true, Bool.and_eq_true, decide_eq_true_eq] at h1
  omega
theorem nm_ne {s : ByteArray} (h : nameOk s = true) : s.data.toList ≠ [] := fun e => by
  have h1 := ((nameOk_iff s).1 h).2.1
  rw [← bs_list, e] at h1
  simp at h1
theorem nm_res {s : ByteArray} (h : nameOk s = true) {r : List UInt8} (hr : (⟨r.toArray⟩ : ByteArray) ∈ reserved) : s.data.toList ≠ r := fun e => by
  have h1 := ((nameOk_iff s).1 h).1
  have : memB s reserved = true := List.any_eq_true.2 ⟨_, hr, by
    unfold eqB
    rw [beq_iff_eq, Lib.toList_data, Lib.toList_data, e]⟩
  rw [this] at h1
  cases h1
theorem index_app {c : UInt8} {r t : List UInt8} : ∀ {x : List UInt8}, c ∉ x → Lib.index (x ++ ((c :: r) ++ t)) (c :: r) = (x.length : Int)
  | [], _ => by
    show Lib.index (c :: (r ++ t)) (c :: r) = 0
    unfold Lib.index
    exact if_pos (List.isPrefixOf_iff_prefix.2 (show (c :: r) <+: (c :: (r ++ t)) from ⟨t, rfl⟩))
  | b :: x, h => by
    have hb : b ≠ c := fun e => h (by rw [e]; exact List.mem_cons_self ..)
    have ih := index_app (r := r) (t := t) (x := x) fun hm => h (List.mem_cons_of_mem _ hm)
    show Lib.index (b :: (x ++ ((c :: r) ++ t))) (c :: r) = _
    unfold Lib.index
    rw [if_neg, ih, if_neg]
    · simp
    · simp
    · simp [List.isPrefixOf, Ne.symm hb]
theorem cut_app {c : UInt8} {r t x : List UInt8} (h : c ∉ x) : Lib.cut (x ++ ((c :: r) ++ t)) (c :: r) = (x, t, true) := by
  unfold Lib.cut
  rw [index_app h, if_pos (by omega)]
  simp only [Int.toNat_natCast]
  rw [List.take_left, ← List.drop_drop, List.drop_left, List.drop_left]
theorem cutB_app {c : UInt8} {r t x : List UInt8} (h : c ∉ x) : cutB (kB (x ++ ((c :: r) ++ t))) ⟨(c :: r).toArray⟩ = (kB x, kB t, true) := by
  unfold cutB
  rw [show (kB (x ++ ((c :: r) ++ t))).data.toList = x ++ ((c :: r) ++ t) from rfl, show (⟨(c :: r).toArray⟩ : ByteArray).data.toList = c :: r from rfl, cut_app h]
  rfl
theorem cpB_yes (p x : List UInt8) : cpB (kB (p ++ x)) ⟨p.toArray⟩ = (kB x, true) := by
  unfold cpB
  rw [show (kB (p ++ x)).data.toList = p ++ x from rfl, show (⟨p.toArray⟩ : ByteArray).data.toList = p from rfl]
  have h : Lib.hasPrefix (p ++ x) p = true := by unfold Lib.hasPrefix; rw [List.isPrefixOf_iff_prefix]; exact ⟨x, rfl⟩
  unfold Lib.trimPrefix
  rw [h]
  simp
  rfl
theorem cpB_no {p x : List UInt8} (h : p.isPrefixOf x = false) : (cpB (kB x) ⟨p.toArray⟩).2 = false := by
  unfold cpB Lib.hasPrefix
  exact h
theorem pre_diff {b c : UInt8} {p x : List UInt8} (h : c ≠ b) : (c :: p).isPrefixOf (b :: x) = false := by simp [List.isPrefixOf, h]
theorem pre_name : ∀ {p x t : List UInt8}, (32 : UInt8) ∉ p → (32 : UInt8) ∉ x → (p ++ [32]).isPrefixOf (x ++ 32 :: t) = true → x = p
  | [], [], _, _, _, _ => rfl
  | [], b :: x, t, _, h, e => by
    have : (32 : UInt8) = b := by simpa [List.isPrefixOf] using e
    exact absurd (this ▸ List.mem_cons_self ..) h
  | c :: p, [], t, h, _, e => by
    have : c = 32 := by
      have := e
      simp [List.isPrefixOf] at this
      exact this.1
    exact absurd (this ▸ List.mem_cons_self ..) h
  | c :: p, b :: x, t, h, g, e => by
    have e2 : c = b ∧ (p ++ [32]).isPrefixOf (x ++ 32 :: t) = true := by
      have := e
      rw [List.cons_append, List.cons_append, List.isPrefixOf] at this
      simpa using this
    rw [e2.1, pre_name (fun hm => h (List.mem_cons_of_mem _ hm)) (fun hm => g (List.mem_cons_of_mem _ hm)) e2.2]
theorem pre_free {p x : List UInt8} {c : UInt8} (h : c ∉ x) (hc : c ∈ p) : p.isPrefixOf x = false := by
  cases hp : p.isPrefixOf x with
  | false => rfl
  | true =>
    obtain ⟨t, rfl⟩ := List.isPrefixOf_iff_prefix.1 hp
    exact absurd (List.mem_append_left _ hc) h
theorem splitK_join : ∀ (ps : List (List UInt8)), ps ≠ [] → (∀ p ∈ ps, (44 : UInt8) ∉ p) → Lib.split (Lib.join ps [44, 32]) [44, 32] = ps
  | [], h, _ => absurd rfl h
  | [x], _, h => by
    have h0 : Lib.index x [44, 32] = -1 := Lib.index_none fun j hj => by
      unfold Lib.occAt
      exact pre_free (c := 44) (fun hm => h x (List.mem_cons_self ..) (List.mem_of_mem_drop hm)) (List.mem_cons_self ..)
    unfold Lib.split
    rw [Lib.join_one, Lib.count_miss h0]
    rfl
  | x :: y :: r, _, h => by
    have ih := splitK_join (y :: r) (by simp) fun p hp => h p (List.mem_cons_of_mem _ hp)
    have hx := h x (List.mem_cons_self ..)
    unfold Lib.split at ih ⊢
    rw [join_two]
    have hi := index_app (r := [32]) (t := Lib.join (y :: r) [44, 32]) hx
    have hd : (x ++ ([44, 32] ++ Lib.join (y :: r) [44, 32])).drop (x.length + ([44, 32] : List UInt8).length) = Lib.join (y :: r) [44, 32] := by
      rw [← List.drop_drop, List.drop_left, List.drop_left]
    rw [Lib.count_hit (by simp) hi, hd, Nat.add_comm 1]
    unfold Lib.splitK
    rw [hi, if_neg (by simp)]
    simp only [Int.toNat_natCast, Nat.add_zero]
    rw [hd, ih, List.take_left]
theorem map_data_inj : ∀ {a b : List ByteArray}, a.map (fun x => x.data.toList) = b.map (fun x => x.data.toList) → a = b
  | [], [], _ => rfl
  | [], _ :: _, h => by simp at h
  | _ :: _, [], h => by simp at h
  | x :: a, y :: b, h => by
    simp only [List.map_cons, List.cons.injEq] at h
    rw [bs_ext h.1, map_data_inj h.2]
theorem join_ne {x : List UInt8} {r : List (List UInt8)} {sep : List UInt8} (h : x ≠ []) : Lib.join (x :: r) sep ≠ [] := by
  cases r with
  | nil => rw [Lib.join_one]; exact h
  | cons y r => rw [join_two]; simp [h]
theorem pieces_join {ns : List ByteArray} (h : ∀ s ∈ ns, nameOk s = true) : piecesB (kB (Lib.join (ns.map fun x => x.data.toList) [44, 32])) = ns := by
  cases ns with
  | nil => unfold piecesB; rw [if_pos (by rw [Lib.toList_data]; rfl)]
  | cons x r =>
    have hne : Lib.join ((x :: r).map fun x => x.data.toList) [44, 32] ≠ [] := join_ne (nm_ne (h x (List.mem_cons_self ..)))
    unfold piecesB
    rw [if_neg (by rw [Lib.toList_data, kB_data]; simp only [beq_iff_eq]; exact hne)]
    apply map_data_inj
    have hs := Lib.splitB_data sepB 0 (Lib.countB (kB (Lib.join ((x :: r).map fun x => x.data.toList) [44, 32])) sepB) (kB (Lib.join ((x :: r).map fun x => x.data.toList) [44, 32]))
    refine hs.trans ?_
    exact splitK_join ((x :: r).map fun x => x.data.toList) (by simp) fun p hp => by
      obtain ⟨s, hs, rfl⟩ := List.mem_map.1 hp
      exact (nm_of (h s hs)).free (.inl (by decide))
theorem join_free {c : UInt8} {sep : List UInt8} (hc : c ∉ sep) : ∀ {ps : List (List UInt8)}, (∀ p ∈ ps, c ∉ p) → c ∉ Lib.join ps sep
  | [], _ => by simp [Lib.join, List.intercalate]
  | [x], h => by rw [Lib.join_one]; exact h x (List.mem_cons_self ..)
  | x :: y :: r, h => by
    rw [join_two]
    intro hm
    rcases List.mem_append.1 hm with e | e
    · exact h x (List.mem_cons_self ..) e
    · rcases List.mem_append.1 e with e | e
      · exact hc e
      · exact join_free hc (fun p hp => h p (List.mem_cons_of_mem _ hp)) e
theorem splitP_of {y : ByteArray} {ns : List ByteArray} {t : List UInt8} (hy : nameOk y = true) (h : ∀ s ∈ ns, nameOk s = true) :
    splitP (kB (y.data.toList ++ ([40] ++ (Lib.join (ns.map fun x => x.data.toList) [44, 32] ++ ([41] ++ t))))) = (y, ns, kB t, true) := by
  have h1 := cutB_app (c := 40) (r := []) (x := y.data.toList) (t := Lib.join (ns.map fun x => x.data.toList) [44, 32] ++ ([41] ++ t)) ((nm_of hy).free (.inl (by decide)))
  have h2 := cutB_app (c := 41) (r := []) (x := Lib.join (ns.map fun x => x.data.toList) [44, 32]) (t := t) (join_free (by decide) fun p hp => by
    obtain ⟨s, hs, rfl⟩ := List.mem_map.1 hp
    exact (nm_of (h s hs)).free (.inl (by decide)))
  unfold splitP
  rw [show cutB (kB (y.data.toList ++ ([40] ++ (Lib.join (ns.map fun x => x.data.toList) [44, 32] ++ ([41] ++ t))))) opB = _ from h1]
  simp only
  rw [show cutB (kB (Lib.join (ns.map fun x => x.data.toList) [44, 32] ++ ([41] ++ t))) clB = _ from h2]
  simp only
  rw [pieces_join h, kB_of]
  rfl
end Go.Proofs.YtamblahkckaaaaaDoor
namespace Go.Proofs.YtamblahkckaaaaaDoor
open Go Go.RowKit
set_option maxRecDepth 100000 in
theorem bare_perr (x : Addr) (w : World) : Calls Tryd.prog 26 #[.iface 130 (.pointer (some x))] w fun e w' => e = .returned (.iface 130 (.pointer (some x))) ∧ w' = w := by
  have hta : ∀ v w1, (Instr.typeAssert (.iface 130 v) 31 50 true).run Tryd.prog w1 = .ok (.tuple #[.pointer none, .bool false]) w1 := fun v w1 => by kernel_rfl
  go_enter Tryd.func26, Tryd.ntmps26
  go_wp2
  go_ret
  exact ⟨rfl, rfl⟩
set_option maxRecDepth 100000 in
theorem bare_fault (b i : Nat) (t : TypeId) (x : Addr) (w : World) (h : Blk w b #[.int .i64 (i : Int), .iface t (.pointer (some x))] 52) : Calls Tryd.prog 26 #[.iface 50 (.pointer (some ⟨b, 0, none⟩))] w fun e w' => e = .returned (.iface t (.pointer (some x))) ∧ w' = w := by
  have hta : ∀ v w1, (Instr.typeAssert (.iface 50 v) 31 50 true).run Tryd.prog w1 = .ok (.tuple #[v, .bool true]) w1 := fun v w1 => by kernel_rfl
  have c1 := h.av 1 rfl
  simp only [qA0, qA1, qA2] at c1
  go_enter Tryd.func26, Tryd.ntmps26
  go_wp2
  go_ret
  exact ⟨rfl, rfl⟩
theorem bare_any {ad : Nat → Addr} {P : PP} {w : World} {v : Value} (h : ErrIs ad P w v) (hw : v ≠ .nilIface) :
    ∃ c q, FaultIs P c q ∧ c ≠ 0 ∧ c ≤ 11 ∧ Calls Tryd.prog 26 #[v] w fun e w' => e = .returned (.iface 130 (.pointer (some (ad c)))) ∧ w' = w := by
  rcases h with ⟨h3, rfl⟩ | ⟨h3, h4, rfl⟩ | ⟨h3, i, s, b, h4, rfl, hb⟩
  · have := P.err1_le
    exact ⟨P.err1, -1, .inl ⟨h3, rfl, rfl⟩, h3, by omega, bare_perr _ w⟩
  · exact absurd rfl hw
  · have := P.stmtErr_le s
    exact ⟨P.stmtErr s, i, .inr (.inr ⟨h3, i, s, h4, rfl, rfl⟩), h4.2.1, by omega, bare_fault b i _ _ w hb⟩
theorem iter_total {P : PP} (hw : P.Well) : ∀ n, (∀ m, m < n → P.roundV (P.iterV m) ≠ P.iterV m) → n ≤ total (P.iterV n)
  | 0, _ => Nat.zero_le _
  | n + 1, h => by
    have h1 := iter_total hw n fun m hm => h m (by omega)
    have h2 := iter_grows hw n (h n (by omega))
    omega
theorem LeastAt.few {P : PP} (hw : P.Well) {n : Nat} {S : List (List Int)} (h : LeastAt P n S) : n ≤ 120000 := by
  have h1 := iter_total hw n fun m hm => h.first m hm
  have h2 := iter_few hw n
  omega
def twice (l : List PS) : List PS := l.reverse.flatMap fun x => [x, x]
structure EvIs (ad : Nat → Addr) (w : World) (ev : Value) (c : Nat) (p : Int) : Prop where
  no : c = 0 → ev = .nilIface
  yes : c ≠ 0 → ∃ t x, ev = .iface t (.pointer (some x))
  is : (c = 0 ∧ p = -1) ∨ (c ≠ 0 ∧ c ≤ 11 ∧ ((ev = evOf ad c ∧ p = -1) ∨ ∃ (b i : Nat), ev = .iface 50 (.pointer (some ⟨b, 0, none⟩)) ∧ Blk w b #[.int .i64 (i : Int), evOf ad c] 52 ∧ p = (i : Int)))
theorem EvIs.nil (ad : Nat → Addr) (w : World) : EvIs ad w .nilIface 0 (-1) := ⟨fun _ => rfl, fun h => absurd rfl h, .inl ⟨rfl, rfl⟩⟩
theorem EvIs.err (ad : Nat → Addr) (w : World) {c : Nat} (h0 : c ≠ 0) (h : c ≤ 11) : EvIs ad w (.iface 130 (.pointer (some (ad c)))) c (-1) := ⟨fun h => absurd h h0, fun _ => ⟨_, _, rfl⟩, .inr ⟨h0, h, .inl ⟨rfl, rfl⟩⟩⟩
theorem EvIs.at (ad : Nat → Addr) (w : World) {c b i : Nat} (h0 : c ≠ 0) (h : c ≤ 11) (hb : Blk w b #[.int .i64 (i : Int), .iface 130 (.pointer (some (ad c)))] 52) : EvIs ad w (.iface 50 (.pointer (some ⟨b, 0, none⟩))) c (i : Int) := ⟨fun h => absurd h h0, fun _ => ⟨_, _, rfl⟩, .inr ⟨h0, h, .inr ⟨b, i, rfl, hb, rfl⟩⟩⟩
theorem EvIs.ext {ad : Nat → Addr} {w w' : World} {ev : Value} {c : Nat} {p : Int} (h : EvIs ad w ev c p) (x : Ext w w') : EvIs ad w' ev c p := ⟨h.no, h.yes, by
  rcases h.is with h | ⟨h1, h2, h3 | ⟨b, i, h3, h4, h5⟩⟩
  · exact .inl h
  · exact .inr ⟨h1, h2, .inl h3⟩
  · exact .inr ⟨h1, h2, .inr ⟨b, i, h3, h4.ext x, h5⟩⟩⟩
structure ErrRB (w : World) (ad : Nat → Addr) : Prop where
  p : ErrsP w ad
  r : ErrR w ad
theorem ErrRB.ext {w w' : World} {ad : Nat → Addr} (h : ErrRB w ad) (x : Ext w w') : ErrRB w' ad := ⟨h.p.ext x, h.r.ext x⟩
theorem ErrRB.at2 {w : World} {ad : Nat → Addr} (h : ErrRB w ad) : w.cell? ⟨3, 0, none⟩ = some (.iface 130 (.pointer (some (ad 2)))) := h.p.at2
theorem ProgR.none (w : World) : ProgR w w.heap.size (.slice .none PP.none.vars.length 0) (.slice .none PP.none.funs.length 0) (.slice .none PP.none.stmts.length 0) PP.none :=
  ⟨⟨.none, 0, rfl, Nat.le_refl _, by decide, fun h => absurd h (by decide), fun y hy => by cases hy⟩, ⟨.none, 0, rfl, Nat.le_refl _, by decide, fun h => absurd h (by decide), fun y hy => by cases hy⟩, ⟨.none, 0, rfl, Nat.le_refl _, by decide, fun h => absurd h (by decide), fun y hy => by cases hy⟩⟩
def strLen : Value → Nat | .string s => s.size | _ => 0
theorem linesR_end {n : Nat} {P : PP} {pt i : Nat} {s : ByteArray} (hn : 0 < n) (h : (s.toList == []) = true) : linesR n P pt i s = (P, 0, i) := by
  cases n with
  | zero => omega
  | succ n => unfold linesR; rw [if_pos h]
theorem linesR_no {n : Nat} {P : PP} {pt i : Nat} {s : ByteArray} (hn : 0 < n) (h : (s.toList == []) = false) (hc : (cutB s nlB).2.2 = false) : linesR n P pt i s = (P, 1, i) := by
  cases n with
  | zero => omega
  | succ n => unfold linesR; rw [if_neg (bool_ne h), if_pos hc]
theorem linesR_bad {n : Nat} {P : PP} {pt i : Nat} {s l r : ByteArray} (hn : 0 < n) (h : (s.toList == []) = false) (hc : cutB s nlB = (l, r, true)) (hb : (P.lineR pt l).2 ≠ 0) : linesR n P pt i s = ((P.lineR pt l).1, (P.lineR pt l).2, i) := by
  cases n with
  | zero => omega
  | succ n => unfold linesR; rw [if_neg (bool_ne h), hc, if_neg (by simp), if_pos hb]
theorem linesR_step {n : Nat} {P : PP} {pt i : Nat} {s l r : ByteArray} (h : (s.toList == []) = false) (hc : cutB s nlB = (l, r, true)) (hb : (P.lineR pt l).2 = 0) : linesR (n + 1) P pt i s = linesR n (P.lineR pt l).1 (lineP l) (i + 1) r := by
  conv => lhs; unfold linesR
  rw [if_neg (bool_ne h), hc, if_neg (by simp), if_neg (by simp [hb])]
set_option maxRecDepth 100000 in
set_option maxHeartbeats 6400000 in
theorem progread_any (s0 : ByteArray) (hs : s0.size ≤ 1000000) (w : World) (ad : Nat → Addr) (hA : ErrRB w ad) (hm : ∃ m, w.cell? ⟨8, 0, none⟩ = some (.int .i64 m)) :
    Calls Tryd.prog 9 #[.string s0] w fun e w' => ∃ P c p a1 a2 a3 c1 c2 c3 ev, e = .returned (.tuple #[pval a1 a2 a3 c1 c2 c3 P, ev]) ∧ ReadIs s0 P c p ∧ ProgR w' w'.heap.size (.slice a1 P.vars.length c1) (.slice a2 P.funs.length c2) (.slice a3 P.stmts.length c3) P ∧ EvIs ad w' ev c p ∧ Ext w w' := by
  have hEM : ErrM w ad := ⟨hA.r, hm⟩
  obtain ⟨W, hW⟩ : ∃ W, W = w.alloc (.cells #[.slice none 0 0, .slice none 0 0, .slice none 0 0] 26) := ⟨_, rfl⟩
  have hxW : Ext w W := by rw [hW]; exact (Ext.refl _).alloc _
  have HBt : Hid (Blk W w.heap.size #[.slice none 0 0, .slice none 0 0, .slice none 0 0] 26) := hid (by rw [hW]; exact Blk.new _ _ _)
  have HxW := hid hxW
  have HA := hid hA
  have HEM := hid (hEM.ext hxW)
  by_cases h4 : 4000 < s0.size
  · have HI := hid (show ReadIs s0 PP.none 2 (-1) from .inl ⟨h4, rfl, rfl, rfl⟩)
    have hz : ∀ w1, Keep (fun b => b = w.heap.size) W w1 → w1.cell? ⟨3, 0, none⟩ = some (.iface 130 (.pointer (some (ad 2)))) := fun w1 hk => hk.cellx (hxW.cellx hA.at2) (fun e => by have := cell_lt hA.at2; simp only at e this; omega)
    have HWe := hid hW
    clear hW hxW hA hEM hm
    go_enter Tryd.func9, Tryd.ntmps9
    go_wp2
    rw [← HWe.out]
    refine wp_flowT (fun b => b = w.heap.size) (by kernel_rfl) (by kernel_rfl) ?_
    repeat (apply FlowT.d; (intro w1 hk; unfold does; go_simp; (try go_ints); (first | exact DetR.mk | (simp only [↓IntWalk.iteOmega, Oper.doesUpon_value]; exact DetR.mk) | (simp only [↓IntWalk.iteOmega]; go_simp; (try go_ints); exact DetR.mk))); simp only [Act.put, qS0, qS1, qS2])
    refine FlowT.v undef (fun w' => Blk w' w.heap.size #[.slice none 0 0, .slice none 0 0, .slice none 0 0] 26 ∧ Keep (fun b => b = w.heap.size) W w') 2 rfl (by kernel_rfl) (fun w1 w2 h x => ⟨h.1.ext x, h.2.ext_r x⟩) (fun wa hx hk => ?_) ?_
    · have hB := HBt.out.ext hx
      have c0 := hB.av 0 rfl
      have c1 := hB.av 1 rfl
      have c2 := hB.av 2 rfl
      have f0 := hB.free
      unfold does
      go_simp
      exact ⟨hk.trans (store3_keep _ _ _ _ _), rfl, store3 hB, hk.trans (store3_keep _ _ _ _ _)⟩
    repeat (apply FlowT.d; (intro w1 hk; unfold does; go_simp; (try go_ints); (first | exact DetR.mk | (simp only [↓IntWalk.iteOmega, Oper.doesUpon_value]; exact DetR.mk) | (simp only [↓IntWalk.iteOmega]; go_simp; (try go_ints); exact DetR.mk))); simp only [Act.put, qS0, qS1, qS2])
    refine FlowT.fin fun wb hC hk => ?_
    obtain ⟨hB, hK⟩ := hC
    have c0 := hB.av 0 rfl
    have c1 := hB.av 1 rfl
    have c2 := hB.av 2 rfl
    have hE := hid (Keep.new HxW.out hK (fun n hn => Nat.le_of_eq hn.symm))
    clear hk hK hB hz
    go_wp2
    exact bodyPost_ret (v := .tuple #[pval none none none 0 0 0 PP.none, .iface 130 (.pointer (some (ad 2)))]) (by simp [results, pval, PP.none, Tryd.results9, go_sem, c0, c1, c2]) rfl ⟨_, _, _, _, _, _, _, _, _, _, rfl, HI.out, ProgR.none _, EvIs.err ad _ (by decide) (by decide), hE.out⟩
  · have hWs : W.heap.size = w.heap.size + 1 := by rw [hW, heap_size_alloc]
    obtain ⟨W1, hW1⟩ : ∃ W1, W1 = W.alloc (.cells #[.slice none 0 0, .slice none 0 0, .slice none 0 0, .int .i64 0] 64) := ⟨_, rfl⟩
    have hx1 : Ext W W1 := by rw [hW1]; exact (Ext.refl _).alloc _
    have HR1 : Hid (RdA W W1 (w.heap.size + 1) PP.none 0) := hid ⟨⟨_, _, _, [], [], ⟨by omega, by rw [hW1, ← hWs]; exact Blk.new _ _ _, World.ownsRow_nil _ _ _ _, World.ownsRow_nil _ _ _ _, World.ownsRow_nil _ _ _ _, (fun _ h => by cases h), (fun _ h => by cases h), rfl, rfl⟩⟩, hx1⟩
    have HW1 : Hid (W1 = (w.alloc (.cells #[.slice none 0 0, .slice none 0 0, .slice none 0 0] 26)).alloc (.cells #[.slice none 0 0, .slice none 0 0, .slice none 0 0, .int .i64 0] 64)) := hid (by rw [hW1, hW])
    have Hsz : Hid (s0.size ≤ 4000) := hid (by omega)
    have HWs := hid hWs
    have HEM0 := hid hEM
    clear hx1 hW1 hW hxW hA hEM hm hWs hs
    go_enter Tryd.func9, Tryd.ntmps9
    go_wp2
    rw [← HW1.out]
    go_loopw [0, 5, 6, 7, 8, 9] (fun t0 t5 _ _ _ _ wr => ∃ (n i pt : Nat) (P : PP) (s : ByteArray), t0 = .string s ∧ t5 = .int .i64 (i : Int) ∧ Hid (linesR (s0.size + 1) PP.none 0 0 s0 = linesR n P pt i s ∧ s.size < n ∧ pt ≤ 2 ∧ LinesI P s.size) ∧ i + s.size ≤ 4000 ∧ RdA W wr (w.heap.size + 1) P pt) (fun t0 _ _ _ _ _ _ => strLen t0)
    case atStart => exact ⟨s0.size + 1, 0, 0, PP.none, s0, rfl, rfl, hid ⟨rfl, Nat.lt_succ_self _, Nat.zero_le _, LinesI.start Hsz.out⟩, by omega, HR1.out⟩
    case round =>
      clear HR1
      obtain ⟨n, i, pt, P, s, rfl, rfl, hI, his, hR⟩ := hrel
      have HI := hid hI.out
      have HR := hid hR
      clear hI hR
      cases hs0 : (s.toList == []) with
      | true =>
        have HL := hid (HI.out.1.trans (linesR_end (Nat.lt_of_le_of_lt (Nat.zero_le _) HI.out.2.1) hs0))
        obtain ⟨⟨vv, fv, sv, fs, ss, hR⟩, hX⟩ := HR.out
        have HR0 := hid hR
        have HX0 := hid hX
        obtain ⟨va, vc, rfl⟩ := row_form hR.vars
        obtain ⟨fa, fc, hfv⟩ := row_form hR.funs
        obtain ⟨sa, sc, hsv⟩ := row_form hR.stmts
        rw [hR.fl] at hfv
        rw [hR.sl] at hsv
        subst hfv hsv
        have hII := HI.out.2.2.2
        have g0 := hR.blk.av 0 rfl
        have g1 := hR.blk.av 1 rfl
        have g2 := hR.blk.av 2 rfl
        simp only [qA0, qA1, qA2] at g0 g1 g2
        have HK := hid (pcheck_any va fa sa vc fc sc P wr wr.heap.size ad (HA.out.p.ext (HxW.out.trans hX)) ⟨hR.strs, hR.funs_at, StmtsR.own hR.stmts hR.sm hR.si⟩ (fun s hs => by have := ((nameOk_iff s).1 (hII.vn s hs)).2.2.1; omega) (fun s hs => by
          obtain ⟨f, hf, rfl⟩ := List.mem_map.1 hs
          have := ((nameOk_iff _).1 (hII.fn f hf)).2.2.1
          omega) (by have := hII.v; omega))
        unfold pval at HK
        clear hR hX HR hII his
        go_wp2_with fail
        refine HK.out.mono ?_
        rintro e w2 ⟨v, rfl, hei, hx2⟩
        have HX2 := hid (HX0.out.trans hx2)
        have HR2 := hid (HR0.out.ext hx2)
        clear HK hx2 HX0 HR0 g0 g1 g2
        by_cases hw : P.Well
        · have hvn : v = .nilIface := by
            rcases hei with ⟨h3, _⟩ | ⟨h3, h4, h5⟩ | ⟨h3, i, s, b, h4, _⟩
            · exact absurd hw.1 h3
            · exact h5
            · exact absurd (hw.2 i s (List.getElem?_eq_some_iff.1 h4.1).1 h4.1) h4.2.1
          subst hvn
          have HRI := hid (show ReadIs s0 P 0 (-1) from .inr (.inr ⟨Hsz.out, by rw [HL.out], -1, by rw [HL.out]; exact .inr (.inl ⟨hw.1, hw.2, rfl, rfl⟩), rfl, .inl ⟨rfl, by rw [HL.out]⟩⟩))
          have g0 := HR2.out.blk.av 0 rfl
          have g1 := HR2.out.blk.av 1 rfl
          have g2 := HR2.out.blk.av 2 rfl
          simp only [qA0, qA1, qA2] at g0 g1 g2
          have HT2 : Hid (Blk w2 w.heap.size #[.slice none 0 0, .slice none 0 0, .slice none 0 0] 26) := hid (HBt.out.ext HX2.out)
          obtain ⟨W10, hW10⟩ : ∃ W10, W10 = (((w2.setCell ⟨w.heap.size, 0, none⟩ (.slice va P.vars.length vc)).setCell ⟨w.heap.size, 1, none⟩ (.slice fa P.funs.length fc)).setCell ⟨w.heap.size, 2, none⟩ (.slice sa P.stmts.length sc)) := ⟨_, rfl⟩
          have HT10 : Hid (Blk W10 w.heap.size #[.slice va P.vars.length vc, .slice fa P.funs.length fc, .slice sa P.stmts.length sc] 26) := hid (by rw [hW10]; exact store3 HT2.out)
          have hK10 : Keep (fun q => q = w.heap.size) w2 W10 := by rw [hW10]; exact store3_keep _ _ _ _ _
          have HX10 : Hid (Ext w W10) := hid (Keep.new (HxW.out.trans HX2.out) hK10 fun q hq => Nat.le_of_eq hq.symm)
          have hni : ∀ b, b = w.heap.size → ¬ IsInt w2 b := fun b e => by subst e; exact notInt HT2.out (by decide)
          have hrk : ∀ {base : Nat} {e : TypeId} {size : Nat} {v : Value} {n : Nat} {xs : List Value}, w2.ownsRow base e size v n xs → e ≠ 26 → W10.ownsRow base e size v n xs := fun hr hne => row_keep hr hK10 fun i hi e => by
            subst e
            obtain ⟨c, hc⟩ := own_ty hr hi
            exact Blk.ty_ne hc HT2.out hne rfl
          have HP' : Hid (ProgR W10 W10.heap.size (.slice va P.vars.length vc) (.slice fa P.funs.length fc) (.slice sa P.stmts.length sc) P) := hid
            ⟨StrsR.own (hrk HR2.out.vars (by decide)) (Nat.le_refl _), FunsR.own (hrk HR2.out.funs (by decide)) HR2.out.fm fun x hx => (HR2.out.fi x hx).keep hK10 hni, StmtsR.own (hrk HR2.out.stmts (by decide)) HR2.out.sm fun x hx => (HR2.out.si x hx).keep hK10 hni⟩
          have z0 := HT2.out.av 0 rfl
          have z1 := HT2.out.av 1 rfl
          have z2 := HT2.out.av 2 rfl
          have f0 := HT2.out.free 0
          have f1 := HT2.out.free 1
          have f2 := HT2.out.free 2
          simp only [qA0, qA1, qA2] at z0 z1 z2
          have HW10 := hid hW10
          clear hW10 hK10 hni hrk hw hei
          go_wp2
          rw [← HW10.out]
          have c0 := HT10.out.av 0 rfl
          have c1 := HT10.out.av 1 rfl
          have c2 := HT10.out.av 2 rfl
          exact bodyPost_ret (v := .tuple #[pval va fa sa vc fc sc P, .nilIface]) (by simp [results, pval, Tryd.results9, go_sem, c0, c1, c2]) rfl ⟨_, _, _, _, _, _, _, _, _, _, rfl, HRI.out, HP'.out, EvIs.nil ad _, HX10.out⟩
        · have hvx : ∃ t x, v = .iface t (.pointer (some x)) := by
            rcases hei with ⟨h3, h4⟩ | ⟨h3, h4, h5⟩ | ⟨h3, i, s, b, h4, h5, _⟩
            · exact ⟨_, _, h4⟩
            · exact absurd ⟨h3, h4⟩ hw
            · exact ⟨_, _, h5⟩
          obtain ⟨t, x, rfl⟩ := hvx
          obtain ⟨c, q, hf, hc0, hc11, hba⟩ := bare_any hei (by simp)
          have HBa := hid hba
          have HRI := hid (show ReadIs s0 PP.none c (-1) from .inr (.inr ⟨Hsz.out, by rw [HL.out], q, by rw [HL.out]; exact hf, rfl, .inr ⟨hc0, rfl⟩⟩))
          have Hc0 := hid hc0
          have Hc11 := hid hc11
          have HT2 : Hid (Blk w2 w.heap.size #[.slice none 0 0, .slice none 0 0, .slice none 0 0] 26) := hid (HBt.out.ext HX2.out)
          obtain ⟨W10, hW10⟩ : ∃ W10, W10 = (((w2.setCell ⟨w.heap.size, 0, none⟩ (.slice none 0 0)).setCell ⟨w.heap.size, 1, none⟩ (.slice none 0 0)).setCell ⟨w.heap.size, 2, none⟩ (.slice none 0 0)) := ⟨_, rfl⟩
          have HT10 : Hid (Blk W10 w.heap.size #[.slice none 0 0, .slice none 0 0, .slice none 0 0] 26) := hid (by rw [hW10]; exact store3 HT2.out)
          have hK10 : Keep (fun q => q = w.heap.size) w2 W10 := by rw [hW10]; exact store3_keep _ _ _ _ _
          have HX10 : Hid (Ext w W10) := hid (Keep.new (HxW.out.trans HX2.out) hK10 fun q hq => Nat.le_of_eq hq.symm)
          have z0 := HT2.out.av 0 rfl
          have z1 := HT2.out.av 1 rfl
          have z2 := HT2.out.av 2 rfl
          have f0 := HT2.out.free 0
          have f1 := HT2.out.free 1
          have f2 := HT2.out.free 2
          simp only [qA0, qA1, qA2] at z0 z1 z2
          have HW10 := hid hW10
          clear hW10 hK10 hw hei hba hf hc0 hc11
          go_wp2_with fail
          refine HBa.out.mono ?_
          rintro e w3 ⟨rfl, rfl⟩
          clear HBa
          go_wp2
          rw [← HW10.out]
          have c0 := HT10.out.av 0 rfl
          have c1 := HT10.out.av 1 rfl
          have c2 := HT10.out.av 2 rfl
          exact bodyPost_ret (v := .tuple #[pval none none none 0 0 0 PP.none, .iface 130 (.pointer (some (ad c)))]) (by simp [results, pval, PP.none, Tryd.results9, go_sem, c0, c1, c2]) rfl ⟨_, _, _, _, _, _, _, _, _, _, rfl, HRI.out, ProgR.none _, EvIs.err ad _ Hc0.out Hc11.out, HX10.out⟩
      | false =>
        have HS := hid (scut_any s nlB wr ad (HEM.out.ext HR.out.2) (by omega))
        obtain ⟨l, r, is, hc⟩ : ∃ l r is, cutB s nlB = (l, r, is) := ⟨_, _, _, rfl⟩
        rw [hc] at HS
        unfold nlB at HS
        simp only at HS
        cases is with
        | false =>
          have HL := hid (HI.out.1.trans (linesR_no (Nat.lt_of_le_of_lt (Nat.zero_le _) HI.out.2.1) hs0 (by rw [hc])))
          have hRx := HR.out.2
          have HRI := hid (show ReadIs s0 PP.none 1 (i : Int) from .inr (.inl ⟨Hsz.out, by rw [HL.out]; exact Nat.one_ne_zero, rfl, by rw [HL.out], by rw [HL.out]⟩))
          clear hc
          go_wp2_with fail
          refine HS.out.mono ?_
          rintro e w2 ⟨rfl, hx2⟩
          have HXQ := hid (hRx.trans hx2)
          have g1 := (HEM.out.ext HXQ.out).er.at1
          unfold evOf at g1
          clear HS hx2 hRx
          obtain ⟨W2, hW2⟩ : ∃ W2, W2 = w2.alloc (.cells #[.int .i64 (i : Int), .iface 130 (.pointer (some (ad 1)))] 52) := ⟨_, rfl⟩
          have hx2 : Ext w2 W2 := by rw [hW2]; exact (Ext.refl _).alloc _
          have HB2 : Hid (Blk W2 w2.heap.size #[.int .i64 (i : Int), .iface 130 (.pointer (some (ad 1)))] 52) := hid (by rw [hW2]; exact Blk.new _ _ _)
          have HT2 : Hid (Blk W2 w.heap.size #[.slice none 0 0, .slice none 0 0, .slice none 0 0] 26) := hid (HBt.out.ext (HXQ.out.trans hx2))
          obtain ⟨W10, hW10⟩ : ∃ W10, W10 = (((W2.setCell ⟨w.heap.size, 0, none⟩ (.slice none 0 0)).setCell ⟨w.heap.size, 1, none⟩ (.slice none 0 0)).setCell ⟨w.heap.size, 2, none⟩ (.slice none 0 0)) := ⟨_, rfl⟩
          have HT10 : Hid (Blk W10 w.heap.size #[.slice none 0 0, .slice none 0 0, .slice none 0 0] 26) := hid (by rw [hW10]; exact store3 HT2.out)
          have hK10 : Keep (fun q => q = w.heap.size) W2 W10 := by rw [hW10]; exact store3_keep _ _ _ _ _
          have HB10 : Hid (Blk W10 w2.heap.size #[.int .i64 (i : Int), .iface 130 (.pointer (some (ad 1)))] 52) := hid (HB2.out.keep hK10 fun e => by
            have h1 := HBt.out.lt
            have h2 := HXQ.out.size
            omega)
          have HX10 : Hid (Ext w W10) := hid (Keep.new ((HxW.out.trans HXQ.out).trans hx2) hK10 fun q hq => Nat.le_of_eq hq.symm)
          have z0 := HT2.out.av 0 rfl
          have z1 := HT2.out.av 1 rfl
          have z2 := HT2.out.av 2 rfl
          have f0 := HT2.out.free 0
          have f1 := HT2.out.free 1
          have f2 := HT2.out.free 2
          simp only [qA0, qA1, qA2] at z0 z1 z2
          rw [hW2] at z0 z1 z2 f0 f1 f2
          have HW2 := hid hW2
          have HW10 := hid hW10
          clear hW2 hW10 hx2 hK10
          go_wp2
          rw [← HW2.out, ← HW10.out]
          have c0 := HT10.out.av 0 rfl
          have c1 := HT10.out.av 1 rfl
          have c2 := HT10.out.av 2 rfl
          exact bodyPost_ret (v := .tuple #[pval none none none 0 0 0 PP.none, .iface 50 (.pointer (some ⟨w2.heap.size, 0, none⟩))]) (by simp [results, pval, PP.none, Tryd.results9, go_sem, c0, c1, c2]) rfl ⟨_, _, _, _, _, _, _, _, _, _, rfl, HRI.out, ProgR.none _, EvIs.at ad _ (by decide) (by decide) HB10.out, HX10.out⟩
        | true =>
          have hsum := cutB_sum (s := s) (sep := nlB) (by rw [hc])
          rw [hc] at hsum
          have hsum : l.size + 1 + r.size = s.size := hsum
          obtain ⟨m, rfl⟩ : ∃ m, n = m + 1 := ⟨n - 1, by have := HI.out.2.1; omega⟩
          have hff : P.funs.length ≤ 1000 := by have := HI.out.2.2.2.f; omega
          have HLn := fun w1 (hx : Ext wr w1) => hid (rdrline_any l (by omega) W w1 (w.heap.size + 1) P pt HI.out.2.2.1 ad HEM.out ⟨(let ⟨a1, a2, a3, a4, a5, h⟩ := HR.out.1; ⟨a1, a2, a3, a4, a5, h.ext hx⟩), HR.out.2.trans hx⟩ HI.out.2.2.2.few hff)
          have Hsum := hid hsum
          have Hs0 := hid hs0
          have Hc := hid hc
          have His := hid his
          have hRx := HR.out.2
          have g1 : ∀ w1, Ext wr w1 → w1.cell? ⟨4, 0, none⟩ = some (evOf ad 1) := fun w1 hx => (HEM.out.ext (hRx.trans hx)).er.at1
          clear hsum hc hff his
          go_wp2_with fail
          refine HS.out.mono ?_
          rintro e w2 ⟨rfl, hx2⟩
          have HL2 := HLn w2 hx2
          have g2 := g1 w2 hx2
          unfold evOf at g2
          clear HS hx2 HLn g1 hRx HR
          go_wp2_with fail
          refine HL2.out.mono ?_
          rintro e w3 ⟨rfl, ho⟩
          have Ho := hid ho
          clear HL2 ho g2
          by_cases hc0 : (P.lineR pt l).2 = 0
          · rw [errv_no hc0]
            have Hc0 := hid hc0
            have hi4 : (i : Int) ≤ 4000 := by have := His.out; omega
            clear hc0
            go_wp2
            go_roundw
            case rel => exact ⟨m, i + 1, lineP l, (P.lineR pt l).1, r, rfl, by go_num, hid ⟨HI.out.1.trans (linesR_step Hs0.out Hc.out Hc0.out), by have := HI.out.2.1; have := Hsum.out; omega, lineP_le l, LinesI.step (by rw [Hsum.out]; exact HI.out.2.2.2) Hc0.out⟩, by have := Hsum.out; have := His.out; omega, Ho.out.2 Hc0.out⟩
            case measure => simp only [strLen]; have := Hsum.out; omega
          · rw [errv_yes hc0]
            have HL := hid (HI.out.1.trans (linesR_bad (Nat.succ_pos _) Hs0.out Hc.out hc0))
            obtain ⟨c, hcc⟩ : ∃ c, c = (P.lineR pt l).2 := ⟨_, rfl⟩
            rw [← hcc] at hc0 ⊢
            have hc11 : c ≤ 11 := by
              rcases lineR_may P pt l with (h1 | h1) | ⟨h1, _⟩ <;> omega
            have HRI := hid (show ReadIs s0 PP.none c (i : Int) from .inr (.inl ⟨Hsz.out, by rw [HL.out]; simp only; rw [← hcc]; exact hc0, rfl, by rw [HL.out, hcc], by rw [HL.out]⟩))
            have Hc0 := hid hc0
            have Hc11 := hid hc11
            clear hc0 hcc hc11
            obtain ⟨W2, hW2⟩ : ∃ W2, W2 = w3.alloc (.cells #[.int .i64 (i : Int), .iface 130 (.pointer (some (ad c)))] 52) := ⟨_, rfl⟩
            have hx2 : Ext w3 W2 := by rw [hW2]; exact (Ext.refl _).alloc _
            have HB2 : Hid (Blk W2 w3.heap.size #[.int .i64 (i : Int), .iface 130 (.pointer (some (ad c)))] 52) := hid (by rw [hW2]; exact Blk.new _ _ _)
            have HT2 : Hid (Blk W2 w.heap.size #[.slice none 0 0, .slice none 0 0, .slice none 0 0] 26) := hid (HBt.out.ext (Ho.out.1.trans hx2))
            obtain ⟨W10, hW10⟩ : ∃ W10, W10 = (((W2.setCell ⟨w.heap.size, 0, none⟩ (.slice none 0 0)).setCell ⟨w.heap.size, 1, none⟩ (.slice none 0 0)).setCell ⟨w.heap.size, 2, none⟩ (.slice none 0 0)) := ⟨_, rfl⟩
            have HT10 : Hid (Blk W10 w.heap.size #[.slice none 0 0, .slice none 0 0, .slice none 0 0] 26) := hid (by rw [hW10]; exact store3 HT2.out)
            have hK10 : Keep (fun q => q = w.heap.size) W2 W10 := by rw [hW10]; exact store3_keep _ _ _ _ _
            have HB10 : Hid (Blk W10 w3.heap.size #[.int .i64 (i : Int), .iface 130 (.pointer (some (ad c)))] 52) := hid (HB2.out.keep hK10 fun e => by
              have h1 := HBt.out.lt
              have h2 := Ho.out.1.size
              omega)
            have HX10 : Hid (Ext w W10) := hid (Keep.new ((HxW.out.trans Ho.out.1).trans hx2) hK10 fun q hq => Nat.le_of_eq hq.symm)
            have z0 := HT2.out.av 0 rfl
            have z1 := HT2.out.av 1 rfl
            have z2 := HT2.out.av 2 rfl
            have f0 := HT2.out.free 0
            have f1 := HT2.out.free 1
            have f2 := HT2.out.free 2
            simp only [qA0, qA1, qA2] at z0 z1 z2
            rw [hW2] at z0 z1 z2 f0 f1 f2
            have HW2 := hid hW2
            have HW10 := hid hW10
            clear hW2 hW10 hx2 hK10
            go_wp2
            rw [← HW2.out, ← HW10.out]
            have c0 := HT10.out.av 0 rfl
            have c1 := HT10.out.av 1 rfl
            have c2 := HT10.out.av 2 rfl
            exact bodyPost_ret (v := .tuple #[pval none none none 0 0 0 PP.none, .iface 50 (.pointer (some ⟨w3.heap.size, 0, none⟩))]) (by simp [results, pval, PP.none, Tryd.results9, go_sem, c0, c1, c2]) rfl ⟨_, _, _, _, _, _, _, _, _, _, rfl, HRI.out, ProgR.none _, EvIs.at ad _ Hc0.out Hc11.out HB10.out, HX10.out⟩
end Go.Proofs.YtamblahkckaaaaaDoor
