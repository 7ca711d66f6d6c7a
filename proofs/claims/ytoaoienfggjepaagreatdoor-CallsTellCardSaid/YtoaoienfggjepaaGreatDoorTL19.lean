/- Texts of one proof, put together: Z5 X1 ZB X5 X3 X6 T3 T4 T2 T5. -/
import Derived.Test.YtoaoienfggjepaaGreatDoorTL04
import Derived.Test.YtoaoienfggjepaaGreatDoorTL06
import Derived.Test.YtoaoienfggjepaaGreatDoorTL07
import Derived.Test.YtoaoienfggjepaaGreatDoorTL08
import Derived.Test.YtoaoienfggjepaaGreatDoorTL10
import Derived.Test.YtoaoienfggjepaaGreatDoorTL11
import Derived.Test.YtoaoienfggjepaaGreatDoorTL15
import Derived.Test.YtoaoienfggjepaaGreatDoorTL16
import Derived.Test.YtoaoienfggjepaaGreatDoorTL18

/- ConsOrder: the law walked. -/
namespace Go.Proofs.YtoaoienfggjepaaGreatDoor
set_option linter.unusedSimpArgs false
set_option linter.unusedVariables false
open Go Go.RowKit

theorem StmtsR.own2 {w : World} {base : Nat} {v : Value} {ss : List S2} {l : List PS} (h : w.ownsRow base 48 4 v ss.length (ss.flatMap S2.cells)) (hl : ss.map S2.s = l) (hn : ∀ x ∈ ss, IntsR w w.heap.size x.v x.s.args) : StmtsR w w.heap.size v l := by
  have hll : l.length = ss.length := by rw [← hl, List.length_map]
  unfold StmtsR
  rw [hll]
  refine ElR.own h (Nat.le_refl _) fun g hc i hi f hf => ?_
  rw [← hl, List.getElem?_map] at hf
  obtain ⟨x, hx, rfl⟩ := Option.map_eq_some_iff.1 hf
  have c : ∀ j u, x.cells[j]? = some u → j < 4 → w.cell? (((⟨g, 0, none⟩ : Addr).add (i * 4)).add j) = some u := fun j u hu hj => by
    rw [add_add]
    exact hc _ _ ((fm_get S2.cells 4 S2.cells_len ss i j x hx hj).trans hu)
  exact ⟨x.v, by simpa [Addr.add] using c 0 _ rfl (by omega), c 1 _ rfl (by omega), c 2 _ rfl (by omega), c 3 _ rfl (by omega), hn x (List.mem_of_getElem? hx)⟩
end Go.Proofs.YtoaoienfggjepaaGreatDoor



/- FixClosed: the law walked. -/
namespace Go.Proofs.YtoaoienfggjepaaGreatDoor
set_option linter.unusedSimpArgs false
set_option linter.unusedVariables false
open Go Go.RowKit

end Go.Proofs.YtoaoienfggjepaaGreatDoor



/- CallsAlias: the law walked. -/
namespace Go.Proofs.YtoaoienfggjepaaGreatDoor
set_option linter.unusedSimpArgs false
set_option linter.unusedVariables false
open Go Go.RowKit

end Go.Proofs.YtoaoienfggjepaaGreatDoor



/- The reference's round, plainly: bags that are filled, and made sets at the end. -/
namespace Go.Proofs.YtoaoienfggjepaaGreatDoor
set_option linter.unusedSimpArgs false
set_option linter.unusedVariables false
open Go Go.RowKit

/-- How many of the first edges lead to a node. -/
def cntE (EL : List (Int × Int)) (m n : Nat) : Nat := ((EL.take m).filter fun e => decide (e.2 = (n : Int))).length
theorem cntE_zero (EL : List (Int × Int)) (n : Nat) : cntE EL 0 n = 0 := rfl
theorem cntE_succ {EL : List (Int × Int)} {m n : Nat} {e : Int × Int} (he : EL[m]? = some e) : cntE EL (m + 1) n = cntE EL m n + if e.2 = (n : Int) then 1 else 0 := by
  unfold cntE
  rw [List.take_add_one, he, List.filter_append, List.length_append]
  congr 1
  show (List.filter _ [e]).length = _
  rw [List.filter_cons]
  by_cases h : e.2 = (n : Int)
  · rw [if_pos (decide_eq_true h), if_pos h]; rfl
  · rw [if_neg (by simpa using h), if_neg h]; rfl
theorem srt_below : ∀ {l : List Int} {lo hi : Int}, Srt l → (∀ x ∈ l, lo ≤ x ∧ x < hi) → l.length ≤ (hi - lo).toNat
  | [], _, _, _, _ => Nat.zero_le _
  | a :: t, lo, hi, hs, hb => by
    have h1 := List.pairwise_cons.1 hs
    have h2 := srt_below (lo := a + 1) (hi := hi) h1.2 fun x hx => ⟨by have := h1.1 x hx; omega, (hb x (List.mem_cons_of_mem _ hx)).2⟩
    have h3 := hb a (List.mem_cons_self ..)
    rw [List.length_cons]
    omega
/-- Of one node, their first parts stand in order. -/
theorem cntE_few {EL : List (Int × Int)} {N : Nat} (hs : SrtP EL) (hin : ∀ e ∈ EL, 0 ≤ e.1 ∧ e.1 < (N : Int)) (m n : Nat) : cntE EL m n ≤ N := by
  unfold cntE
  rw [← List.length_map (f := Prod.fst)]
  have h := srt_below (l := ((EL.take m).filter fun e => decide (e.2 = (n : Int))).map Prod.fst) (lo := 0) (hi := (N : Int)) ?_ fun x hx => ?_
  · simpa using h
  · refine List.pairwise_map.2 ?_
    have h1 : SrtP ((EL.take m).filter fun e => decide (e.2 = (n : Int))) := (hs.sublist (List.take_sublist m EL)).sublist List.filter_sublist
    refine h1.imp_of_mem fun {a b} ha hb hab => ?_
    have e1 : a.2 = (n : Int) := by simpa using (List.mem_filter.1 ha).2
    have e2 : b.2 = (n : Int) := by simpa using (List.mem_filter.1 hb).2
    unfold lexLt at hab
    omega
  · obtain ⟨e, he, rfl⟩ := List.mem_map.1 hx
    exact hin e (List.mem_of_mem_take (List.mem_filter.1 he).1)
/-- Where the reference's round stands. -/
structure BagAt (P : PP) (has : List (List Int)) (EL : List (Int × Int)) (k m : Nat) (B : List (List Int)) : Prop where
  set : ∃ S, RoundAt P has EL k m S ∧ B.length = S.length ∧ ∀ n x, x ∈ B.getD n [] ↔ x ∈ S.getD n []
  few : ∀ n, (B.getD n []).length ≤ 1000 + k + 1000 * cntE EL m n
theorem BagAt.len {P : PP} {has : List (List Int)} {EL : List (Int × Int)} {k m : Nat} {B : List (List Int)} (h : BagAt P has EL k m B) : B.length = has.length := by
  obtain ⟨S, h1, h2, _⟩ := h.set
  exact h2.trans h1.len
theorem BagAt.start {P : PP} {has : List (List Int)} (hg : P.GoodS has) (EL : List (Int × Int)) : BagAt P has EL 0 0 has :=
  ⟨⟨has, RoundAt.start hg EL, rfl, fun _ _ => Iff.rfl⟩, fun n => by
    by_cases hn : n < has.length
    · have := srt_few (hg.ok.ok _ (getD_mem hn)).1
      omega
    · rw [List.getD_eq_getElem?_getD, List.getElem?_eq_none (by omega)]
      show (0 : Nat) ≤ _
      omega⟩
theorem BagAt.skip {P : PP} {has : List (List Int)} {EL : List (Int × Int)} {k : Nat} {B : List (List Int)} (h : BagAt P has EL k 0 B) (hb : (P.ruleV k (P.stAt k)).kind.toList ≠ bBase.toList) : BagAt P has EL (k + 1) 0 B := by
  obtain ⟨S, h1, h2, h3⟩ := h.set
  exact ⟨⟨S, h1.skip hb, h2, h3⟩, fun n => by have := h.few n; omega⟩
theorem BagAt.base {P : PP} {has : List (List Int)} {EL : List (Int × Int)} {k : Nat} {B : List (List Int)} (h : BagAt P has EL k 0 B) (hb : (P.ruleV k (P.stAt k)).kind.toList = bBase.toList) {a : Nat} {b : Int} (ha : (P.ruleV k (P.stAt k)).a = (a : Int)) (hbb : (P.ruleV k (P.stAt k)).b = b) (hb1 : 0 ≤ b ∧ b < 1000) (hal : a < has.length) :
    BagAt P has EL (k + 1) 0 (B.set a (B.getD a [] ++ [b])) := by
  obtain ⟨S, h1, h2, h3⟩ := h.set
  have hS : a < S.length := by rw [h1.len]; exact hal
  have hB : a < B.length := by rw [h2]; exact hS
  have hin : InR (S.getD a [] ++ [b]) := (chkE_zero.1 (h1.ok _ (getD_mem hS))).1.app fun x hx => by obtain rfl := List.mem_singleton.1 hx; exact hb1
  refine ⟨⟨_, h1.base hb ha hbb hb1 hal, by rw [List.length_set, List.length_set, h2], fun n x => ?_⟩, fun n => ?_⟩
  · rw [set_getD hB, set_getD hS]
    by_cases han : a = n
    · rw [if_pos han, if_pos han, mem_sset hin, List.mem_append, List.mem_append, h3]
    · rw [if_neg han, if_neg han, h3]
  · rw [set_getD hB]
    have := h.few n
    by_cases han : a = n
    · subst han
      rw [if_pos rfl, List.length_append, List.length_singleton]
      omega
    · rw [if_neg han]
      omega
theorem BagAt.edge {P : PP} {has : List (List Int)} {EL : List (Int × Int)} {k m : Nat} {B : List (List Int)} (h : BagAt P has EL k m B) {a b : Nat} (he : EL[m]? = some ((a : Int), (b : Int))) (hok : ∀ l ∈ has, chkE l = 0) (hal : a < has.length) (hbl : b < has.length) :
    BagAt P has EL k (m + 1) (B.set b (B.getD b [] ++ has.getD a [])) := by
  obtain ⟨S, h1, h2, h3⟩ := h.set
  have hS : b < S.length := by rw [h1.len]; exact hbl
  have hB : b < B.length := by rw [h2]; exact hS
  have hin : InR (S.getD b [] ++ has.getD a []) := (chkE_zero.1 (h1.ok _ (getD_mem hS))).1.app (chkE_zero.1 (hok _ (getD_mem hal))).1
  refine ⟨⟨_, h1.edge he hok hal hbl, by rw [List.length_set, List.length_set, h2], fun n x => ?_⟩, fun n => ?_⟩
  · rw [set_getD hB, set_getD hS]
    by_cases han : b = n
    · rw [if_pos han, if_pos han, mem_sset hin, List.mem_append, List.mem_append, h3]
    · rw [if_neg han, if_neg han, h3]
  · rw [set_getD hB, cntE_succ he]
    have h4 := h.few n
    have h5 := srt_few (hok _ (getD_mem hal))
    by_cases han : b = n
    · subst han
      rw [if_pos rfl, if_pos rfl, List.length_append]
      omega
    · rw [if_neg han, if_neg (fun e => han (Int.ofNat_inj.1 e))]
      omega
/-- At the end, the sets of the bags are the round. -/
theorem BagAt.done {P : PP} {has : List (List Int)} (hg : P.GoodS has) {B : List (List Int)} (h : BagAt P has (P.edgesL has) P.stmts.length (P.edgesL has).length B) : B.map sset = P.roundV has := by
  obtain ⟨S, h1, h2, h3⟩ := h.set
  obtain rfl := h1.uniq (roundV_at hg)
  refine List.ext_getElem? fun n => ?_
  rw [List.getElem?_map]
  by_cases hn : n < B.length
  · have hs : n < (P.roundV has).length := by rw [← h2]; exact hn
    have ht := chkE_zero.1 (h1.ok _ (getD_mem hs))
    have e : sset (B.getD n []) = (P.roundV has).getD n [] := srt_uniq (sset_srt _) ht.2 fun x => (mem_sset (fun x hx => ht.1 x ((h3 n x).1 hx))).trans (h3 n x)
    rw [List.getD_eq_getElem?_getD, List.getD_eq_getElem?_getD, List.getElem?_eq_getElem hn, List.getElem?_eq_getElem hs] at e
    rw [List.getElem?_eq_getElem hn, List.getElem?_eq_getElem hs]
    exact congrArg some e
  · rw [List.getElem?_eq_none (by omega), List.getElem?_eq_none (by rw [← h2]; omega)]
    rfl
end Go.Proofs.YtoaoienfggjepaaGreatDoor



/- A program that was copied: its rows are one's own. -/
namespace Go.Proofs.YtoaoienfggjepaaGreatDoor
set_option linter.unusedSimpArgs false
set_option linter.unusedVariables false
open Go Go.RowKit

/-- A program in rows of one's own. -/
structure OwnR (w : World) (n1 : Nat) (vv fv sv : Value) (P : PP) (fs : List F2) (ss : List S2) : Prop where
  vars : w.ownsRow 0 9 1 vv P.vars.length (P.vars.map .string)
  funs : w.ownsRow n1 100 3 fv P.funs.length (fs.flatMap F2.cells)
  stmts : w.ownsRow n1 48 4 sv P.stmts.length (ss.flatMap S2.cells)
  fm : fs.map F2.f = P.funs
  sm : ss.map S2.s = P.stmts
  fi : ∀ x ∈ fs, IntsT w x.v x.f.params
  si : ∀ x ∈ ss, IntsT w x.v x.s.args
theorem OwnR.ext {w w' : World} {n1 : Nat} {vv fv sv : Value} {P : PP} {fs : List F2} {ss : List S2} (h : OwnR w n1 vv fv sv P fs ss) (x : Ext w w') : OwnR w' n1 vv fv sv P fs ss :=
  ⟨own_ext h.vars x, own_ext h.funs x, own_ext h.stmts x, h.fm, h.sm, fun y hy => (h.fi y hy).ext x, fun y hy => (h.si y hy).ext x⟩
theorem OwnR.prog {w : World} {n1 : Nat} {vv fv sv : Value} {P : PP} {fs : List F2} {ss : List S2} (h : OwnR w n1 vv fv sv P fs ss) : ProgR w w.heap.size vv fv sv P := by
  have hfl : fs.length = P.funs.length := by rw [← h.fm, List.length_map]
  have hsl : ss.length = P.stmts.length := by rw [← h.sm, List.length_map]
  exact ⟨StrsR.own h.vars (Nat.le_refl _), FunsR.own (by rw [hfl]; exact h.funs) h.fm h.fi, StmtsR.own (by rw [hsl]; exact h.stmts) h.sm h.si⟩
/-- One statement more, its numbers wherever. -/
theorem OwnR.more {w w' : World} {n1 : Nat} {vv fv sv sv' : Value} {P : PP} {fs : List F2} {ss : List S2} (h : OwnR w n1 vv fv sv P fs ss) (x : S2) (hx : IntsR w' w'.heap.size x.v x.s.args)
    (ho : w'.ownsRow n1 48 4 sv' (P.stmts.length + 1) (ss.flatMap S2.cells ++ S2.cells x)) {X : Nat → Prop} (k : Keep X w w') (hX : ∀ q, X q → ∃ c t, Blk w q c t ∧ t ≠ 9 ∧ t ≠ 100 ∧ t ≠ 3) :
    ProgR w' w'.heap.size vv fv sv' ⟨P.vars, P.funs, P.stmts ++ [x.s]⟩ := by
  have hfl : fs.length = P.funs.length := by rw [← h.fm, List.length_map]
  have hsl : ss.length = P.stmts.length := by rw [← h.sm, List.length_map]
  have hni : ∀ b, X b → ¬ IsInt w b := fun b e => by
    obtain ⟨c, t, hc, _, _, h3⟩ := hX b e
    exact notInt hc h3
  have hrk : ∀ {base : Nat} {e : TypeId} {size : Nat} {v : Value} {n : Nat} {xs : List Value}, w.ownsRow base e size v n xs → (e = 9 ∨ e = 100) → w'.ownsRow base e size v n xs := fun hr hne => row_keep hr k fun i hi e => by
    obtain ⟨c, hc⟩ := own_ty hr hi
    obtain ⟨c', t, hc', h1, h2, _⟩ := hX i e
    refine Blk.ty_ne hc hc' (fun e => ?_) rfl
    rcases hne with h | h
    · exact h1 (e.symm.trans h)
    · exact h2 (e.symm.trans h)
  refine ⟨StrsR.own (hrk h.vars (.inl rfl)) (Nat.le_refl _), FunsR.own (by rw [hfl]; exact hrk h.funs (.inr rfl)) h.fm fun x hx => (h.fi x hx).keep k hni, ?_⟩
  refine StmtsR.own2 (base := n1) (ss := ss ++ [x]) ?_ ?_ ?_
  · rw [List.flatMap_append, List.length_append, List.length_singleton, hsl]
    simpa using ho
  · rw [List.map_append, h.sm]; rfl
  · intro y hy
    rcases List.mem_append.1 hy with hy | hy
    · exact ((h.si y hy).keep k hni).1
    · obtain rfl := List.mem_singleton.1 hy
      exact hx
end Go.Proofs.YtoaoienfggjepaaGreatDoor



/- Bags in memory: rows of numbers of one's own, their blocks apart. -/
namespace Go.Proofs.YtoaoienfggjepaaGreatDoor
set_option linter.unusedSimpArgs false
set_option linter.unusedVariables false
open Go Go.RowKit

/-- Rows of one's own, each in a block of its own. -/
structure Bags (w : World) (base : Nat) (vs : List Value) (B : List (List Int)) : Prop where
  len : vs.length = B.length
  row : ∀ (i : Nat) v l, vs[i]? = some v → B[i]? = some l → IRow base w v l
  apart : ∀ (i j : Nat) v u b, i ≠ j → vs[i]? = some v → vs[j]? = some u → v.ownBlock = some b → ¬ u.ownBlock = some b
theorem Bags.nil (w : World) (base : Nat) : Bags w base [] [] := ⟨rfl, fun _ _ _ h => by simp at h, fun _ _ _ _ _ _ h => by simp at h⟩
theorem Bags.made {w : World} {base : Nat} {vs : List Value} {B : List (List Int)} (h : Bags w base vs B) : Made w vs B := ⟨h.len, fun i v l h1 h2 => IntsT.of_row (h.row i v l h1 h2)⟩
/-- Other blocks than of numbers are written. -/
theorem Bags.keep {X : Nat → Prop} {w w' : World} {base : Nat} {vs : List Value} {B : List (List Int)} (h : Bags w base vs B) (k : Keep X w w') (hX : ∀ b, X b → ¬ IsInt w b) : Bags w' base vs B :=
  ⟨h.len, fun i v l h1 h2 => row_keep (h.row i v l h1 h2) k fun b hb hx => hX b hx (by
    obtain ⟨c, hc⟩ := own_ty (h.row i v l h1 h2) hb
    exact ⟨c, _, hc⟩), h.apart⟩
theorem Bags.ext {w w' : World} {base : Nat} {vs : List Value} {B : List (List Int)} (h : Bags w base vs B) (x : Ext w w') : Bags w' base vs B := h.keep (x.keep fun _ => False) fun _ h => h.elim
/-- One bag more at the end, in a new block. -/
theorem Bags.push {w w' : World} {base : Nat} {vs : List Value} {B : List (List Int)} (h : Bags w base vs B) (x : Ext w w') {v : Value} {l : List Int} (hr : IRow base w' v l) (hn : ∀ b, v.ownBlock = some b → w.heap.size ≤ b) : Bags w' base (vs ++ [v]) (B ++ [l]) := by
  have hlt : ∀ (i : Nat) u b, vs[i]? = some u → u.ownBlock = some b → b < w.heap.size := fun i u b hu hb => by
    have hi : i < vs.length := by
      rcases Nat.lt_or_ge i vs.length with g | g
      · exact g
      · rw [List.getElem?_eq_none g] at hu; cases hu
    obtain ⟨m, hm⟩ : ∃ m, B[i]? = some m := ⟨_, List.getElem?_eq_getElem (by rw [← h.len]; exact hi)⟩
    exact (World.ownsRow.lt (h.row i u m hu hm) b hb).2
  have hat : ∀ (i : Nat) u, (vs ++ [v])[i]? = some u → (i < vs.length ∧ vs[i]? = some u) ∨ (i = vs.length ∧ u = v) := fun i u hu => by
    rcases Nat.lt_trichotomy i vs.length with g | g | g
    · rw [List.getElem?_append_left g] at hu
      exact .inl ⟨g, hu⟩
    · subst g
      rw [List.getElem?_concat_length] at hu
      exact .inr ⟨rfl, (Option.some.inj hu).symm⟩
    · rw [List.getElem?_eq_none (by rw [List.length_append, List.length_singleton]; omega)] at hu
      cases hu
  refine ⟨by rw [List.length_append, List.length_append, h.len]; rfl, fun i u m hu hm => ?_, fun i j u z b hij hu hz hb hz' => ?_⟩
  · rcases hat i u hu with ⟨hi, hu'⟩ | ⟨rfl, rfl⟩
    · rw [List.getElem?_append_left (by rw [← h.len]; exact hi)] at hm
      exact (h.ext x).row i u m hu' hm
    · rw [h.len, List.getElem?_concat_length] at hm
      obtain rfl := Option.some.inj hm
      exact hr
  · rcases hat i u hu with ⟨hi, hu'⟩ | ⟨hi, rfl⟩ <;> rcases hat j z hz with ⟨hj, hz''⟩ | ⟨hj, rfl⟩
    · exact h.apart i j u z b hij hu' hz'' hb hz'
    · have := hlt i u b hu' hb
      have := hn b hz'
      omega
    · have := hlt j z b hz'' hz'
      have := hn b hb
      omega
    · omega
/-- One bag is appended to. -/
theorem Bags.app {w w' : World} {base i : Nat} {vs : List Value} {B : List (List Int)} (h : Bags w base vs B) (hi : i < vs.length) {v v' : Value} {l' : List Int} (hv : vs[i]? = some v) (hr : IRow base w' v' l') (k : Keep (fun q => v.ownBlock = some q) w w') (hb : ∀ b, v'.ownBlock = some b → v.ownBlock = some b ∨ w.heap.size ≤ b) :
    Bags w' base (vs.set i v') (B.set i l') := by
  have hlt : ∀ (j : Nat) u b, vs[j]? = some u → u.ownBlock = some b → b < w.heap.size := fun j u b hu hb => by
    have hj : j < vs.length := by
      rcases Nat.lt_or_ge j vs.length with g | g
      · exact g
      · rw [List.getElem?_eq_none g] at hu; cases hu
    obtain ⟨m, hm⟩ : ∃ m, B[j]? = some m := ⟨_, List.getElem?_eq_getElem (by rw [← h.len]; exact hj)⟩
    exact (World.ownsRow.lt (h.row j u m hu hm) b hb).2
  have hoff : ∀ (j : Nat) u b, j ≠ i → vs[j]? = some u → v'.ownBlock = some b → ¬ u.ownBlock = some b := fun j u b hj hu hb' hu' => by
    rcases hb b hb' with g | g
    · exact h.apart i j v u b (fun e => hj e.symm) hv hu g hu'
    · have := hlt j u b hu hu'
      omega
  refine ⟨by rw [List.length_set, List.length_set, h.len], fun j u m hu hm => ?_, fun p q u z b hpq hu hz hb' hz' => ?_⟩
  · by_cases hj : i = j
    · subst hj
      rw [List.getElem?_set_self hi] at hu
      rw [List.getElem?_set_self (by rw [← h.len]; exact hi)] at hm
      obtain rfl := Option.some.inj hu
      obtain rfl := Option.some.inj hm
      exact hr
    · rw [List.getElem?_set_ne hj] at hu hm
      exact row_keep (h.row j u m hu hm) k fun b hb1 hb2 => h.apart i j v u b hj hv hu hb2 hb1
  · by_cases hp : i = p
    · subst hp
      rw [List.getElem?_set_self hi] at hu
      obtain rfl := Option.some.inj hu
      rw [List.getElem?_set_ne hpq] at hz
      exact hoff q z b (fun e => hpq e.symm) hz hb' hz'
    · rw [List.getElem?_set_ne hp] at hu
      by_cases hq : i = q
      · subst hq
        rw [List.getElem?_set_self hi] at hz
        obtain rfl := Option.some.inj hz
        exact hoff p u b hpq hu hz' hb'
      · rw [List.getElem?_set_ne hq] at hz
        exact h.apart p q u z b hpq hu hz hb' hz'
end Go.Proofs.YtoaoienfggjepaaGreatDoor



/- The reference: does a rule make an edge (IsEdge): copies, loads, stores. -/
namespace Go.Proofs.YtoaoienfggjepaaGreatDoor
set_option linter.unusedSimpArgs false
set_option linter.unusedVariables false
open Go Go.RowKit

set_option maxRecDepth 100000 in
set_option maxHeartbeats 3200000 in
theorem risedge_copy (a1 a2 a3 : Option Addr) (c1 c2 c3 : Nat) (P : PP) (r : RV) (av hv : Value) (has : List (List Int)) (p q : Int) (w : World) (n0 : Nat) (h : ProgR w n0 (.slice a1 P.vars.length c1) (.slice a2 P.funs.length c2) (.slice a3 P.stmts.length c3) P) (hf1 : P.vars.length ≤ 1000) (hf3 : P.stmts.length ≤ 1000) (ha : IntsR w n0 av r.args) (hh : SetsR w n0 hv has) (hkd : (r.kind.toList == [99, 111, 112, 121]) = true) :
    Calls Tryz.prog 129 #[pval a1 a2 a3 c1 c2 c3 P, r.val av, hv, .int .i64 p, .int .i64 q] w fun e w' => e = .returned (.bool (P.isE r has p q)) ∧ Ext w w' := by
  obtain ⟨aa, ca, rfl, _⟩ := id ha
  obtain ⟨ah, ch, rfl⟩ := hh.form
  have hhl := hh.len
  have hal := ha.len
  obtain ⟨W1, hW1⟩ : ∃ W1, W1 = w.alloc (.cells (pcells a1 a2 a3 c1 c2 c3 P) 39) := ⟨_, rfl⟩
  have hx1 : Ext w W1 := by rw [hW1]; exact (Ext.refl _).alloc _
  obtain ⟨W, hW⟩ : ∃ W, W = W1.alloc (.cells #[.string r.kind, .int .i64 r.a, .int .i64 r.b, .int .i64 r.k, .slice aa r.args.length ca] 130) := ⟨_, rfl⟩
  have hx2 : Ext W1 W := by rw [hW]; exact (Ext.refl _).alloc _
  have s1 : W1.heap.size = w.heap.size + 1 := by rw [hW1, heap_size_alloc]
  have HX := hid (hx1.trans hx2)
  have HB0 : Hid (Blk W w.heap.size (pcells a1 a2 a3 c1 c2 c3 P) 39) := hid (by
    have : Blk W1 w.heap.size (pcells a1 a2 a3 c1 c2 c3 P) 39 := by rw [hW1]; exact Blk.new _ _ _
    exact this.ext hx2)
  have HB1 : Hid (Blk W (w.heap.size + 1) #[.string r.kind, .int .i64 r.a, .int .i64 r.b, .int .i64 r.k, .slice aa r.args.length ca] 130) := hid (by rw [← s1, hW]; exact Blk.new _ _ _)
  have HWe : Hid (W = (w.alloc (.cells #[.slice a1 P.vars.length c1, .slice a2 P.funs.length c2, .slice a3 P.stmts.length c3] 39)).alloc (.cells #[.string r.kind, .int .i64 r.a, .int .i64 r.b, .int .i64 r.k, .slice aa r.args.length ca] 130)) := hid (by rw [hW, hW1]; rfl)
  have HP := hid (h.ext HX.out)
  have HH := hid (hh.ext HX.out)
  have HA := hid (ha.old (HX.out.old n0))
  have hnl := P.nodesV_le2
  have HNo := hid (rnodesof_any a1 a2 a3 c1 c2 c3 P W n0 (h.ext HX.out) hf1 hf3)
  obtain ⟨N, hN⟩ : ∃ N, N = P.nodesV := ⟨_, rfl⟩
  rw [← hN] at HNo hnl
  have HN := hid hN
  have d0 := HB0.out.av 0 rfl
  have d1 := HB0.out.av 1 rfl
  have d2 := HB0.out.av 2 rfl
  simp only [pcells, List.getElem_toArray, List.getElem_cons_zero, List.getElem_cons_succ] at d0 d1 d2
  rw [HWe.out] at d0 d1 d2
  unfold RV.val
  unfold pval at HNo ⊢
  clear h ha hh hW1 hW hx1 hx2 s1 hN
  have Hr : Hid (P.isE r has p q = (decide (p = r.a) && decide (q = r.b))) := hid (by unfold PP.isE kCopy; rw [hkd]; rfl)
  obtain ⟨ra, hra⟩ : ∃ x, x = r.a := ⟨_, rfl⟩
  obtain ⟨rb, hrb⟩ : ∃ x, x = r.b := ⟨_, rfl⟩
  go_enter Tryz.func129, Tryz.ntmps129
  go_wp2_with fail
  rw [← HWe.out]
  refine HNo.out.mono ?_
  intro e w1 hx
  obtain ⟨rfl, hx1⟩ := hx
  have Hx1 := hid hx1
  have m0 := (HB1.out.ext hx1).av 0 rfl
  have m1 := (HB1.out.ext hx1).av 1 rfl
  have m2 := (HB1.out.ext hx1).av 2 rfl
  have m3 := (HB1.out.ext hx1).av 3 rfl
  have m4 := (HB1.out.ext hx1).av 4 rfl
  simp only [List.getElem_toArray, List.getElem_cons_zero, List.getElem_cons_succ] at m0 m1 m2 m3 m4
  clear HNo hx1 d0 d1 d2
  rw [← hra] at m1 Hr
  rw [← hrb] at m2 Hr
  clear hra hrb
  by_cases h1 : p = ra
  · subst h1
    by_cases h2 : q = rb
    · subst h2
      go_wp2
      go_ret
      exact ⟨by rw [Hr.out]; simp, HX.out.trans Hx1.out⟩
    · have h2' : (q == rb) = false := beq_eq_false_iff_ne.2 h2
      have Hr2 : Hid (P.isE r has p q = false) := hid (by rw [Hr.out, decide_eq_false h2, Bool.and_false])
      go_wp2
      go_ret
      exact ⟨by rw [Hr2.out]; rfl, HX.out.trans Hx1.out⟩
  · have h1' : (p == ra) = false := beq_eq_false_iff_ne.2 h1
    have Hr2 : Hid (P.isE r has p q = false) := hid (by rw [Hr.out, decide_eq_false h1, Bool.false_and])
    go_wp2
    go_ret
    exact ⟨by rw [Hr2.out]; rfl, HX.out.trans Hx1.out⟩
set_option maxRecDepth 100000 in
set_option maxHeartbeats 3200000 in
theorem risedge_load (a1 a2 a3 : Option Addr) (c1 c2 c3 : Nat) (P : PP) (r : RV) (av hv : Value) (has : List (List Int)) (p q : Int) (w : World) (n0 : Nat) (h : ProgR w n0 (.slice a1 P.vars.length c1) (.slice a2 P.funs.length c2) (.slice a3 P.stmts.length c3) P) (hf1 : P.vars.length ≤ 1000) (hf3 : P.stmts.length ≤ 1000) (ha : IntsR w n0 av r.args) (hh : SetsR w n0 hv has) (hkd : (r.kind.toList == [108, 111, 97, 100]) = true) (hidx : 0 ≤ r.a ∧ r.a < has.length) :
    Calls Tryz.prog 129 #[pval a1 a2 a3 c1 c2 c3 P, r.val av, hv, .int .i64 p, .int .i64 q] w fun e w' => e = .returned (.bool (P.isE r has p q)) ∧ Ext w w' := by
  obtain ⟨aa, ca, rfl, _⟩ := id ha
  obtain ⟨ah, ch, rfl⟩ := hh.form
  have hhl := hh.len
  have hal := ha.len
  obtain ⟨W1, hW1⟩ : ∃ W1, W1 = w.alloc (.cells (pcells a1 a2 a3 c1 c2 c3 P) 39) := ⟨_, rfl⟩
  have hx1 : Ext w W1 := by rw [hW1]; exact (Ext.refl _).alloc _
  obtain ⟨W, hW⟩ : ∃ W, W = W1.alloc (.cells #[.string r.kind, .int .i64 r.a, .int .i64 r.b, .int .i64 r.k, .slice aa r.args.length ca] 130) := ⟨_, rfl⟩
  have hx2 : Ext W1 W := by rw [hW]; exact (Ext.refl _).alloc _
  have s1 : W1.heap.size = w.heap.size + 1 := by rw [hW1, heap_size_alloc]
  have HX := hid (hx1.trans hx2)
  have HB0 : Hid (Blk W w.heap.size (pcells a1 a2 a3 c1 c2 c3 P) 39) := hid (by
    have : Blk W1 w.heap.size (pcells a1 a2 a3 c1 c2 c3 P) 39 := by rw [hW1]; exact Blk.new _ _ _
    exact this.ext hx2)
  have HB1 : Hid (Blk W (w.heap.size + 1) #[.string r.kind, .int .i64 r.a, .int .i64 r.b, .int .i64 r.k, .slice aa r.args.length ca] 130) := hid (by rw [← s1, hW]; exact Blk.new _ _ _)
  have HWe : Hid (W = (w.alloc (.cells #[.slice a1 P.vars.length c1, .slice a2 P.funs.length c2, .slice a3 P.stmts.length c3] 39)).alloc (.cells #[.string r.kind, .int .i64 r.a, .int .i64 r.b, .int .i64 r.k, .slice aa r.args.length ca] 130)) := hid (by rw [hW, hW1]; rfl)
  have HP := hid (h.ext HX.out)
  have HH := hid (hh.ext HX.out)
  have HA := hid (ha.old (HX.out.old n0))
  have hnl := P.nodesV_le2
  have HNo := hid (rnodesof_any a1 a2 a3 c1 c2 c3 P W n0 (h.ext HX.out) hf1 hf3)
  obtain ⟨N, hN⟩ : ∃ N, N = P.nodesV := ⟨_, rfl⟩
  rw [← hN] at HNo hnl
  have HN := hid hN
  have d0 := HB0.out.av 0 rfl
  have d1 := HB0.out.av 1 rfl
  have d2 := HB0.out.av 2 rfl
  simp only [pcells, List.getElem_toArray, List.getElem_cons_zero, List.getElem_cons_succ] at d0 d1 d2
  rw [HWe.out] at d0 d1 d2
  unfold RV.val
  unfold pval at HNo ⊢
  clear h ha hh hW1 hW hx1 hx2 s1 hN
  have hk0 : (r.kind.toList == [99, 111, 112, 121]) = false := by rw [eq_of_beq hkd]; rfl
  have Hr : Hid (P.isE r has p q = (decide (q = r.b) && (decide (p < (P.nodesV : Int)) && decide (p ∈ has.getD r.a.toNat [])))) := hid (by unfold PP.isE kCopy kLoad; rw [hk0, hkd]; rfl)
  obtain ⟨K, hK⟩ := Int.eq_ofNat_of_zero_le hidx.1
  have hKl : K < has.length := by omega
  obtain ⟨y, l, bl, cl, hya, hl, hc, hI⟩ := HH.out.at hKl
  subst hya
  have Hl : Hid (has.getD (r.a).toNat [] = l) := hid (by rw [hK, List.getD_eq_getElem?_getD]; show (has[K]?).getD [] = l; rw [hl]; rfl)
  have HC := fun w1 (x : Ext W w1) => hid (rhas_any (.slice bl l.length cl) l p w1 n0 (hI.old (x.old n0)))
  have Hc := hid hc
  have HK := hid hK
  clear hl hI hidx hc hK
  go_enter Tryz.func129, Tryz.ntmps129
  go_wp2_with fail
  rw [← HWe.out]
  refine HNo.out.mono ?_
  intro e w1 hx
  obtain ⟨rfl, hx1⟩ := hx
  have Hx1 := hid hx1
  have m0 := (HB1.out.ext hx1).av 0 rfl
  have m1 := (HB1.out.ext hx1).av 1 rfl
  have m2 := (HB1.out.ext hx1).av 2 rfl
  have m3 := (HB1.out.ext hx1).av 3 rfl
  have m4 := (HB1.out.ext hx1).av 4 rfl
  simp only [List.getElem_toArray, List.getElem_cons_zero, List.getElem_cons_succ] at m0 m1 m2 m3 m4
  clear HNo hx1 d0 d1 d2
  have c0 := Hx1.out.cellx Hc.out
  have HC1 := HC w1 Hx1.out
  rw [Hl.out, ← HN.out] at Hr
  obtain ⟨rb, hrb⟩ : ∃ x, x = r.b := ⟨_, rfl⟩
  rw [← hrb] at m2 Hr
  rw [HK.out] at m1
  clear hrb HC
  by_cases h1 : q = rb
  · subst h1
    by_cases h2 : p < (N : Int)
    · obtain ⟨d, hd⟩ : ∃ d, d = decide (p ∈ l) := ⟨_, rfl⟩
      rw [← hd] at HC1
      have Hr2 : Hid (P.isE r has p q = d) := hid (by rw [Hr.out, decide_eq_true rfl, decide_eq_true h2, ← hd]; rfl)
      clear hd
      go_wp2_with fail
      refine HC1.out.mono ?_
      intro e w2 hx
      obtain ⟨rfl, rfl⟩ := hx
      clear HC1
      go_wp2
      go_ret
      exact ⟨by rw [Hr2.out]; rfl, HX.out.trans Hx1.out⟩
    · have Hr2 : Hid (P.isE r has p q = false) := hid (by rw [Hr.out, decide_eq_false h2, Bool.false_and, Bool.and_false])
      go_wp2
      go_ret
      exact ⟨by rw [Hr2.out]; rfl, HX.out.trans Hx1.out⟩
  · have h1' : (q == rb) = false := beq_eq_false_iff_ne.2 h1
    have Hr2 : Hid (P.isE r has p q = false) := hid (by rw [Hr.out, decide_eq_false h1, Bool.false_and])
    go_wp2
    go_ret
    exact ⟨by rw [Hr2.out]; rfl, HX.out.trans Hx1.out⟩
set_option maxRecDepth 100000 in
set_option maxHeartbeats 3200000 in
theorem risedge_store (a1 a2 a3 : Option Addr) (c1 c2 c3 : Nat) (P : PP) (r : RV) (av hv : Value) (has : List (List Int)) (p q : Int) (w : World) (n0 : Nat) (h : ProgR w n0 (.slice a1 P.vars.length c1) (.slice a2 P.funs.length c2) (.slice a3 P.stmts.length c3) P) (hf1 : P.vars.length ≤ 1000) (hf3 : P.stmts.length ≤ 1000) (ha : IntsR w n0 av r.args) (hh : SetsR w n0 hv has) (hkd : (r.kind.toList == [115, 116, 111, 114, 101]) = true) (hidx : 0 ≤ r.b ∧ r.b < has.length) :
    Calls Tryz.prog 129 #[pval a1 a2 a3 c1 c2 c3 P, r.val av, hv, .int .i64 p, .int .i64 q] w fun e w' => e = .returned (.bool (P.isE r has p q)) ∧ Ext w w' := by
  obtain ⟨aa, ca, rfl, _⟩ := id ha
  obtain ⟨ah, ch, rfl⟩ := hh.form
  have hhl := hh.len
  have hal := ha.len
  obtain ⟨W1, hW1⟩ : ∃ W1, W1 = w.alloc (.cells (pcells a1 a2 a3 c1 c2 c3 P) 39) := ⟨_, rfl⟩
  have hx1 : Ext w W1 := by rw [hW1]; exact (Ext.refl _).alloc _
  obtain ⟨W, hW⟩ : ∃ W, W = W1.alloc (.cells #[.string r.kind, .int .i64 r.a, .int .i64 r.b, .int .i64 r.k, .slice aa r.args.length ca] 130) := ⟨_, rfl⟩
  have hx2 : Ext W1 W := by rw [hW]; exact (Ext.refl _).alloc _
  have s1 : W1.heap.size = w.heap.size + 1 := by rw [hW1, heap_size_alloc]
  have HX := hid (hx1.trans hx2)
  have HB0 : Hid (Blk W w.heap.size (pcells a1 a2 a3 c1 c2 c3 P) 39) := hid (by
    have : Blk W1 w.heap.size (pcells a1 a2 a3 c1 c2 c3 P) 39 := by rw [hW1]; exact Blk.new _ _ _
    exact this.ext hx2)
  have HB1 : Hid (Blk W (w.heap.size + 1) #[.string r.kind, .int .i64 r.a, .int .i64 r.b, .int .i64 r.k, .slice aa r.args.length ca] 130) := hid (by rw [← s1, hW]; exact Blk.new _ _ _)
  have HWe : Hid (W = (w.alloc (.cells #[.slice a1 P.vars.length c1, .slice a2 P.funs.length c2, .slice a3 P.stmts.length c3] 39)).alloc (.cells #[.string r.kind, .int .i64 r.a, .int .i64 r.b, .int .i64 r.k, .slice aa r.args.length ca] 130)) := hid (by rw [hW, hW1]; rfl)
  have HP := hid (h.ext HX.out)
  have HH := hid (hh.ext HX.out)
  have HA := hid (ha.old (HX.out.old n0))
  have hnl := P.nodesV_le2
  have HNo := hid (rnodesof_any a1 a2 a3 c1 c2 c3 P W n0 (h.ext HX.out) hf1 hf3)
  obtain ⟨N, hN⟩ : ∃ N, N = P.nodesV := ⟨_, rfl⟩
  rw [← hN] at HNo hnl
  have HN := hid hN
  have d0 := HB0.out.av 0 rfl
  have d1 := HB0.out.av 1 rfl
  have d2 := HB0.out.av 2 rfl
  simp only [pcells, List.getElem_toArray, List.getElem_cons_zero, List.getElem_cons_succ] at d0 d1 d2
  rw [HWe.out] at d0 d1 d2
  unfold RV.val
  unfold pval at HNo ⊢
  clear h ha hh hW1 hW hx1 hx2 s1 hN
  have hk0 : (r.kind.toList == [99, 111, 112, 121]) = false := by rw [eq_of_beq hkd]; rfl
  have hk1 : (r.kind.toList == [108, 111, 97, 100]) = false := by rw [eq_of_beq hkd]; rfl
  have Hr : Hid (P.isE r has p q = (decide (p = r.a) && (decide (q < (P.nodesV : Int)) && decide (q ∈ has.getD r.b.toNat [])))) := hid (by unfold PP.isE kCopy kLoad kStore; rw [hk0, hk1, hkd]; rfl)
  obtain ⟨K, hK⟩ := Int.eq_ofNat_of_zero_le hidx.1
  have hKl : K < has.length := by omega
  obtain ⟨y, l, bl, cl, hya, hl, hc, hI⟩ := HH.out.at hKl
  subst hya
  have Hl : Hid (has.getD (r.b).toNat [] = l) := hid (by rw [hK, List.getD_eq_getElem?_getD]; show (has[K]?).getD [] = l; rw [hl]; rfl)
  have HC := fun w1 (x : Ext W w1) => hid (rhas_any (.slice bl l.length cl) l q w1 n0 (hI.old (x.old n0)))
  have Hc := hid hc
  have HK := hid hK
  clear hl hI hidx hc hK
  go_enter Tryz.func129, Tryz.ntmps129
  go_wp2_with fail
  rw [← HWe.out]
  refine HNo.out.mono ?_
  intro e w1 hx
  obtain ⟨rfl, hx1⟩ := hx
  have Hx1 := hid hx1
  have m0 := (HB1.out.ext hx1).av 0 rfl
  have m1 := (HB1.out.ext hx1).av 1 rfl
  have m2 := (HB1.out.ext hx1).av 2 rfl
  have m3 := (HB1.out.ext hx1).av 3 rfl
  have m4 := (HB1.out.ext hx1).av 4 rfl
  simp only [List.getElem_toArray, List.getElem_cons_zero, List.getElem_cons_succ] at m0 m1 m2 m3 m4
  clear HNo hx1 d0 d1 d2
  have c0 := Hx1.out.cellx Hc.out
  have HC1 := HC w1 Hx1.out
  rw [Hl.out, ← HN.out] at Hr
  obtain ⟨rb, hrb⟩ : ∃ x, x = r.a := ⟨_, rfl⟩
  rw [← hrb] at m1 Hr
  rw [HK.out] at m2
  clear hrb HC
  by_cases h1 : p = rb
  · subst h1
    by_cases h2 : q < (N : Int)
    · obtain ⟨d, hd⟩ : ∃ d, d = decide (q ∈ l) := ⟨_, rfl⟩
      rw [← hd] at HC1
      have Hr2 : Hid (P.isE r has p q = d) := hid (by rw [Hr.out, decide_eq_true rfl, decide_eq_true h2, ← hd]; rfl)
      clear hd
      go_wp2_with fail
      refine HC1.out.mono ?_
      intro e w2 hx
      obtain ⟨rfl, rfl⟩ := hx
      clear HC1
      go_wp2
      go_ret
      exact ⟨by rw [Hr2.out]; rfl, HX.out.trans Hx1.out⟩
    · have Hr2 : Hid (P.isE r has p q = false) := hid (by rw [Hr.out, decide_eq_false h2, Bool.false_and, Bool.and_false])
      go_wp2
      go_ret
      exact ⟨by rw [Hr2.out]; rfl, HX.out.trans Hx1.out⟩
  · have h1' : (p == rb) = false := beq_eq_false_iff_ne.2 h1
    have Hr2 : Hid (P.isE r has p q = false) := hid (by rw [Hr.out, decide_eq_false h1, Bool.false_and])
    go_wp2
    go_ret
    exact ⟨by rw [Hr2.out]; rfl, HX.out.trans Hx1.out⟩
end Go.Proofs.YtoaoienfggjepaaGreatDoor



/- The reference: does a rule make an edge (IsEdge): calls; any rule. -/
namespace Go.Proofs.YtoaoienfggjepaaGreatDoor
set_option linter.unusedSimpArgs false
set_option linter.unusedVariables false
open Go Go.RowKit

theorem any_range_true {n : Nat} {g : Nat → Bool} {k : Nat} (hk : k < n) (h : g k = true) : (List.range n).any g = true := List.any_eq_true.2 ⟨k, List.mem_range.2 hk, h⟩
theorem any_range_false {n : Nat} {g : Nat → Bool} (h : ∀ j, j < n → g j = false) : (List.range n).any g = false := List.any_eq_false.2 fun x hx => by rw [h x (List.mem_range.1 hx)]; simp
theorem fEdge_len {f : PF} {r : RV} {p q : Int} (h : f.params.length ≠ r.args.length) : fEdge f r p q = false := by
  unfold fEdge
  rw [decide_eq_false h, Bool.false_and]
theorem fEdge_ret {f : PF} {r : RV} {p q : Int} (h : f.params.length = r.args.length) (h1 : p = f.ret) (h2 : q = r.b) : fEdge f r p q = true := by
  unfold fEdge
  rw [decide_eq_true h, decide_eq_true h1, decide_eq_true h2]
  rfl
theorem fEdge_arg {f : PF} {r : RV} {p q : Int} (h : f.params.length = r.args.length) {i : Nat} (hi : i < f.params.length) (h1 : r.args[i]? = some p) (h2 : f.params[i]? = some q) : fEdge f r p q = true := by
  unfold fEdge
  rw [decide_eq_true h, any_range_true hi, Bool.or_true]
  · rfl
  · rw [List.getD_eq_getElem?_getD, List.getD_eq_getElem?_getD, h1, h2]; simp
theorem fEdge_no {f : PF} {r : RV} {p q : Int} (h1 : ¬ (p = f.ret ∧ q = r.b)) (h2 : ∀ i, i < f.params.length → ¬ (p = r.args.getD i 0 ∧ q = f.params.getD i 0)) : fEdge f r p q = false := by
  unfold fEdge
  rw [any_range_false fun j hj => by
    rw [← Bool.decide_and]
    exact decide_eq_false (h2 j hj), ← Bool.decide_and, decide_eq_false h1]
  simp

set_option maxRecDepth 100000 in
set_option maxHeartbeats 3200000 in
theorem risedge_call (a1 a2 a3 : Option Addr) (c1 c2 c3 : Nat) (P : PP) (r : RV) (av hv : Value) (has : List (List Int)) (p q : Int) (w : World) (n0 : Nat) (h : ProgR w n0 (.slice a1 P.vars.length c1) (.slice a2 P.funs.length c2) (.slice a3 P.stmts.length c3) P) (hf1 : P.vars.length ≤ 1000) (hf3 : P.stmts.length ≤ 1000) (ha : IntsR w n0 av r.args) (hh : SetsR w n0 hv has) (hkd : (r.kind.toList == [99, 97, 108, 108]) = true) (hidx : 0 ≤ r.a ∧ r.a < has.length) (hfl : P.funs.length ≤ 1000) :
    Calls Tryz.prog 129 #[pval a1 a2 a3 c1 c2 c3 P, r.val av, hv, .int .i64 p, .int .i64 q] w fun e w' => e = .returned (.bool (P.isE r has p q)) ∧ Ext w w' := by
  obtain ⟨aa, ca, rfl, _⟩ := id ha
  obtain ⟨ah, ch, rfl⟩ := hh.form
  have hhl := hh.len
  have hal := ha.len
  obtain ⟨W1, hW1⟩ : ∃ W1, W1 = w.alloc (.cells (pcells a1 a2 a3 c1 c2 c3 P) 39) := ⟨_, rfl⟩
  have hx1 : Ext w W1 := by rw [hW1]; exact (Ext.refl _).alloc _
  obtain ⟨W, hW⟩ : ∃ W, W = W1.alloc (.cells #[.string r.kind, .int .i64 r.a, .int .i64 r.b, .int .i64 r.k, .slice aa r.args.length ca] 130) := ⟨_, rfl⟩
  have hx2 : Ext W1 W := by rw [hW]; exact (Ext.refl _).alloc _
  have s1 : W1.heap.size = w.heap.size + 1 := by rw [hW1, heap_size_alloc]
  have HX := hid (hx1.trans hx2)
  have HB0 : Hid (Blk W w.heap.size (pcells a1 a2 a3 c1 c2 c3 P) 39) := hid (by
    have : Blk W1 w.heap.size (pcells a1 a2 a3 c1 c2 c3 P) 39 := by rw [hW1]; exact Blk.new _ _ _
    exact this.ext hx2)
  have HB1 : Hid (Blk W (w.heap.size + 1) #[.string r.kind, .int .i64 r.a, .int .i64 r.b, .int .i64 r.k, .slice aa r.args.length ca] 130) := hid (by rw [← s1, hW]; exact Blk.new _ _ _)
  have HWe : Hid (W = (w.alloc (.cells #[.slice a1 P.vars.length c1, .slice a2 P.funs.length c2, .slice a3 P.stmts.length c3] 39)).alloc (.cells #[.string r.kind, .int .i64 r.a, .int .i64 r.b, .int .i64 r.k, .slice aa r.args.length ca] 130)) := hid (by rw [hW, hW1]; rfl)
  have HP := hid (h.ext HX.out)
  have HH := hid (hh.ext HX.out)
  have HA := hid (ha.old (HX.out.old n0))
  have hnl := P.nodesV_le2
  have HNo := hid (rnodesof_any a1 a2 a3 c1 c2 c3 P W n0 (h.ext HX.out) hf1 hf3)
  obtain ⟨N, hN⟩ : ∃ N, N = P.nodesV := ⟨_, rfl⟩
  rw [← hN] at HNo hnl
  have HN := hid hN
  have d0 := HB0.out.av 0 rfl
  have d1 := HB0.out.av 1 rfl
  have d2 := HB0.out.av 2 rfl
  simp only [pcells, List.getElem_toArray, List.getElem_cons_zero, List.getElem_cons_succ] at d0 d1 d2
  rw [HWe.out] at d0 d1 d2
  unfold RV.val
  unfold pval at HNo ⊢
  clear h ha hh hW1 hW hx1 hx2 s1 hN
  have hk0 : (r.kind.toList == [99, 111, 112, 121]) = false := by rw [eq_of_beq hkd]; rfl
  have hk1 : (r.kind.toList == [108, 111, 97, 100]) = false := by rw [eq_of_beq hkd]; rfl
  have hk2 : (r.kind.toList == [115, 116, 111, 114, 101]) = false := by rw [eq_of_beq hkd]; rfl
  obtain ⟨G, hG⟩ : ∃ G : Nat → Bool, G = fun f : Nat => decide ((P.nodesV : Int) + (f : Int) ∈ has.getD r.a.toNat []) && fEdge (P.funs.getD f ⟨⟨#[]⟩, [], 0⟩) r p q := ⟨_, rfl⟩
  have Hr : Hid (P.isE r has p q = (List.range P.funs.length).any G) := hid (by unfold PP.isE kCopy kLoad kStore kCall; rw [hk0, hk1, hk2, hkd, hG]; rfl)
  obtain ⟨K, hK⟩ := Int.eq_ofNat_of_zero_le hidx.1
  have hKl : K < has.length := by omega
  obtain ⟨y, l, bl, cl, hya, hl, hc, hI⟩ := HH.out.at hKl
  subst hya
  have HG : Hid (∀ k f, P.funs[k]? = some f → G k = (decide ((N : Int) + (k : Int) ∈ l) && fEdge f r p q)) := hid (fun k f hf => by
    rw [hG, HN.out]
    simp only
    rw [hK, Int.toNat_natCast, List.getD_eq_getElem?_getD, hl, List.getD_eq_getElem?_getD, hf]
    rfl)
  have HC := fun x w1 (e : Ext W w1) => hid (rhas_any (.slice bl l.length cl) l x w1 n0 (hI.old (e.old n0)))
  have Hc := hid hc
  have HK := hid hK
  clear hl hI hidx hc hG hK
  go_enter Tryz.func129, Tryz.ntmps129
  go_wp2_with fail
  rw [← HWe.out]
  refine HNo.out.mono ?_
  intro e w1 hx
  obtain ⟨rfl, hx1⟩ := hx
  have Hx1 := hid hx1
  have m0 := (HB1.out.ext hx1).av 0 rfl
  have m1 := (HB1.out.ext hx1).av 1 rfl
  have m2 := (HB1.out.ext hx1).av 2 rfl
  have m3 := (HB1.out.ext hx1).av 3 rfl
  have m4 := (HB1.out.ext hx1).av 4 rfl
  simp only [List.getElem_toArray, List.getElem_cons_zero, List.getElem_cons_succ] at m0 m1 m2 m3 m4
  clear HNo hx1 d0 d1 d2
  have c0 := Hx1.out.cellx Hc.out
  have d0 := (HB0.out.ext Hx1.out).av 0 rfl
  have d1 := (HB0.out.ext Hx1.out).av 1 rfl
  have d2 := (HB0.out.ext Hx1.out).av 2 rfl
  simp only [pcells, List.getElem_toArray, List.getElem_cons_zero, List.getElem_cons_succ] at d0 d1 d2
  rw [HK.out] at m1
  go_wp2
  go_loop [12] (fun t12 => ∃ k : Nat, t12 = .int .i64 (k : Int) ∧ k ≤ P.funs.length ∧ ∀ j, j < k → G j = false) (fun t12 => P.funs.length - (intOf t12).toNat)
  case atStart => exact ⟨0, rfl, Nat.zero_le _, fun j h => by omega⟩
  case round =>
    obtain ⟨k, rfl, hk, hp⟩ := hrel
    have Hp := hid hp
    clear hp
    by_cases hlt : k < P.funs.length
    · obtain ⟨yf, f, afp, cfp, hyf, hfk, e0, e1, e2, hIp⟩ := HP.out.funs.at hlt
      subst hyf
      have e1 := Hx1.out.cellx e1
      have e2 := Hx1.out.cellx e2
      have HIp := hid hIp
      have hpl := hIp.len
      have HGk0 := hid (HG.out k f hfk)
      have HC1 := HC ((N : Int) + (k : Int)) w1 Hx1.out
      obtain ⟨d, hd⟩ : ∃ d, d = decide ((N : Int) + (k : Int) ∈ l) := ⟨_, rfl⟩
      rw [← hd] at HC1 HGk0
      clear e0 hfk hIp hd
      go_wp2_with fail
      refine HC1.out.mono ?_
      intro e w2 hx
      obtain ⟨rfl, rfl⟩ := hx
      clear HC1 HC
      cases d with
      | false =>
        have Hgk : Hid (G k = false) := hid (by rw [HGk0.out]; rfl)
        go_wp2
        refine ⟨⟨k + 1, by go_num, by omega, fun j hj => ?_⟩, by simp [intOf]; omega⟩
        by_cases hjk : j = k
        · subst hjk; exact Hgk.out
        · exact Hp.out j (by omega)
      | true =>
        have HGk : Hid (G k = (true && fEdge f r p q)) := HGk0
        by_cases hlen : f.params.length = r.args.length
        · have Hlen := hid hlen
          have hl1 : ((f.params.length : Int) != (r.args.length : Int)) = false := by rw [hlen]; simp
          obtain ⟨fr, hfr⟩ : ∃ x, x = f.ret := ⟨_, rfl⟩
          obtain ⟨rb, hrb⟩ : ∃ x, x = r.b := ⟨_, rfl⟩
          rw [← hfr] at e2
          rw [← hrb] at m2
          have Hfr := hid hfr
          have Hrb := hid hrb
          clear hfr hrb
          by_cases h1 : p = fr
          · by_cases h2 : q = rb
            · have Hgk : Hid (G k = true) := hid (by rw [HGk.out, fEdge_ret Hlen.out (h1.trans Hfr.out) (h2.trans Hrb.out)]; rfl)
              subst h1 h2
              clear hlen
              have Hr2 : Hid (P.isE r has p q = true) := hid (by rw [Hr.out]; exact any_range_true hlt Hgk.out)
              go_wp2
              go_ret
              exact ⟨by rw [Hr2.out]; rfl, HX.out.trans Hx1.out⟩
            · have h2' : (q == rb) = false := beq_eq_false_iff_ne.2 h2
              have Hnr : Hid (¬ (p = f.ret ∧ q = r.b)) := hid fun h => h2 (h.2.trans Hrb.out.symm)
              subst h1
              have hlen2 := Hlen.out
              clear hlen
              go_wp2
              go_loop [14] (fun t14 => ∃ i : Nat, t14 = .int .i64 (i : Int) ∧ i ≤ f.params.length ∧ ∀ j, j < i → ¬ (p = r.args.getD j 0 ∧ q = f.params.getD j 0)) (fun t14 => f.params.length - (intOf t14).toNat)
              case atStart => exact ⟨0, rfl, Nat.zero_le _, fun j h => by omega⟩
              case round =>
                obtain ⟨i, rfl, hi, hq⟩ := hrel
                have Hq := hid hq
                clear hq
                by_cases hil : i < f.params.length
                · have hil2 : i < r.args.length := by rw [← Hlen.out]; exact hil
                  obtain ⟨ya, o, hya, ho, hco⟩ := (HA.out.old (Hx1.out.old n0)).at hil2
                  subst hya
                  obtain ⟨yp, u, hyp, hu, hcu⟩ := (HIp.out.old (Hx1.out.old n0)).at hil
                  subst hyp
                  have Ho := hid ho
                  have Hu := hid hu
                  clear ho hu
                  by_cases g1 : p = o
                  · by_cases g2 : q = u
                    · subst g1 g2
                      have Hgk : Hid (G k = true) := hid (by rw [HGk.out, fEdge_arg Hlen.out hil Ho.out Hu.out]; rfl)
                      have Hr2 : Hid (P.isE r has p q = true) := hid (by rw [Hr.out]; exact any_range_true hlt Hgk.out)
                      go_wp2
                      go_ret
                      exact ⟨by rw [Hr2.out]; rfl, HX.out.trans Hx1.out⟩
                    · have g2' : (q == u) = false := beq_eq_false_iff_ne.2 g2
                      have Hn : Hid (¬ (p = r.args.getD i 0 ∧ q = f.params.getD i 0)) := hid (by rw [List.getD_eq_getElem?_getD, List.getD_eq_getElem?_getD, Ho.out, Hu.out]; exact fun h => g2 h.2)
                      subst g1
                      go_wp2
                      refine ⟨⟨i + 1, by go_num, by omega, fun j hj => ?_⟩, by simp [intOf]; omega⟩
                      by_cases hji : j = i
                      · subst hji; exact Hn.out
                      · exact Hq.out j (by omega)
                  · have g1' : (p == o) = false := beq_eq_false_iff_ne.2 g1
                    have Hn : Hid (¬ (p = r.args.getD i 0 ∧ q = f.params.getD i 0)) := hid (by rw [List.getD_eq_getElem?_getD, List.getD_eq_getElem?_getD, Ho.out, Hu.out]; exact fun h => g1 h.1)
                    go_wp2
                    refine ⟨⟨i + 1, by go_num, by omega, fun j hj => ?_⟩, by simp [intOf]; omega⟩
                    by_cases hji : j = i
                    · subst hji; exact Hn.out
                    · exact Hq.out j (by omega)
                · obtain rfl : i = f.params.length := by omega
                  have Hgk : Hid (G k = false) := hid (by rw [HGk.out, fEdge_no Hnr.out Hq.out]; rfl)
                  go_wp2
                  refine ⟨⟨k + 1, by go_num, by omega, fun j hj => ?_⟩, by simp [intOf]; omega⟩
                  by_cases hjk : j = k
                  · subst hjk; exact Hgk.out
                  · exact Hp.out j (by omega)
          · have h1' : (p == fr) = false := beq_eq_false_iff_ne.2 h1
            have Hnr : Hid (¬ (p = f.ret ∧ q = r.b)) := hid fun h => h1 (h.1.trans Hfr.out.symm)
            clear hlen
            go_wp2
            go_loop [14] (fun t14 => ∃ i : Nat, t14 = .int .i64 (i : Int) ∧ i ≤ f.params.length ∧ ∀ j, j < i → ¬ (p = r.args.getD j 0 ∧ q = f.params.getD j 0)) (fun t14 => f.params.length - (intOf t14).toNat)
            case atStart => exact ⟨0, rfl, Nat.zero_le _, fun j h => by omega⟩
            case round =>
              obtain ⟨i, rfl, hi, hq⟩ := hrel
              have Hq := hid hq
              clear hq
              by_cases hil : i < f.params.length
              · have hil2 : i < r.args.length := by rw [← Hlen.out]; exact hil
                obtain ⟨ya, o, hya, ho, hco⟩ := (HA.out.old (Hx1.out.old n0)).at hil2
                subst hya
                obtain ⟨yp, u, hyp, hu, hcu⟩ := (HIp.out.old (Hx1.out.old n0)).at hil
                subst hyp
                have Ho := hid ho
                have Hu := hid hu
                clear ho hu
                by_cases g1 : p = o
                · by_cases g2 : q = u
                  · subst g1 g2
                    have Hgk : Hid (G k = true) := hid (by rw [HGk.out, fEdge_arg Hlen.out hil Ho.out Hu.out]; rfl)
                    have Hr2 : Hid (P.isE r has p q = true) := hid (by rw [Hr.out]; exact any_range_true hlt Hgk.out)
                    go_wp2
                    go_ret
                    exact ⟨by rw [Hr2.out]; rfl, HX.out.trans Hx1.out⟩
                  · have g2' : (q == u) = false := beq_eq_false_iff_ne.2 g2
                    have Hn : Hid (¬ (p = r.args.getD i 0 ∧ q = f.params.getD i 0)) := hid (by rw [List.getD_eq_getElem?_getD, List.getD_eq_getElem?_getD, Ho.out, Hu.out]; exact fun h => g2 h.2)
                    subst g1
                    go_wp2
                    refine ⟨⟨i + 1, by go_num, by omega, fun j hj => ?_⟩, by simp [intOf]; omega⟩
                    by_cases hji : j = i
                    · subst hji; exact Hn.out
                    · exact Hq.out j (by omega)
                · have g1' : (p == o) = false := beq_eq_false_iff_ne.2 g1
                  have Hn : Hid (¬ (p = r.args.getD i 0 ∧ q = f.params.getD i 0)) := hid (by rw [List.getD_eq_getElem?_getD, List.getD_eq_getElem?_getD, Ho.out, Hu.out]; exact fun h => g1 h.1)
                  go_wp2
                  refine ⟨⟨i + 1, by go_num, by omega, fun j hj => ?_⟩, by simp [intOf]; omega⟩
                  by_cases hji : j = i
                  · subst hji; exact Hn.out
                  · exact Hq.out j (by omega)
              · obtain rfl : i = f.params.length := by omega
                have Hgk : Hid (G k = false) := hid (by rw [HGk.out, fEdge_no Hnr.out Hq.out]; rfl)
                go_wp2
                refine ⟨⟨k + 1, by go_num, by omega, fun j hj => ?_⟩, by simp [intOf]; omega⟩
                by_cases hjk : j = k
                · subst hjk; exact Hgk.out
                · exact Hp.out j (by omega)
        · have hl1 : ((f.params.length : Int) != (r.args.length : Int)) = true := bne_iff_ne.2 (fun h => hlen (Int.ofNat_inj.1 h))
          have Hgk : Hid (G k = false) := hid (by rw [HGk.out, fEdge_len hlen]; rfl)
          clear hlen
          go_wp2
          refine ⟨⟨k + 1, by go_num, by omega, fun j hj => ?_⟩, by simp [intOf]; omega⟩
          by_cases hjk : j = k
          · subst hjk; exact Hgk.out
          · exact Hp.out j (by omega)
    · obtain rfl : k = P.funs.length := by omega
      have Hr2 : Hid (P.isE r has p q = false) := hid (by rw [Hr.out]; exact any_range_false Hp.out)
      go_wp2
      go_ret
      exact ⟨by rw [Hr2.out]; rfl, HX.out.trans Hx1.out⟩
end Go.Proofs.YtoaoienfggjepaaGreatDoor



/- The reference: the rule of a statement (RuleOf). -/
namespace Go.Proofs.YtoaoienfggjepaaGreatDoor
set_option linter.unusedSimpArgs false
set_option linter.unusedVariables false
open Go Go.RowKit

/-- The rule of a statement as the reference tells it. -/
def PP.ruleR (P : PP) (k : Nat) (x : PS) : RV :=
  bif x.isK kAddr then ⟨bBase, x.x, x.y, k, []⟩ else
  bif x.isK kNew then ⟨bBase, x.x, P.placeV k, k, []⟩ else
  bif x.isK kFun then ⟨bBase, x.x, (P.nodesV : Int) + x.y, k, []⟩ else ⟨x.kind, x.y, x.x, k, x.args⟩
theorem noArgs {P : PP} {x : PS} (h0 : P.stmtErr x = 0) (h : x.isK kCall = false) : x.args = [] := by
  unfold PP.stmtErr at h0
  cases h1 : memB x.kind kindsS with
  | false => rw [h1] at h0; simp at h0
  | true =>
    cases h2 : P.bound x with
    | false => rw [h1, h2] at h0; simp at h0
    | true =>
      rw [h1, h2, h] at h0
      cases ha : x.args with
      | nil => rfl
      | cons a r => rw [ha] at h0; simp at h0
/-- Both rules are one, but for how the kind's text lies. -/
theorem rule_same {P : PP} {x : PS} (h0 : P.stmtErr x = 0) (k : Nat) : (P.ruleR k x).kind.toList = (P.ruleV k x).kind.toList ∧ (P.ruleR k x).a = (P.ruleV k x).a ∧ (P.ruleR k x).b = (P.ruleV k x).b ∧ (P.ruleR k x).k = k ∧ (P.ruleV k x).k = k ∧ (P.ruleR k x).args = (P.ruleV k x).args := by
  unfold PP.ruleR PP.ruleV
  cases h1 : x.isK kAddr with
  | true => exact ⟨rfl, rfl, rfl, rfl, rfl, rfl⟩
  | false =>
    cases h2 : x.isK kNew with
    | true => exact ⟨rfl, rfl, rfl, rfl, rfl, rfl⟩
    | false =>
      cases h3 : x.isK kFun with
      | true => exact ⟨rfl, rfl, rfl, rfl, rfl, rfl⟩
      | false =>
        cases h4 : x.isK kCall with
        | true =>
          refine ⟨?_, rfl, rfl, rfl, rfl, rfl⟩
          have : x.kind.toList = kCall := eq_of_beq h4
          exact this.trans (show kCall = bCall.toList by decide +kernel)
        | false => exact ⟨rfl, rfl, rfl, rfl, rfl, noArgs h0 h4⟩

theorem intsR_nil (w : World) (n0 : Nat) : IntsR w n0 (.slice none 0 0) [] := ⟨none, 0, rfl, Nat.le_refl _, by decide, fun h => absurd h (by decide), fun y hy => by cases hy⟩
set_option maxRecDepth 100000 in
set_option maxHeartbeats 6400000 in
theorem rruleof_addr (a1 a2 a3 : Option Addr) (c1 c2 c3 : Nat) (P : PP) (k : Nat) (x : PS) (hxk : P.stmts[k]? = some x) (w : World) (n0 : Nat) (h : ProgR w n0 (.slice a1 P.vars.length c1) (.slice a2 P.funs.length c2) (.slice a3 P.stmts.length c3) P) (hf1 : P.vars.length ≤ 1000) (hf3 : P.stmts.length ≤ 1000) (hkx : x.isK kAddr = true)  :
    Calls Tryz.prog 88 #[pval a1 a2 a3 c1 c2 c3 P, .int .i64 (k : Int)] w fun e w' => ∃ av, e = .returned ((P.ruleR k x).val av) ∧ IntsR w n0 av (P.ruleR k x).args ∧ Ext w w' := by
  obtain ⟨W1, hW1⟩ : ∃ W1, W1 = w.alloc (.cells (pcells a1 a2 a3 c1 c2 c3 P) 39) := ⟨_, rfl⟩
  have hx1 : Ext w W1 := by rw [hW1]; exact (Ext.refl _).alloc _
  obtain ⟨W2, hW2⟩ : ∃ W2, W2 = W1.alloc (.cells #[.string ⟨#[]⟩, .int .i64 0, .int .i64 0, .int .i64 0, .slice none 0 0] 130) := ⟨_, rfl⟩
  have hx2 : Ext W1 W2 := by rw [hW2]; exact (Ext.refl _).alloc _
  have hk : k < P.stmts.length := by
    rcases Nat.lt_or_ge k P.stmts.length with h | h
    · exact h
    · rw [List.getElem?_eq_none h] at hxk; cases hxk
  have hml := h.stmts.len
  obtain ⟨y, x', av, cv, rfl, hxk', e0, e1, e2, e3, hI⟩ := (h.ext (hx1.trans hx2)).stmts.at hk
  obtain rfl := Option.some.inj (hxk.symm.trans hxk')
  obtain ⟨W3, hW3⟩ : ∃ W3, W3 = W2.alloc (.cells (scells x av cv) 48) := ⟨_, rfl⟩
  have hx3 : Ext W2 W3 := by rw [hW3]; exact (Ext.refl _).alloc _
  obtain ⟨W4, hW4⟩ : ∃ W4, W4 = W3.alloc (.cells #[.string x.kind, .int .i64 x.y, .int .i64 x.x, .int .i64 (k : Int), .slice av x.args.length cv] 130) := ⟨_, rfl⟩
  have hx4 : Ext W3 W4 := by rw [hW4]; exact (Ext.refl _).alloc _
  have s1 : W1.heap.size = w.heap.size + 1 := by rw [hW1, heap_size_alloc]
  have s2 : W2.heap.size = w.heap.size + 1 + 1 := by rw [hW2, heap_size_alloc, s1]
  have s3 : W3.heap.size = w.heap.size + 1 + 1 + 1 := by rw [hW3, heap_size_alloc, s2]
  have HX := hid (((hx1.trans hx2).trans hx3).trans hx4)
  have HB0 : Hid (Blk W4 w.heap.size (pcells a1 a2 (some y) c1 c2 c3 P) 39) := hid (by
    have : Blk W1 w.heap.size (pcells a1 a2 (some y) c1 c2 c3 P) 39 := by rw [hW1]; exact Blk.new _ _ _
    exact this.ext ((hx2.trans hx3).trans hx4))
  have HB1 : Hid (Blk W4 (w.heap.size + 1) #[.string ⟨#[]⟩, .int .i64 0, .int .i64 0, .int .i64 0, .slice none 0 0] 130) := hid (by
    have : Blk W2 (w.heap.size + 1) #[.string ⟨#[]⟩, .int .i64 0, .int .i64 0, .int .i64 0, .slice none 0 0] 130 := by rw [← s1, hW2]; exact Blk.new _ _ _
    exact this.ext (hx3.trans hx4))
  have HB2 : Hid (Blk W4 (w.heap.size + 1 + 1) (scells x av cv) 48) := hid (by
    have : Blk W3 (w.heap.size + 1 + 1) (scells x av cv) 48 := by rw [← s2, hW3]; exact Blk.new _ _ _
    exact this.ext hx4)
  have HB3 : Hid (Blk W4 (w.heap.size + 1 + 1 + 1) #[.string x.kind, .int .i64 x.y, .int .i64 x.x, .int .i64 (k : Int), .slice av x.args.length cv] 130) := hid (by rw [← s3, hW4]; exact Blk.new _ _ _)
  have HI := hid hI
  have HP := hid h
  rw [hW2, hW1] at e0 e1 e2 e3
  unfold pcells at e0 e1 e2 e3
  have HWe : Hid (W4 = (((w.alloc (.cells #[.slice a1 P.vars.length c1, .slice a2 P.funs.length c2, .slice (some y) P.stmts.length c3] 39)).alloc (.cells #[.string ⟨#[]⟩, .int .i64 0, .int .i64 0, .int .i64 0, .slice none 0 0] 130)).alloc (.cells #[.string x.kind, .int .i64 x.x, .int .i64 x.y, .slice av x.args.length cv] 48)).alloc (.cells #[.string x.kind, .int .i64 x.y, .int .i64 x.x, .int .i64 (k : Int), .slice av x.args.length cv] 130)) := hid (by rw [hW4, hW3, hW2, hW1]; rfl)
  have HI0 : Hid (IntsR w n0 (.slice av x.args.length cv) x.args) := hid (by
    obtain ⟨y', x', av', cv', hy', hxk2, f0, f1, f2, f3, hI'⟩ := HP.out.stmts.at hk
    obtain rfl := Option.some.inj hy'
    obtain rfl := Option.some.inj (hxk.symm.trans hxk2)
    have g3 := (hx1.trans hx2).cellx f3
    rw [hW2, hW1] at g3
    unfold pcells at g3
    rw [e3] at g3
    obtain ⟨rfl, rfl⟩ : av = av' ∧ cv = cv' := by simpa using g3
    exact hI')
  clear hW1 hW2 hW3 hW4 hx1 hx2 hx3 hx4 s1 s2 s3 hxk hxk' hI h
  unfold pval
  have Hr : Hid (P.ruleR k x = ⟨bBase, x.x, x.y, k, []⟩) := hid (by unfold PP.ruleR; rw [hkx]; rfl)
  have hkk := hkx
  unfold PS.isK kAddr at hkk
  clear hkx
  clear HWe
  go_enter Tryz.func88, Tryz.ntmps88
  go_wp2
  obtain ⟨V, hV⟩ : ∃ V, V = (((w.alloc (.cells #[.slice a1 P.vars.length c1, .slice a2 P.funs.length c2, .slice (some y) P.stmts.length c3] 39)).alloc (.cells #[.string ⟨#[98, 97, 115, 101]⟩, .int .i64 x.x, .int .i64 x.y, .int .i64 (k : Int), .slice none 0 0] 130)).alloc (.cells #[.string x.kind, .int .i64 x.x, .int .i64 x.y, .slice av x.args.length cv] 48)).alloc (.cells #[.string ⟨#[98, 97, 115, 101]⟩, .int .i64 x.x, .int .i64 x.y, .int .i64 (k : Int), .slice none 0 0] 130) := ⟨_, rfl⟩
  have hxV : Ext w V := by rw [hV]; exact ((((Ext.refl _).alloc _).alloc _).alloc _).alloc _
  have HB9 : Blk V (w.heap.size + 1) #[.string ⟨#[98, 97, 115, 101]⟩, .int .i64 x.x, .int .i64 x.y, .int .i64 (k : Int), .slice none 0 0] 130 := by
    rw [hV]
    have := ((Blk.new (w.alloc (.cells #[.slice a1 P.vars.length c1, .slice a2 P.funs.length c2, .slice (some y) P.stmts.length c3] 39)) #[.string ⟨#[98, 97, 115, 101]⟩, .int .i64 x.x, .int .i64 x.y, .int .i64 (k : Int), .slice none 0 0] 130).alloc (.cells #[.string x.kind, .int .i64 x.x, .int .i64 x.y, .slice av x.args.length cv] 48)).alloc (.cells #[.string ⟨#[98, 97, 115, 101]⟩, .int .i64 x.x, .int .i64 x.y, .int .i64 (k : Int), .slice none 0 0] 130)
    rwa [heap_size_alloc] at this
  rw [← hV]
  exact bodyPost_ret (v := .agg #[.string ⟨#[98, 97, 115, 101]⟩, .int .i64 x.x, .int .i64 x.y, .int .i64 (k : Int), .slice none 0 0]) (by simp [results, Tryz.results88, go_sem, HB9.av 0 rfl, HB9.av 1 rfl, HB9.av 2 rfl, HB9.av 3 rfl, HB9.av 4 rfl]) rfl ⟨_, by rw [Hr.out]; rfl, by rw [Hr.out]; exact intsR_nil _ _, hxV⟩
set_option maxRecDepth 100000 in
set_option maxHeartbeats 6400000 in
theorem rruleof_rest (a1 a2 a3 : Option Addr) (c1 c2 c3 : Nat) (P : PP) (k : Nat) (x : PS) (hxk : P.stmts[k]? = some x) (w : World) (n0 : Nat) (h : ProgR w n0 (.slice a1 P.vars.length c1) (.slice a2 P.funs.length c2) (.slice a3 P.stmts.length c3) P) (hf1 : P.vars.length ≤ 1000) (hf3 : P.stmts.length ≤ 1000) (hkx : x.isK kAddr = false ∧ x.isK kNew = false ∧ x.isK kFun = false)  :
    Calls Tryz.prog 88 #[pval a1 a2 a3 c1 c2 c3 P, .int .i64 (k : Int)] w fun e w' => ∃ av, e = .returned ((P.ruleR k x).val av) ∧ IntsR w n0 av (P.ruleR k x).args ∧ Ext w w' := by
  obtain ⟨W1, hW1⟩ : ∃ W1, W1 = w.alloc (.cells (pcells a1 a2 a3 c1 c2 c3 P) 39) := ⟨_, rfl⟩
  have hx1 : Ext w W1 := by rw [hW1]; exact (Ext.refl _).alloc _
  obtain ⟨W2, hW2⟩ : ∃ W2, W2 = W1.alloc (.cells #[.string ⟨#[]⟩, .int .i64 0, .int .i64 0, .int .i64 0, .slice none 0 0] 130) := ⟨_, rfl⟩
  have hx2 : Ext W1 W2 := by rw [hW2]; exact (Ext.refl _).alloc _
  have hk : k < P.stmts.length := by
    rcases Nat.lt_or_ge k P.stmts.length with h | h
    · exact h
    · rw [List.getElem?_eq_none h] at hxk; cases hxk
  have hml := h.stmts.len
  obtain ⟨y, x', av, cv, rfl, hxk', e0, e1, e2, e3, hI⟩ := (h.ext (hx1.trans hx2)).stmts.at hk
  obtain rfl := Option.some.inj (hxk.symm.trans hxk')
  obtain ⟨W3, hW3⟩ : ∃ W3, W3 = W2.alloc (.cells (scells x av cv) 48) := ⟨_, rfl⟩
  have hx3 : Ext W2 W3 := by rw [hW3]; exact (Ext.refl _).alloc _
  obtain ⟨W4, hW4⟩ : ∃ W4, W4 = W3.alloc (.cells #[.string x.kind, .int .i64 x.y, .int .i64 x.x, .int .i64 (k : Int), .slice av x.args.length cv] 130) := ⟨_, rfl⟩
  have hx4 : Ext W3 W4 := by rw [hW4]; exact (Ext.refl _).alloc _
  have s1 : W1.heap.size = w.heap.size + 1 := by rw [hW1, heap_size_alloc]
  have s2 : W2.heap.size = w.heap.size + 1 + 1 := by rw [hW2, heap_size_alloc, s1]
  have s3 : W3.heap.size = w.heap.size + 1 + 1 + 1 := by rw [hW3, heap_size_alloc, s2]
  have HX := hid (((hx1.trans hx2).trans hx3).trans hx4)
  have HB0 : Hid (Blk W4 w.heap.size (pcells a1 a2 (some y) c1 c2 c3 P) 39) := hid (by
    have : Blk W1 w.heap.size (pcells a1 a2 (some y) c1 c2 c3 P) 39 := by rw [hW1]; exact Blk.new _ _ _
    exact this.ext ((hx2.trans hx3).trans hx4))
  have HB1 : Hid (Blk W4 (w.heap.size + 1) #[.string ⟨#[]⟩, .int .i64 0, .int .i64 0, .int .i64 0, .slice none 0 0] 130) := hid (by
    have : Blk W2 (w.heap.size + 1) #[.string ⟨#[]⟩, .int .i64 0, .int .i64 0, .int .i64 0, .slice none 0 0] 130 := by rw [← s1, hW2]; exact Blk.new _ _ _
    exact this.ext (hx3.trans hx4))
  have HB2 : Hid (Blk W4 (w.heap.size + 1 + 1) (scells x av cv) 48) := hid (by
    have : Blk W3 (w.heap.size + 1 + 1) (scells x av cv) 48 := by rw [← s2, hW3]; exact Blk.new _ _ _
    exact this.ext hx4)
  have HB3 : Hid (Blk W4 (w.heap.size + 1 + 1 + 1) #[.string x.kind, .int .i64 x.y, .int .i64 x.x, .int .i64 (k : Int), .slice av x.args.length cv] 130) := hid (by rw [← s3, hW4]; exact Blk.new _ _ _)
  have HI := hid hI
  have HP := hid h
  rw [hW2, hW1] at e0 e1 e2 e3
  unfold pcells at e0 e1 e2 e3
  have HWe : Hid (W4 = (((w.alloc (.cells #[.slice a1 P.vars.length c1, .slice a2 P.funs.length c2, .slice (some y) P.stmts.length c3] 39)).alloc (.cells #[.string ⟨#[]⟩, .int .i64 0, .int .i64 0, .int .i64 0, .slice none 0 0] 130)).alloc (.cells #[.string x.kind, .int .i64 x.x, .int .i64 x.y, .slice av x.args.length cv] 48)).alloc (.cells #[.string x.kind, .int .i64 x.y, .int .i64 x.x, .int .i64 (k : Int), .slice av x.args.length cv] 130)) := hid (by rw [hW4, hW3, hW2, hW1]; rfl)
  have HI0 : Hid (IntsR w n0 (.slice av x.args.length cv) x.args) := hid (by
    obtain ⟨y', x', av', cv', hy', hxk2, f0, f1, f2, f3, hI'⟩ := HP.out.stmts.at hk
    obtain rfl := Option.some.inj hy'
    obtain rfl := Option.some.inj (hxk.symm.trans hxk2)
    have g3 := (hx1.trans hx2).cellx f3
    rw [hW2, hW1] at g3
    unfold pcells at g3
    rw [e3] at g3
    obtain ⟨rfl, rfl⟩ : av = av' ∧ cv = cv' := by simpa using g3
    exact hI')
  clear hW1 hW2 hW3 hW4 hx1 hx2 hx3 hx4 s1 s2 s3 hxk hxk' hI h
  unfold pval
  obtain ⟨g1, g2, g3⟩ := hkx
  have Hr : Hid (P.ruleR k x = ⟨x.kind, x.y, x.x, k, x.args⟩) := hid (by unfold PP.ruleR; rw [g1, g2, g3]; rfl)
  have h1 : (x.kind.toList == [97, 100, 100, 114]) = false := g1
  have h5 : (x.kind.toList == [110, 101, 119]) = false := g2
  have h6 : (x.kind.toList == [102, 117, 110]) = false := g3
  clear g1 g2 g3
  clear HWe
  go_enter Tryz.func88, Tryz.ntmps88
  go_wp2
  obtain ⟨V, hV⟩ : ∃ V, V = (((w.alloc (.cells #[.slice a1 P.vars.length c1, .slice a2 P.funs.length c2, .slice (some y) P.stmts.length c3] 39)).alloc (.cells #[.string x.kind, .int .i64 x.y, .int .i64 x.x, .int .i64 (k : Int), .slice av x.args.length cv] 130)).alloc (.cells #[.string x.kind, .int .i64 x.x, .int .i64 x.y, .slice av x.args.length cv] 48)).alloc (.cells #[.string x.kind, .int .i64 x.y, .int .i64 x.x, .int .i64 (k : Int), .slice av x.args.length cv] 130) := ⟨_, rfl⟩
  have hxV : Ext w V := by rw [hV]; exact ((((Ext.refl _).alloc _).alloc _).alloc _).alloc _
  have HB9 : Blk V (w.heap.size + 1) #[.string x.kind, .int .i64 x.y, .int .i64 x.x, .int .i64 (k : Int), .slice av x.args.length cv] 130 := by
    rw [hV]
    have := ((Blk.new (w.alloc (.cells #[.slice a1 P.vars.length c1, .slice a2 P.funs.length c2, .slice (some y) P.stmts.length c3] 39)) #[.string x.kind, .int .i64 x.y, .int .i64 x.x, .int .i64 (k : Int), .slice av x.args.length cv] 130).alloc (.cells #[.string x.kind, .int .i64 x.x, .int .i64 x.y, .slice av x.args.length cv] 48)).alloc (.cells #[.string x.kind, .int .i64 x.y, .int .i64 x.x, .int .i64 (k : Int), .slice av x.args.length cv] 130)
    rwa [heap_size_alloc] at this
  rw [← hV]
  exact bodyPost_ret (v := .agg #[.string x.kind, .int .i64 x.y, .int .i64 x.x, .int .i64 (k : Int), .slice av x.args.length cv]) (by simp [results, Tryz.results88, go_sem, HB9.av 0 rfl, HB9.av 1 rfl, HB9.av 2 rfl, HB9.av 3 rfl, HB9.av 4 rfl]) rfl ⟨_, by rw [Hr.out]; rfl, by rw [Hr.out]; exact HI0.out, hxV⟩
set_option maxRecDepth 100000 in
set_option maxHeartbeats 6400000 in
theorem rruleof_new (a1 a2 a3 : Option Addr) (c1 c2 c3 : Nat) (P : PP) (k : Nat) (x : PS) (hxk : P.stmts[k]? = some x) (w : World) (n0 : Nat) (h : ProgR w n0 (.slice a1 P.vars.length c1) (.slice a2 P.funs.length c2) (.slice a3 P.stmts.length c3) P) (hf1 : P.vars.length ≤ 1000) (hf3 : P.stmts.length ≤ 1000) (hkx : x.isK kNew = true)  :
    Calls Tryz.prog 88 #[pval a1 a2 a3 c1 c2 c3 P, .int .i64 (k : Int)] w fun e w' => ∃ av, e = .returned ((P.ruleR k x).val av) ∧ IntsR w n0 av (P.ruleR k x).args ∧ Ext w w' := by
  have HPl := fun w1 (y : Ext w w1) => hid (rplaceof_any a1 a2 a3 c1 c2 c3 P (k : Int) w1 n0 (h.ext y) hf1 hf3)
  obtain ⟨W1, hW1⟩ : ∃ W1, W1 = w.alloc (.cells (pcells a1 a2 a3 c1 c2 c3 P) 39) := ⟨_, rfl⟩
  have hx1 : Ext w W1 := by rw [hW1]; exact (Ext.refl _).alloc _
  obtain ⟨W2, hW2⟩ : ∃ W2, W2 = W1.alloc (.cells #[.string ⟨#[]⟩, .int .i64 0, .int .i64 0, .int .i64 0, .slice none 0 0] 130) := ⟨_, rfl⟩
  have hx2 : Ext W1 W2 := by rw [hW2]; exact (Ext.refl _).alloc _
  have hk : k < P.stmts.length := by
    rcases Nat.lt_or_ge k P.stmts.length with h | h
    · exact h
    · rw [List.getElem?_eq_none h] at hxk; cases hxk
  have hml := h.stmts.len
  obtain ⟨y, x', av, cv, rfl, hxk', e0, e1, e2, e3, hI⟩ := (h.ext (hx1.trans hx2)).stmts.at hk
  obtain rfl := Option.some.inj (hxk.symm.trans hxk')
  obtain ⟨W3, hW3⟩ : ∃ W3, W3 = W2.alloc (.cells (scells x av cv) 48) := ⟨_, rfl⟩
  have hx3 : Ext W2 W3 := by rw [hW3]; exact (Ext.refl _).alloc _
  obtain ⟨W4, hW4⟩ : ∃ W4, W4 = W3.alloc (.cells #[.string x.kind, .int .i64 x.y, .int .i64 x.x, .int .i64 (k : Int), .slice av x.args.length cv] 130) := ⟨_, rfl⟩
  have hx4 : Ext W3 W4 := by rw [hW4]; exact (Ext.refl _).alloc _
  have s1 : W1.heap.size = w.heap.size + 1 := by rw [hW1, heap_size_alloc]
  have s2 : W2.heap.size = w.heap.size + 1 + 1 := by rw [hW2, heap_size_alloc, s1]
  have s3 : W3.heap.size = w.heap.size + 1 + 1 + 1 := by rw [hW3, heap_size_alloc, s2]
  have HX := hid (((hx1.trans hx2).trans hx3).trans hx4)
  have HB0 : Hid (Blk W4 w.heap.size (pcells a1 a2 (some y) c1 c2 c3 P) 39) := hid (by
    have : Blk W1 w.heap.size (pcells a1 a2 (some y) c1 c2 c3 P) 39 := by rw [hW1]; exact Blk.new _ _ _
    exact this.ext ((hx2.trans hx3).trans hx4))
  have HB1 : Hid (Blk W4 (w.heap.size + 1) #[.string ⟨#[]⟩, .int .i64 0, .int .i64 0, .int .i64 0, .slice none 0 0] 130) := hid (by
    have : Blk W2 (w.heap.size + 1) #[.string ⟨#[]⟩, .int .i64 0, .int .i64 0, .int .i64 0, .slice none 0 0] 130 := by rw [← s1, hW2]; exact Blk.new _ _ _
    exact this.ext (hx3.trans hx4))
  have HB2 : Hid (Blk W4 (w.heap.size + 1 + 1) (scells x av cv) 48) := hid (by
    have : Blk W3 (w.heap.size + 1 + 1) (scells x av cv) 48 := by rw [← s2, hW3]; exact Blk.new _ _ _
    exact this.ext hx4)
  have HB3 : Hid (Blk W4 (w.heap.size + 1 + 1 + 1) #[.string x.kind, .int .i64 x.y, .int .i64 x.x, .int .i64 (k : Int), .slice av x.args.length cv] 130) := hid (by rw [← s3, hW4]; exact Blk.new _ _ _)
  have HI := hid hI
  have HP := hid h
  rw [hW2, hW1] at e0 e1 e2 e3
  unfold pcells at e0 e1 e2 e3
  have HWe : Hid (W4 = (((w.alloc (.cells #[.slice a1 P.vars.length c1, .slice a2 P.funs.length c2, .slice (some y) P.stmts.length c3] 39)).alloc (.cells #[.string ⟨#[]⟩, .int .i64 0, .int .i64 0, .int .i64 0, .slice none 0 0] 130)).alloc (.cells #[.string x.kind, .int .i64 x.x, .int .i64 x.y, .slice av x.args.length cv] 48)).alloc (.cells #[.string x.kind, .int .i64 x.y, .int .i64 x.x, .int .i64 (k : Int), .slice av x.args.length cv] 130)) := hid (by rw [hW4, hW3, hW2, hW1]; rfl)
  have HI0 : Hid (IntsR w n0 (.slice av x.args.length cv) x.args) := hid (by
    obtain ⟨y', x', av', cv', hy', hxk2, f0, f1, f2, f3, hI'⟩ := HP.out.stmts.at hk
    obtain rfl := Option.some.inj hy'
    obtain rfl := Option.some.inj (hxk.symm.trans hxk2)
    have g3 := (hx1.trans hx2).cellx f3
    rw [hW2, hW1] at g3
    unfold pcells at g3
    rw [e3] at g3
    obtain ⟨rfl, rfl⟩ : av = av' ∧ cv = cv' := by simpa using g3
    exact hI')
  clear hW1 hW2 hW3 hW4 hx1 hx2 hx3 hx4 s1 s2 s3 hxk hxk' hI h
  unfold pval
  unfold pval at HPl
  have h1 : (x.kind.toList == [97, 100, 100, 114]) = false := isK_ne hkx (k' := kAddr) rfl
  have hkk := hkx
  unfold PS.isK kNew at hkk
  have Hr : Hid (P.ruleR k x = ⟨bBase, x.x, P.placeV k, k, []⟩) := hid (by unfold PP.ruleR; rw [isK_ne hkx (k' := kAddr) rfl, hkx]; rfl)
  clear hkx
  have x0 := Ext.refl W4
  have m0 := (HB2.out.ext x0).kc (X := fun _ => False) (fun e => e) 0 rfl
  have m1 := (HB2.out.ext x0).kc (X := fun _ => False) (fun e => e) 1 rfl
  have m2 := (HB2.out.ext x0).kc (X := fun _ => False) (fun e => e) 2 rfl
  have m3 := (HB2.out.ext x0).kc (X := fun _ => False) (fun e => e) 3 rfl
  have d0 := (HB0.out.ext x0).kc (X := fun _ => False) (fun e => e) 0 rfl
  have d1 := (HB0.out.ext x0).kc (X := fun _ => False) (fun e => e) 1 rfl
  have d2 := (HB0.out.ext x0).kc (X := fun _ => False) (fun e => e) 2 rfl
  simp only [pcells, scells, List.getElem_toArray, List.getElem_cons_zero, List.getElem_cons_succ] at m0 m1 m2 m3 d0 d1 d2
  clear x0
  go_enter Tryz.func88, Tryz.ntmps88
  go_wp2
  rw [← HWe.out]
  refine wp_flowT (fun _ => False) (by kernel_rfl) (by kernel_rfl) ?_
  repeat (apply FlowT.d; (intro w1 hk; unfold does; go_simp; (try go_ints); (first | exact DetR.mk | (simp only [↓IntWalk.iteOmega, Oper.doesUpon_value]; exact DetR.mk) | (simp only [↓IntWalk.iteOmega]; go_simp; (try go_ints); exact DetR.mk))); simp only [Act.put, List.setIfInBounds_toArray, List.set_cons_zero, List.set_cons_succ])
  apply FlowT.d
  · intro w1 hk
    unfold does
    go_simp
    exact CallR.det ((HPl w1 (HX.out.trans hk.ext)).out)
  simp only [Act.put, List.setIfInBounds_toArray, List.set_cons_zero, List.set_cons_succ]
  repeat (apply FlowT.d; (intro w1 hk; unfold does; go_simp; (try go_ints); (first | exact DetR.mk | (simp only [↓IntWalk.iteOmega, Oper.doesUpon_value]; exact DetR.mk) | (simp only [↓IntWalk.iteOmega]; go_simp; (try go_ints); exact DetR.mk))); simp only [Act.put, List.setIfInBounds_toArray, List.set_cons_zero, List.set_cons_succ])
  refine FlowT.last (fun _ w' => Blk w' (w.heap.size + 1 + 1 + 1) #[.string ⟨#[98, 97, 115, 101]⟩, .int .i64 x.x, .int .i64 (P.placeV k), .int .i64 (k : Int), .slice none 0 0] 130 ∧ Blk w' (w.heap.size + 1) #[.string ⟨#[]⟩, .int .i64 0, .int .i64 0, .int .i64 0, .slice none 0 0] 130 ∧ Ext w w') 7 rfl (by kernel_rfl) (by kernel_rfl) (fun w1 hC hk => ?_) (fun _ w2 hR => ?_)
  · have hB := HB3.out.ext hC
    have c0 := hB.av 0 rfl
    have c1 := hB.av 1 rfl
    have c2 := hB.av 2 rfl
    have c3 := hB.av 3 rfl
    have c4 := hB.av 4 rfl
    have f0 := hB.free
    have hZ := HB1.out.ext hC
    unfold does
    go_simp
    exact ⟨store5 hB, hZ.keep (store5_keep _ _ _ _ _ _ _) (fun e => by omega), Keep.new (HX.out.trans hC) (store5_keep _ _ _ _ _ _ _) (fun b hb => by omega)⟩
  obtain ⟨hB, hZ, hxw⟩ := hR
  simp only [Act.put]
  have Hxw := hid hxw
  have HZ := hid hZ
  have c0 := hB.av 0 rfl
  have c1 := hB.av 1 rfl
  have c2 := hB.av 2 rfl
  have c3 := hB.av 3 rfl
  have c4 := hB.av 4 rfl
  have z0 := hZ.av 0 rfl
  have z1 := hZ.av 1 rfl
  have z2 := hZ.av 2 rfl
  have z3 := hZ.av 3 rfl
  have z4 := hZ.av 4 rfl
  have f0 := hZ.free
  simp only [List.getElem_toArray, List.getElem_cons_zero, List.getElem_cons_succ] at c0 c1 c2 c3 c4 z0 z1 z2 z3 z4
  clear hB hZ hxw m0 m1 m2 m3 d0 d1 d2
  go_wp2
  have h9 := store5 (b0 := .string ⟨#[98, 97, 115, 101]⟩) (b1 := .int .i64 x.x) (b2 := .int .i64 (P.placeV k)) (b3 := .int .i64 (k : Int)) (b4 := .slice none 0 0) HZ.out
  have x9 := Keep.new Hxw.out (store5_keep w2 (w.heap.size + 1) (.string ⟨#[98, 97, 115, 101]⟩) (.int .i64 x.x) (.int .i64 (P.placeV k)) (.int .i64 (k : Int)) (.slice none 0 0)) (fun b hb => by omega)
  exact bodyPost_ret (v := .agg #[.string ⟨#[98, 97, 115, 101]⟩, .int .i64 x.x, .int .i64 (P.placeV k), .int .i64 (k : Int), .slice none 0 0]) (by simp [results, Tryz.results88, go_sem, h9.av 0 rfl, h9.av 1 rfl, h9.av 2 rfl, h9.av 3 rfl, h9.av 4 rfl]) rfl ⟨_, by rw [Hr.out]; rfl, by rw [Hr.out]; exact intsR_nil _ _, x9⟩
set_option maxRecDepth 100000 in
set_option maxHeartbeats 6400000 in
theorem rruleof_fun (a1 a2 a3 : Option Addr) (c1 c2 c3 : Nat) (P : PP) (k : Nat) (x : PS) (hxk : P.stmts[k]? = some x) (w : World) (n0 : Nat) (h : ProgR w n0 (.slice a1 P.vars.length c1) (.slice a2 P.funs.length c2) (.slice a3 P.stmts.length c3) P) (hf1 : P.vars.length ≤ 1000) (hf3 : P.stmts.length ≤ 1000) (hkx : x.isK kFun = true) (hyy : 0 ≤ x.y ∧ x.y ≤ 100000) :
    Calls Tryz.prog 88 #[pval a1 a2 a3 c1 c2 c3 P, .int .i64 (k : Int)] w fun e w' => ∃ av, e = .returned ((P.ruleR k x).val av) ∧ IntsR w n0 av (P.ruleR k x).args ∧ Ext w w' := by
  have HNo := fun w1 (y : Ext w w1) => hid (rnodesof_any a1 a2 a3 c1 c2 c3 P w1 n0 (h.ext y) hf1 hf3)
  have hnl := P.nodesV_le2
  obtain ⟨W1, hW1⟩ : ∃ W1, W1 = w.alloc (.cells (pcells a1 a2 a3 c1 c2 c3 P) 39) := ⟨_, rfl⟩
  have hx1 : Ext w W1 := by rw [hW1]; exact (Ext.refl _).alloc _
  obtain ⟨W2, hW2⟩ : ∃ W2, W2 = W1.alloc (.cells #[.string ⟨#[]⟩, .int .i64 0, .int .i64 0, .int .i64 0, .slice none 0 0] 130) := ⟨_, rfl⟩
  have hx2 : Ext W1 W2 := by rw [hW2]; exact (Ext.refl _).alloc _
  have hk : k < P.stmts.length := by
    rcases Nat.lt_or_ge k P.stmts.length with h | h
    · exact h
    · rw [List.getElem?_eq_none h] at hxk; cases hxk
  have hml := h.stmts.len
  obtain ⟨y, x', av, cv, rfl, hxk', e0, e1, e2, e3, hI⟩ := (h.ext (hx1.trans hx2)).stmts.at hk
  obtain rfl := Option.some.inj (hxk.symm.trans hxk')
  obtain ⟨W3, hW3⟩ : ∃ W3, W3 = W2.alloc (.cells (scells x av cv) 48) := ⟨_, rfl⟩
  have hx3 : Ext W2 W3 := by rw [hW3]; exact (Ext.refl _).alloc _
  obtain ⟨W4, hW4⟩ : ∃ W4, W4 = W3.alloc (.cells #[.string x.kind, .int .i64 x.y, .int .i64 x.x, .int .i64 (k : Int), .slice av x.args.length cv] 130) := ⟨_, rfl⟩
  have hx4 : Ext W3 W4 := by rw [hW4]; exact (Ext.refl _).alloc _
  have s1 : W1.heap.size = w.heap.size + 1 := by rw [hW1, heap_size_alloc]
  have s2 : W2.heap.size = w.heap.size + 1 + 1 := by rw [hW2, heap_size_alloc, s1]
  have s3 : W3.heap.size = w.heap.size + 1 + 1 + 1 := by rw [hW3, heap_size_alloc, s2]
  have HX := hid (((hx1.trans hx2).trans hx3).trans hx4)
  have HB0 : Hid (Blk W4 w.heap.size (pcells a1 a2 (some y) c1 c2 c3 P) 39) := hid (by
    have : Blk W1 w.heap.size (pcells a1 a2 (some y) c1 c2 c3 P) 39 := by rw [hW1]; exact Blk.new _ _ _
    exact this.ext ((hx2.trans hx3).trans hx4))
  have HB1 : Hid (Blk W4 (w.heap.size + 1) #[.string ⟨#[]⟩, .int .i64 0, .int .i64 0, .int .i64 0, .slice none 0 0] 130) := hid (by
    have : Blk W2 (w.heap.size + 1) #[.string ⟨#[]⟩, .int .i64 0, .int .i64 0, .int .i64 0, .slice none 0 0] 130 := by rw [← s1, hW2]; exact Blk.new _ _ _
    exact this.ext (hx3.trans hx4))
  have HB2 : Hid (Blk W4 (w.heap.size + 1 + 1) (scells x av cv) 48) := hid (by
    have : Blk W3 (w.heap.size + 1 + 1) (scells x av cv) 48 := by rw [← s2, hW3]; exact Blk.new _ _ _
    exact this.ext hx4)
  have HB3 : Hid (Blk W4 (w.heap.size + 1 + 1 + 1) #[.string x.kind, .int .i64 x.y, .int .i64 x.x, .int .i64 (k : Int), .slice av x.args.length cv] 130) := hid (by rw [← s3, hW4]; exact Blk.new _ _ _)
  have HI := hid hI
  have HP := hid h
  rw [hW2, hW1] at e0 e1 e2 e3
  unfold pcells at e0 e1 e2 e3
  have HWe : Hid (W4 = (((w.alloc (.cells #[.slice a1 P.vars.length c1, .slice a2 P.funs.length c2, .slice (some y) P.stmts.length c3] 39)).alloc (.cells #[.string ⟨#[]⟩, .int .i64 0, .int .i64 0, .int .i64 0, .slice none 0 0] 130)).alloc (.cells #[.string x.kind, .int .i64 x.x, .int .i64 x.y, .slice av x.args.length cv] 48)).alloc (.cells #[.string x.kind, .int .i64 x.y, .int .i64 x.x, .int .i64 (k : Int), .slice av x.args.length cv] 130)) := hid (by rw [hW4, hW3, hW2, hW1]; rfl)
  have HI0 : Hid (IntsR w n0 (.slice av x.args.length cv) x.args) := hid (by
    obtain ⟨y', x', av', cv', hy', hxk2, f0, f1, f2, f3, hI'⟩ := HP.out.stmts.at hk
    obtain rfl := Option.some.inj hy'
    obtain rfl := Option.some.inj (hxk.symm.trans hxk2)
    have g3 := (hx1.trans hx2).cellx f3
    rw [hW2, hW1] at g3
    unfold pcells at g3
    rw [e3] at g3
    obtain ⟨rfl, rfl⟩ : av = av' ∧ cv = cv' := by simpa using g3
    exact hI')
  clear hW1 hW2 hW3 hW4 hx1 hx2 hx3 hx4 s1 s2 s3 hxk hxk' hI h
  unfold pval
  unfold pval at HNo
  have h1 : (x.kind.toList == [97, 100, 100, 114]) = false := isK_ne hkx (k' := kAddr) rfl
  have h5 : (x.kind.toList == [110, 101, 119]) = false := isK_ne hkx (k' := kNew) rfl
  have hkk := hkx
  unfold PS.isK kFun at hkk
  obtain ⟨N, hN⟩ : ∃ N, N = P.nodesV := ⟨_, rfl⟩
  have Hr : Hid (P.ruleR k x = ⟨bBase, x.x, (N : Int) + x.y, k, []⟩) := hid (by unfold PP.ruleR; rw [isK_ne hkx (k' := kAddr) rfl, isK_ne hkx (k' := kNew) rfl, hkx, hN]; rfl)
  rw [← hN] at HNo hnl
  obtain ⟨hg1, hg2⟩ := hyy
  clear hkx hN
  have x0 := Ext.refl W4
  have m0 := (HB2.out.ext x0).kc (X := fun _ => False) (fun e => e) 0 rfl
  have m1 := (HB2.out.ext x0).kc (X := fun _ => False) (fun e => e) 1 rfl
  have m2 := (HB2.out.ext x0).kc (X := fun _ => False) (fun e => e) 2 rfl
  have m3 := (HB2.out.ext x0).kc (X := fun _ => False) (fun e => e) 3 rfl
  have d0 := (HB0.out.ext x0).kc (X := fun _ => False) (fun e => e) 0 rfl
  have d1 := (HB0.out.ext x0).kc (X := fun _ => False) (fun e => e) 1 rfl
  have d2 := (HB0.out.ext x0).kc (X := fun _ => False) (fun e => e) 2 rfl
  simp only [pcells, scells, List.getElem_toArray, List.getElem_cons_zero, List.getElem_cons_succ] at m0 m1 m2 m3 d0 d1 d2
  clear x0
  go_enter Tryz.func88, Tryz.ntmps88
  go_wp2
  rw [← HWe.out]
  refine wp_flowT (fun _ => False) (by kernel_rfl) (by kernel_rfl) ?_
  repeat (apply FlowT.d; (intro w1 hk; unfold does; go_simp; (try go_ints); (first | exact DetR.mk | (simp only [↓IntWalk.iteOmega, Oper.doesUpon_value]; exact DetR.mk) | (simp only [↓IntWalk.iteOmega]; go_simp; (try go_ints); exact DetR.mk))); simp only [Act.put, List.setIfInBounds_toArray, List.set_cons_zero, List.set_cons_succ])
  apply FlowT.d
  · intro w1 hk
    unfold does
    go_simp
    exact CallR.det ((HNo w1 (HX.out.trans hk.ext)).out)
  simp only [Act.put, List.setIfInBounds_toArray, List.set_cons_zero, List.set_cons_succ]
  repeat (apply FlowT.d; (intro w1 hk; unfold does; go_simp; (try go_ints); (first | exact DetR.mk | (simp only [↓IntWalk.iteOmega, Oper.doesUpon_value]; exact DetR.mk) | (simp only [↓IntWalk.iteOmega]; go_simp; (try go_ints); exact DetR.mk))); simp only [Act.put, List.setIfInBounds_toArray, List.set_cons_zero, List.set_cons_succ])
  refine FlowT.last (fun _ w' => Blk w' (w.heap.size + 1 + 1 + 1) #[.string ⟨#[98, 97, 115, 101]⟩, .int .i64 x.x, .int .i64 ((N : Int) + x.y), .int .i64 (k : Int), .slice none 0 0] 130 ∧ Blk w' (w.heap.size + 1) #[.string ⟨#[]⟩, .int .i64 0, .int .i64 0, .int .i64 0, .slice none 0 0] 130 ∧ Ext w w') 9 rfl (by kernel_rfl) (by kernel_rfl) (fun w1 hC hk => ?_) (fun _ w2 hR => ?_)
  · have hB := HB3.out.ext hC
    have c0 := hB.av 0 rfl
    have c1 := hB.av 1 rfl
    have c2 := hB.av 2 rfl
    have c3 := hB.av 3 rfl
    have c4 := hB.av 4 rfl
    have f0 := hB.free
    have hZ := HB1.out.ext hC
    unfold does
    go_simp
    exact ⟨store5 hB, hZ.keep (store5_keep _ _ _ _ _ _ _) (fun e => by omega), Keep.new (HX.out.trans hC) (store5_keep _ _ _ _ _ _ _) (fun b hb => by omega)⟩
  obtain ⟨hB, hZ, hxw⟩ := hR
  simp only [Act.put]
  have Hxw := hid hxw
  have HZ := hid hZ
  have c0 := hB.av 0 rfl
  have c1 := hB.av 1 rfl
  have c2 := hB.av 2 rfl
  have c3 := hB.av 3 rfl
  have c4 := hB.av 4 rfl
  have z0 := hZ.av 0 rfl
  have z1 := hZ.av 1 rfl
  have z2 := hZ.av 2 rfl
  have z3 := hZ.av 3 rfl
  have z4 := hZ.av 4 rfl
  have f0 := hZ.free
  simp only [List.getElem_toArray, List.getElem_cons_zero, List.getElem_cons_succ] at c0 c1 c2 c3 c4 z0 z1 z2 z3 z4
  clear hB hZ hxw m0 m1 m2 m3 d0 d1 d2
  go_wp2
  have h9 := store5 (b0 := .string ⟨#[98, 97, 115, 101]⟩) (b1 := .int .i64 x.x) (b2 := .int .i64 ((N : Int) + x.y)) (b3 := .int .i64 (k : Int)) (b4 := .slice none 0 0) HZ.out
  have x9 := Keep.new Hxw.out (store5_keep w2 (w.heap.size + 1) (.string ⟨#[98, 97, 115, 101]⟩) (.int .i64 x.x) (.int .i64 ((N : Int) + x.y)) (.int .i64 (k : Int)) (.slice none 0 0)) (fun b hb => by omega)
  exact bodyPost_ret (v := .agg #[.string ⟨#[98, 97, 115, 101]⟩, .int .i64 x.x, .int .i64 ((N : Int) + x.y), .int .i64 (k : Int), .slice none 0 0]) (by simp [results, Tryz.results88, go_sem, h9.av 0 rfl, h9.av 1 rfl, h9.av 2 rfl, h9.av 3 rfl, h9.av 4 rfl]) rfl ⟨_, by rw [Hr.out]; rfl, by rw [Hr.out]; exact intsR_nil _ _, x9⟩
/-- The rule of any statement of a well program. -/
theorem rruleof_any (a1 a2 a3 : Option Addr) (c1 c2 c3 : Nat) (P : PP) (k : Nat) (x : PS) (hxk : P.stmts[k]? = some x) (w : World) (n0 : Nat) (h : ProgR w n0 (.slice a1 P.vars.length c1) (.slice a2 P.funs.length c2) (.slice a3 P.stmts.length c3) P) (hw : P.Well) :
    Calls Tryz.prog 88 #[pval a1 a2 a3 c1 c2 c3 P, .int .i64 (k : Int)] w fun e w' => ∃ av, e = .returned ((P.ruleR k x).val av) ∧ IntsR w n0 av (P.ruleR k x).args ∧ Ext w w' := by
  have hk : k < P.stmts.length := by
    rcases Nat.lt_or_ge k P.stmts.length with h | h
    · exact h
    · rw [List.getElem?_eq_none h] at hxk; cases hxk
  have h0 := hw.2 k x hk hxk
  have hg := PP.good h0
  obtain ⟨f1, f2, f3⟩ := hw.few
  cases h1 : x.isK kAddr with
  | true =>
    have hy := hg.yv (isK_ne h1 (k' := kFun) rfl) (isK_ne h1 (k' := kNew) rfl)
    exact rruleof_addr a1 a2 a3 c1 c2 c3 P k x hxk w n0 h (by omega) (by omega) h1
  | false =>
    cases h2 : x.isK kNew with
    | true => exact rruleof_new a1 a2 a3 c1 c2 c3 P k x hxk w n0 h (by omega) (by omega) h2
    | false =>
      cases h3 : x.isK kFun with
      | true =>
        have hy := hg.yf h3
        exact rruleof_fun a1 a2 a3 c1 c2 c3 P k x hxk w n0 h (by omega) (by omega) h3 (by omega)
      | false => exact rruleof_rest a1 a2 a3 c1 c2 c3 P k x hxk w n0 h (by omega) (by omega) ⟨h1, h2, h3⟩
end Go.Proofs.YtoaoienfggjepaaGreatDoor



/- The reference: rules that make edges; does any of them make an edge (IsEdge). -/
namespace Go.Proofs.YtoaoienfggjepaaGreatDoor
set_option linter.unusedSimpArgs false
set_option linter.unusedVariables false
open Go Go.RowKit

theorem isE_congr {P : PP} {r s : RV} (h1 : r.kind.toList = s.kind.toList) (h2 : r.a = s.a) (h3 : r.b = s.b) (h4 : r.args = s.args) (has : List (List Int)) (a b : Int) : P.isE r has a b = P.isE s has a b := by
  unfold PP.isE fEdge
  rw [h1, h2, h3, h4]
/-- Rules as the reference tells them; those that make edges. -/
def PP.rulesRUp (P : PP) (n : Nat) : List RV := ((List.range n).map fun k => P.ruleR k (P.stAt k)).filter fun r => !(r.kind.toList == bBase.toList)
theorem rulesRUp_succ (P : PP) (n : Nat) : P.rulesRUp (n + 1) = P.rulesRUp n ++ (if (P.ruleR n (P.stAt n)).kind.toList == bBase.toList then [] else [P.ruleR n (P.stAt n)]) := by
  unfold PP.rulesRUp
  rw [List.range_succ, List.map_append, List.filter_append]
  congr 1
  simp only [List.map_cons, List.map_nil, List.filter_cons, List.filter_nil]
  cases (P.ruleR n (P.stAt n)).kind.toList == bBase.toList <;> rfl
theorem rulesRUp_len (P : PP) (n : Nat) : (P.rulesRUp n).length ≤ n := by
  unfold PP.rulesRUp
  have := List.length_filter_le (fun r : RV => !(r.kind.toList == bBase.toList)) ((List.range n).map fun k => P.ruleR k (P.stAt k))
  rwa [List.length_map, List.length_range] at this
theorem any_rules {P : PP} (hw : P.Well) (has : List (List Int)) (a b : Int) : (P.rulesRUp P.stmts.length).any (fun r => P.isE r has a b) = P.rulesE.any fun r => P.isE r has a b := by
  unfold PP.rulesRUp PP.rulesE PP.rulesV PP.rulesUp
  rw [List.any_filter, List.any_filter, List.any_map, List.any_map]
  rw [Bool.eq_iff_iff, List.any_eq_true, List.any_eq_true]
  have c : ∀ k, k ∈ List.range P.stmts.length → (((fun r : RV => !(r.kind.toList == bBase.toList) && P.isE r has a b) ∘ fun k => P.ruleR k (P.stAt k)) k = ((fun r : RV => !(r.kind.toList == bBase.toList) && P.isE r has a b) ∘ fun k => P.ruleV k (P.stAt k)) k) := fun k hk => by
    have hk := List.mem_range.1 hk
    obtain ⟨h1, h2, h3, _, _, h4⟩ := rule_same (hw.2 k (P.stAt k) hk (stAt_some hk)) k
    simp only [Function.comp_apply]
    rw [isE_congr h1 h2 h3 h4, h1]
  exact ⟨fun ⟨k, hk, h⟩ => ⟨k, hk, by rw [← c k hk]; exact h⟩, fun ⟨k, hk, h⟩ => ⟨k, hk, by rw [c k hk]; exact h⟩⟩
/-- A rule that makes edges, among so many nodes. -/
structure REdge (n : Nat) (r : RV) : Prop where
  kd : (r.kind.toList == kCopy) = true ∨ (r.kind.toList == kLoad) = true ∨ (r.kind.toList == kStore) = true ∨ (r.kind.toList == kCall) = true
  a : 0 ≤ r.a ∧ r.a < n
  b : 0 ≤ r.b ∧ r.b < n
theorem ruleR_edge {P : PP} (hw : P.Well) {k : Nat} (hk : k < P.stmts.length) (hb : ((P.ruleR k (P.stAt k)).kind.toList == bBase.toList) = false) : REdge P.nodesV (P.ruleR k (P.stAt k)) := by
  have h0 := hw.2 k (P.stAt k) hk (stAt_some hk)
  have hg := PP.good h0
  have hnv := nodes_vars P
  obtain ⟨x, hx⟩ : ∃ x, x = P.stAt k := ⟨_, rfl⟩
  rw [← hx] at h0 hg hb ⊢
  have hgx := hg.gx
  have base : ∀ r : RV, r.kind = bBase → (r.kind.toList == bBase.toList) = true := fun r h => by rw [h]; exact beq_self_eq_true _
  have go : ∀ (g3 : x.isK kFun = false) (g2 : x.isK kNew = false) (g1 : x.isK kAddr = false), (x.isK kCopy = true ∨ x.isK kLoad = true ∨ x.isK kStore = true ∨ x.isK kCall = true) → REdge P.nodesV (P.ruleR k x) := fun g3 g2 g1 g => by
    have e : P.ruleR k x = ⟨x.kind, x.y, x.x, k, x.args⟩ := by unfold PP.ruleR; rw [g1, g2, g3]; rfl
    have hy := hg.yv g3 g2
    rw [e]
    exact ⟨g, by show 0 ≤ x.y ∧ x.y < (P.nodesV : Int); omega, by show 0 ≤ x.x ∧ x.x < (P.nodesV : Int); omega⟩
  rcases kind_cases h0 with g | g | g | g | g | g | g
  · rw [base _ (by unfold PP.ruleR; rw [g]; rfl)] at hb; cases hb
  · exact go (isK_ne g (k' := kFun) rfl) (isK_ne g (k' := kNew) rfl) (isK_ne g (k' := kAddr) rfl) (.inl g)
  · exact go (isK_ne g (k' := kFun) rfl) (isK_ne g (k' := kNew) rfl) (isK_ne g (k' := kAddr) rfl) (.inr (.inl g))
  · exact go (isK_ne g (k' := kFun) rfl) (isK_ne g (k' := kNew) rfl) (isK_ne g (k' := kAddr) rfl) (.inr (.inr (.inl g)))
  · rw [base _ (by unfold PP.ruleR; rw [isK_ne g (k' := kAddr) rfl, g]; rfl)] at hb; cases hb
  · rw [base _ (by unfold PP.ruleR; rw [isK_ne g (k' := kAddr) rfl, isK_ne g (k' := kNew) rfl, g]; rfl)] at hb; cases hb
  · exact go (isK_ne g (k' := kFun) rfl) (isK_ne g (k' := kNew) rfl) (isK_ne g (k' := kAddr) rfl) (.inr (.inr (.inr g)))
theorem rulesRUp_edge {P : PP} (hw : P.Well) {n : Nat} (hn : n ≤ P.stmts.length) : ∀ r ∈ P.rulesRUp n, REdge P.nodesV r := by
  intro r hr
  unfold PP.rulesRUp at hr
  obtain ⟨h1, h2⟩ := List.mem_filter.1 hr
  obtain ⟨k, hk, rfl⟩ := List.mem_map.1 h1
  have hk := List.mem_range.1 hk
  exact ruleR_edge hw (by omega) (by simpa using h2)
theorem risedge_any (a1 a2 a3 : Option Addr) (c1 c2 c3 : Nat) (P : PP) (r : RV) (av hv : Value) (has : List (List Int)) (p q : Int) (w : World) (n0 : Nat) (h : ProgR w n0 (.slice a1 P.vars.length c1) (.slice a2 P.funs.length c2) (.slice a3 P.stmts.length c3) P) (hf1 : P.vars.length ≤ 1000) (hf3 : P.stmts.length ≤ 1000) (hf2 : P.funs.length ≤ 1000) (ha : IntsR w n0 av r.args) (hh : SetsR w n0 hv has) (hr : REdge has.length r) :
    Calls Tryz.prog 129 #[pval a1 a2 a3 c1 c2 c3 P, r.val av, hv, .int .i64 p, .int .i64 q] w fun e w' => e = .returned (.bool (P.isE r has p q)) ∧ Ext w w' := by
  rcases hr.kd with g | g | g | g
  · exact risedge_copy a1 a2 a3 c1 c2 c3 P r av hv has p q w n0 h hf1 hf3 ha hh g
  · exact risedge_load a1 a2 a3 c1 c2 c3 P r av hv has p q w n0 h hf1 hf3 ha hh g hr.a
  · exact risedge_store a1 a2 a3 c1 c2 c3 P r av hv has p q w n0 h hf1 hf3 ha hh g hr.b
  · exact risedge_call a1 a2 a3 c1 c2 c3 P r av hv has p q w n0 h hf1 hf3 ha hh g hr.a hf2
/-- Rows of edges that the reference makes. -/
def RERow (base : Nat) (w : World) (v : Value) (l : List (Int × Int)) : Prop := w.ownsRow base 134 2 v l.length (l.flatMap eCells)
theorem redge_info : (Tryz.prog.info? 134).map (fun i => (i.zero, i.size, i.bytes)) = some (some (.agg #[.int .i64 0, .int .i64 0]), 2, 16) := by kernel_rfl
theorem rrule_info : (Tryz.prog.info? 130).map (fun i => (i.zero, i.size, i.bytes)) = some (some (.agg #[.string ⟨#[]⟩, .int .i64 0, .int .i64 0, .int .i64 0, .slice none 0 0]), 5, 64) := by kernel_rfl
theorem own_rr {w : World} {base g n cap : Nat} {t : TypeId} {rs : List R2} (h : w.ownsRow base t 5 (.slice (some ⟨g, 0, none⟩) n cap) n (rs.flatMap R2.cells)) {i : Nat} {x : R2} (hx : rs[i]? = some x) :
    w.cell? ⟨g, i * 5, none⟩ = some (.string x.r.kind) ∧ w.cell? ⟨g, i * 5 + 1, none⟩ = some (.int .i64 x.r.a) ∧ w.cell? ⟨g, i * 5 + 2, none⟩ = some (.int .i64 x.r.b) ∧ w.cell? ⟨g, i * 5 + 3, none⟩ = some (.int .i64 x.r.k) ∧ w.cell? ⟨g, i * 5 + 4, none⟩ = some x.v := by
  have c : ∀ j v, x.cells[j]? = some v → j < 5 → w.cell? ⟨g, i * 5 + j, none⟩ = some v := fun j v hv hj => own_get h _ ((fm_get R2.cells 5 R2.cells_len rs i j x hx hj).trans hv)
  exact ⟨c 0 _ rfl (by omega), c 1 _ rfl (by omega), c 2 _ rfl (by omega), c 3 _ rfl (by omega), c 4 _ rfl (by omega)⟩
theorem rowE_succ (P : PP) (has : List (List Int)) (a n : Nat) : P.rowE has a (n + 1) = P.rowE has a n ++ (if P.edgeB has a n then [((a : Int), (n : Int))] else []) := by
  unfold PP.rowE
  rw [List.range_succ, List.filter_append, List.map_append]
  congr 1
  simp only [List.filter_cons, List.filter_nil]
  cases P.edgeB has a n <;> rfl
theorem refE_succ (P : PP) (has : List (List Int)) (n : Nat) : P.refE has (n + 1) = P.refE has n ++ P.rowE has n P.nodesV := by
  unfold PP.refE
  rw [List.range_succ, List.flatMap_append]
  simp
theorem rowE_len (P : PP) (has : List (List Int)) (a n : Nat) : (P.rowE has a n).length ≤ n := by
  unfold PP.rowE
  rw [List.length_map]
  have := List.length_filter_le (fun b : Nat => P.edgeB has (a : Int) (b : Int)) (List.range n)
  rwa [List.length_range] at this
theorem refE_len {P : PP} (hw : P.Well) (has : List (List Int)) {n : Nat} (hn : n ≤ P.nodesV) : (P.refE has n).length ≤ 14400 := by
  have hN := nodesV_le P hw
  have h1 := flatMap_len (fun a => P.rowE has a P.nodesV) 120 (List.range n) fun a _ => Nat.le_trans (rowE_len P has a _) hN
  rw [List.length_range] at h1
  unfold PP.refE
  have : n * 120 ≤ 120 * 120 := Nat.mul_le_mul_right _ (by omega)
  omega
theorem any_take_succ {α : Type} {l : List α} {k : Nat} {x : α} (h : l[k]? = some x) (g : α → Bool) : (l.take (k + 1)).any g = ((l.take k).any g || g x) := by
  rw [List.take_add_one, h, List.any_append]
  simp
end Go.Proofs.YtoaoienfggjepaaGreatDoor

