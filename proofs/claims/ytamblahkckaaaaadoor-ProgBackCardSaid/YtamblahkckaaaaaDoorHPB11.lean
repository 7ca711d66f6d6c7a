/- Texts of one proof, put together: YT Z4 Z5 X3 ZZZR ZZZS ZZZT SN. -/
import Derived.Test.YtamblahkckaaaaaDoorHPB06
import Derived.Test.YtamblahkckaaaaaDoorHPB07
import Derived.Test.YtamblahkckaaaaaDoorHPB08
import Derived.Test.YtamblahkckaaaaaDoorHPB10
import Derived.Shelf.Strings.Builder1
import Derived.Shelf.Strings.Builder2
import Derived.Shelf.Strings.OnBuilder
import Derived.Shelf.Strings.Trim
import Derived.Shelf.Small.Utf8
import Derived.Shelf.Small.Strs
import Derived.Shelf.Small.Wraps
import Derived.Shelf.Strings.BuilderF
import Derived.Shelf.Strings.BuilderK
import Derived.Shelf.Utf8.RuneCount
import Derived.Shelf.Strings.Search1
import Derived.Shelf.Strings.Search2
import Derived.Shelf.Strings.Search3
import Derived.Shelf.Strings.Cut
import Derived.Shelf.Strings.Count
import Derived.Shelf.LaysM
import Derived.Shelf.Strings.Shaped
import Derived.Shelf.Strings.Prefix
import Derived.Shelf.Strings.Split
import Derived.Shelf.Unicode.Decode
import Derived.Shelf.Strings.Runes
import Derived.Shelf.Strings.RuneCount
import Derived.Shelf.Strings.AsciiSet
import Derived.Shelf.Strings.Explode
import Derived.Shelf.Unicode.DecodeSlow
import Derived.Shelf.Unicode.DecodeAny
import Derived.Shelf.Unicode.DecodeLast
import Derived.Shelf.Slices.Clone
import Derived.Shelf.SlicesE.Clone
import Derived.Test.YtamblahkckaaaaaDoorProg
import Derived.Test.YtamblahkckaaaaaDoorHPB01
set_option linter.unusedSimpArgs false
set_option linter.unusedVariables false
namespace Go.Proofs.YtamblahkckaaaaaDoor
open Go Go.RowKit
def fEdge (f : PF) (r : RV) (a b : Int) : Bool := decide (f.params.length = r.args.length) && ((decide (a = f.ret) && decide (b = r.b)) || (List.range f.params.length).any fun i => decide (a = r.args.getD i 0) && decide (b = f.params.getD i 0))
def PP.isE (P : PP) (r : RV) (has : List (List Int)) (a b : Int) : Bool :=
  bif r.kind.toList == kCopy then decide (a = r.a) && decide (b = r.b) else
  bif r.kind.toList == kLoad then decide (b = r.b) && (decide (a < (P.nodesV : Int)) && decide (a ∈ has.getD r.a.toNat [])) else
  bif r.kind.toList == kStore then decide (a = r.a) && (decide (b < (P.nodesV : Int)) && decide (b ∈ has.getD r.b.toNat [])) else
  bif r.kind.toList == kCall then (List.range P.funs.length).any fun f => decide ((P.nodesV : Int) + f ∈ has.getD r.a.toNat []) && fEdge (P.funs.getD f ⟨⟨#[]⟩, [], 0⟩) r a b else false
theorem fEdge_iff (f : PF) (r : RV) (a b : Int) : fEdge f r a b = true ↔ (a, b) ∈ calledV f r := by
  unfold fEdge calledV
  by_cases hl : f.params.length = r.args.length
  · rw [decide_eq_true hl, Bool.true_and, if_pos hl, List.mem_cons, Bool.or_eq_true, Bool.and_eq_true, decide_eq_true_iff, decide_eq_true_iff, Prod.mk.injEq]
    refine or_congr Iff.rfl ?_
    rw [List.any_eq_true]
    constructor
    · rintro ⟨i, hi, h⟩
      have hi := List.mem_range.1 hi
      rw [Bool.and_eq_true, decide_eq_true_iff, decide_eq_true_iff] at h
      refine List.mem_iff_getElem?.2 ⟨i, List.getElem?_zip_eq_some.2 ⟨?_, ?_⟩⟩
      · rw [h.1, List.getD_eq_getElem?_getD, List.getElem?_eq_getElem (show i < r.args.length by omega)]; rfl
      · rw [h.2, List.getD_eq_getElem?_getD, List.getElem?_eq_getElem hi]; rfl
    · intro h
      obtain ⟨i, hi⟩ := List.mem_iff_getElem?.1 h
      obtain ⟨h1, h2⟩ := List.getElem?_zip_eq_some.1 hi
      have hil : i < f.params.length := by
        rcases Nat.lt_or_ge i f.params.length with g | g
        · exact g
        · rw [List.getElem?_eq_none g] at h2; cases h2
      refine ⟨i, List.mem_range.2 hil, ?_⟩
      rw [List.getD_eq_getElem?_getD, List.getD_eq_getElem?_getD, h1, h2]
      simp
  · rw [decide_eq_false hl, Bool.false_and, if_neg hl]
    simp
theorem isE_iff {P : PP} (r : RV) (has : List (List Int)) (a b : Int) : P.isE r has a b = true ↔ (a, b) ∈ P.redges r has := by
  unfold PP.isE PP.redges
  cases r.kind.toList == kCopy
  · cases r.kind.toList == kLoad
    · cases r.kind.toList == kStore
      · cases r.kind.toList == kCall
        · simp
        · simp only [cond_true, cond_false]
          rw [List.any_eq_true, List.mem_flatMap]
          constructor
          · rintro ⟨f, hf, h⟩
            have hf := List.mem_range.1 hf
            rw [Bool.and_eq_true, decide_eq_true_iff, fEdge_iff] at h
            refine ⟨_, h.1, ?_⟩
            unfold PP.callsOf
            have e : P.funV ((P.nodesV : Int) + f) = (f : Int) := by unfold PP.funV; rw [if_pos (by omega)]; omega
            rw [e, if_pos (by omega)]
            exact h.2
          · rintro ⟨o, ho, h⟩
            unfold PP.callsOf at h
            by_cases hF : 0 ≤ P.funV o
            · rw [if_pos hF] at h
              have hlt := funV_lt hF
              refine ⟨(P.funV o).toNat, List.mem_range.2 (by omega), ?_⟩
              rw [Bool.and_eq_true, decide_eq_true_iff, fEdge_iff]
              refine ⟨?_, h⟩
              have e : (P.nodesV : Int) + ((P.funV o).toNat : Nat) = o := by
                rw [Int.toNat_of_nonneg hF]
                unfold PP.funV at hF ⊢
                by_cases hc : 0 ≤ o - (P.nodesV : Int) ∧ o - (P.nodesV : Int) < P.funs.length
                · rw [if_pos hc]; omega
                · rw [if_neg hc] at hF; omega
              rw [e]
              exact ho
            · rw [if_neg hF] at h
              cases h
      · simp only [cond_true, cond_false]
        rw [List.mem_map]
        constructor
        · intro h
          simp only [Bool.and_eq_true, decide_eq_true_iff] at h
          refine ⟨b, ?_, by rw [h.1]⟩
          unfold PP.nodesOf
          exact List.mem_filter.2 ⟨h.2.2, by simp; exact h.2.1⟩
        · rintro ⟨o, ho, h⟩
          unfold PP.nodesOf at ho
          obtain ⟨h1, h2⟩ := List.mem_filter.1 ho
          simp only [Prod.mk.injEq] at h
          obtain ⟨rfl, rfl⟩ := h
          simp at h2
          exact Bool.and_eq_true_iff.2 ⟨decide_eq_true rfl, Bool.and_eq_true_iff.2 ⟨decide_eq_true h2, decide_eq_true h1⟩⟩
    · simp only [cond_true, cond_false]
      rw [List.mem_map]
      constructor
      · intro h
        simp only [Bool.and_eq_true, decide_eq_true_iff] at h
        refine ⟨a, ?_, by rw [h.1]⟩
        unfold PP.nodesOf
        exact List.mem_filter.2 ⟨h.2.2, by simp; exact h.2.1⟩
      · rintro ⟨o, ho, h⟩
        unfold PP.nodesOf at ho
        obtain ⟨h1, h2⟩ := List.mem_filter.1 ho
        simp only [Prod.mk.injEq] at h
        obtain ⟨rfl, rfl⟩ := h
        simp at h2
        exact Bool.and_eq_true_iff.2 ⟨decide_eq_true rfl, Bool.and_eq_true_iff.2 ⟨decide_eq_true h2, decide_eq_true h1⟩⟩
  · simp only [cond_true, List.mem_singleton, Prod.mk.injEq, Bool.and_eq_true, decide_eq_true_iff]
def PP.rulesE (P : PP) : List RV := P.rulesV.filter fun r => !(r.kind.toList == bBase.toList)
def PP.edgeB (P : PP) (has : List (List Int)) (a b : Int) : Bool := decide (a ≠ b) && P.rulesE.any fun r => P.isE r has a b
theorem edgeB_iff {P : PP} {has : List (List Int)} {a b : Int} : P.edgeB has a b = true ↔ (a, b) ∈ P.edges0 has ∧ a ≠ b := by
  unfold PP.edgeB PP.rulesE PP.edges0
  rw [Bool.and_eq_true, decide_eq_true_iff, List.any_eq_true, List.mem_flatMap, and_comm]
  refine and_congr ⟨fun ⟨r, hr, h⟩ => ⟨r, (List.mem_filter.1 hr).1, (isE_iff r has a b).1 h⟩, fun ⟨r, hr, h⟩ => ⟨r, List.mem_filter.2 ⟨hr, ?_⟩, (isE_iff r has a b).2 h⟩⟩ Iff.rfl
  cases hb : r.kind.toList == bBase.toList with
  | false => rfl
  | true =>
    have e := eq_of_beq hb
    have hn : P.redges r has = [] := by
      have e2 := eq_of_beq bBase_list
      unfold PP.redges kCopy kLoad kStore kCall
      rw [e, e2]; rfl
    rw [hn] at h
    cases h
def PP.rowE (P : PP) (has : List (List Int)) (a n : Nat) : List (Int × Int) := ((List.range n).filter fun b : Nat => P.edgeB has (a : Int) (b : Int)).map fun b : Nat => ((a : Int), (b : Int))
def PP.refE (P : PP) (has : List (List Int)) (n : Nat) : List (Int × Int) := (List.range n).flatMap fun a => P.rowE has a P.nodesV
theorem mem_rowE {P : PP} {has : List (List Int)} {a n : Nat} {e : Int × Int} : e ∈ P.rowE has a n ↔ ∃ b : Nat, b < n ∧ e = ((a : Int), (b : Int)) ∧ P.edgeB has a b = true := by
  unfold PP.rowE
  rw [List.mem_map]
  constructor
  · rintro ⟨b, hb, rfl⟩
    obtain ⟨h1, h2⟩ := List.mem_filter.1 hb
    exact ⟨b, List.mem_range.1 h1, rfl, h2⟩
  · rintro ⟨b, hb, rfl, h⟩
    exact ⟨b, List.mem_filter.2 ⟨List.mem_range.2 hb, h⟩, rfl⟩
theorem rowE_srt (P : PP) (has : List (List Int)) (a n : Nat) : SrtP (P.rowE has a n) := by
  unfold PP.rowE SrtP
  rw [List.pairwise_map]
  refine List.Pairwise.imp (R := (· < ·)) (fun h => .inr ⟨rfl, by simp only; omega⟩) ?_
  exact List.Pairwise.sublist List.filter_sublist List.pairwise_lt_range
theorem refE_srt (P : PP) (has : List (List Int)) : ∀ n, SrtP (P.refE has n)
  | 0 => List.Pairwise.nil
  | n + 1 => by
    unfold PP.refE
    rw [List.range_succ, List.flatMap_append]
    refine List.pairwise_append.2 ⟨refE_srt P has n, by simpa using rowE_srt P has n P.nodesV, fun x hx y hy => ?_⟩
    obtain ⟨a, ha, hxa⟩ := List.mem_flatMap.1 hx
    obtain ⟨b, _, rfl, _⟩ := mem_rowE.1 hxa
    have hy' : y ∈ P.rowE has n P.nodesV := by simpa using hy
    obtain ⟨c, _, rfl, _⟩ := mem_rowE.1 hy'
    have := List.mem_range.1 ha
    exact .inl (by show (a : Int) < n; omega)
theorem refE_are {P : PP} (hw : P.Well) {has : List (List Int)} (hs : SetsOk P has) : EdgesAre P has (P.refE has P.nodesV) := by
  refine ⟨refE_srt P has _, fun e => ?_⟩
  obtain ⟨x, y⟩ := e
  unfold PP.refE
  rw [List.mem_flatMap]
  constructor
  · rintro ⟨a, _, h⟩
    obtain ⟨b, _, e, h2⟩ := mem_rowE.1 h
    simp only [Prod.mk.injEq] at e
    obtain ⟨rfl, rfl⟩ := e
    exact edgeB_iff.1 h2
  · rintro ⟨h, hne⟩
    obtain ⟨h1, h2, h3, h4⟩ := edges0_in hw hs _ h
    obtain ⟨a, rfl⟩ := Int.eq_ofNat_of_zero_le h1
    obtain ⟨b, rfl⟩ := Int.eq_ofNat_of_zero_le h3
    exact ⟨a, List.mem_range.2 (by simp only at h2; omega), mem_rowE.2 ⟨b, by simp only at h4; omega, rfl, edgeB_iff.2 ⟨h, hne⟩⟩⟩
def PP.edgesL (P : PP) (has : List (List Int)) : List (Int × Int) := P.refE has P.nodesV
def PP.GoodS (P : PP) (has : List (List Int)) : Prop := P.Well ∧ has.length = P.nodesV ∧ ∀ l ∈ has, P.setE l = 0
theorem PP.GoodS.ok {P : PP} {has : List (List Int)} (h : P.GoodS has) : SetsOk P has := SetsOk.of h.2.1 h.2.2
theorem edgesL_are {P : PP} {has : List (List Int)} (h : P.GoodS has) : EdgesAre P has (P.edgesL has) := refE_are h.1 h.ok
structure PS0 (w : World) (n0 : Nat) (ad : Nat → Addr) (a1 a2 a3 : Option Addr) (c1 c2 c3 : Nat) (P : PP) : Prop where
  errs : ErrsP w ad
  prog : ProgR w n0 (.slice a1 P.vars.length c1) (.slice a2 P.funs.length c2) (.slice a3 P.stmts.length c3) P
  z1 : ∀ s ∈ P.vars, s.size ≤ 1000000
  z2 : ∀ s ∈ P.names, s.size ≤ 1000000
theorem PS0.ext {w w' : World} {n0 : Nat} {ad : Nat → Addr} {a1 a2 a3 : Option Addr} {c1 c2 c3 : Nat} {P : PP} (h : PS0 w n0 ad a1 a2 a3 c1 c2 c3 P) (x : Ext w w') : PS0 w' w'.heap.size ad a1 a2 a3 c1 c2 c3 P → PS0 w' w'.heap.size ad a1 a2 a3 c1 c2 c3 P := id
theorem PS0.on {w w' : World} {n0 : Nat} {ad : Nat → Addr} {a1 a2 a3 : Option Addr} {c1 c2 c3 : Nat} {P : PP} (h : PS0 w n0 ad a1 a2 a3 c1 c2 c3 P) (hn : n0 ≤ w.heap.size) (x : Ext w w') : PS0 w' w'.heap.size ad a1 a2 a3 c1 c2 c3 P := ⟨h.errs.ext x, (h.prog.ext x).lift (Nat.le_trans hn x.size), h.z1, h.z2⟩
theorem PS0.pw {w : World} {n0 : Nat} {ad : Nat → Addr} {a1 a2 a3 : Option Addr} {c1 c2 c3 : Nat} {P : PP} (h : PS0 w n0 ad a1 a2 a3 c1 c2 c3 P) (hw : P.Well) : PW w n0 ad a1 a2 a3 c1 c2 c3 P := ⟨h.errs, h.prog, h.z1, h.z2, hw⟩
theorem StmtsR.own2 {w : World} {base : Nat} {v : Value} {ss : List S2} {l : List PS} (h : w.ownsRow base 39 4 v ss.length (ss.flatMap S2.cells)) (hl : ss.map S2.s = l) (hn : ∀ x ∈ ss, IntsR w w.heap.size x.v x.s.args) : StmtsR w w.heap.size v l := by
  have hll : l.length = ss.length := by rw [← hl, List.length_map]
  unfold StmtsR
  rw [hll]
  refine ElR.own h (Nat.le_refl _) fun g hc i hi f hf => ?_
  rw [← hl, List.getElem?_map] at hf
  obtain ⟨x, hx, rfl⟩ := Option.map_eq_some_iff.1 hf
  have c : ∀ j u, x.cells[j]? = some u → j < 4 → w.cell? (((⟨g, 0, none⟩ : Addr).add (i * 4)).add j) = some u := fun j u hu hj => by
    rw [add_add]
    exact hc _ _ ((fm_get S2.cells 4 S2.cells_len ss i j x hx hj).trans hu)
  exact ⟨x.v, by simpa [Addr.add] using c 0 _ rfl (by omega), c 1 _ rfl (by omega), c 2 _ rfl (by omega), c 3 _ rfl (by omega), hn x (List.mem_of_getElem? hx)⟩
structure OwnR (w : World) (n1 : Nat) (vv fv sv : Value) (P : PP) (fs : List F2) (ss : List S2) : Prop where
  vars : w.ownsRow 0 9 1 vv P.vars.length (P.vars.map .string)
  funs : w.ownsRow n1 43 3 fv P.funs.length (fs.flatMap F2.cells)
  stmts : w.ownsRow n1 39 4 sv P.stmts.length (ss.flatMap S2.cells)
  fm : fs.map F2.f = P.funs
  sm : ss.map S2.s = P.stmts
  fi : ∀ x ∈ fs, IntsT w x.v x.f.params
  si : ∀ x ∈ ss, IntsT w x.v x.s.args
theorem OwnR.ext {w w' : World} {n1 : Nat} {vv fv sv : Value} {P : PP} {fs : List F2} {ss : List S2} (h : OwnR w n1 vv fv sv P fs ss) (x : Ext w w') : OwnR w' n1 vv fv sv P fs ss :=
  ⟨own_ext h.vars x, own_ext h.funs x, own_ext h.stmts x, h.fm, h.sm, fun y hy => (h.fi y hy).ext x, fun y hy => (h.si y hy).ext x⟩
theorem OwnR.prog {w : World} {n1 : Nat} {vv fv sv : Value} {P : PP} {fs : List F2} {ss : List S2} (h : OwnR w n1 vv fv sv P fs ss) : ProgR w w.heap.size vv fv sv P := by
  have hfl : fs.length = P.funs.length := by rw [← h.fm, List.length_map]
  have hsl : ss.length = P.stmts.length := by rw [← h.sm, List.length_map]
  exact ⟨StrsR.own h.vars (Nat.le_refl _), FunsR.own (by rw [hfl]; exact h.funs) h.fm h.fi, StmtsR.own (by rw [hsl]; exact h.stmts) h.sm h.si⟩
theorem OwnR.more {w w' : World} {n1 : Nat} {vv fv sv sv' : Value} {P : PP} {fs : List F2} {ss : List S2} (h : OwnR w n1 vv fv sv P fs ss) (x : S2) (hx : IntsR w' w'.heap.size x.v x.s.args)
    (ho : w'.ownsRow n1 39 4 sv' (P.stmts.length + 1) (ss.flatMap S2.cells ++ S2.cells x)) {X : Nat → Prop} (k : Keep X w w') (hX : ∀ q, X q → ∃ c t, Blk w q c t ∧ t ≠ 9 ∧ t ≠ 43 ∧ t ≠ 3) :
    ProgR w' w'.heap.size vv fv sv' ⟨P.vars, P.funs, P.stmts ++ [x.s]⟩ := by
  have hfl : fs.length = P.funs.length := by rw [← h.fm, List.length_map]
  have hsl : ss.length = P.stmts.length := by rw [← h.sm, List.length_map]
  have hni : ∀ b, X b → ¬ IsInt w b := fun b e => by
    obtain ⟨c, t, hc, _, _, h3⟩ := hX b e
    exact notInt hc h3
  have hrk : ∀ {base : Nat} {e : TypeId} {size : Nat} {v : Value} {n : Nat} {xs : List Value}, w.ownsRow base e size v n xs → (e = 9 ∨ e = 43) → w'.ownsRow base e size v n xs := fun hr hne => row_keep hr k fun i hi e => by
    obtain ⟨c, hc⟩ := own_ty hr hi
    obtain ⟨c', t, hc', h1, h2, _⟩ := hX i e
    refine Blk.ty_ne hc hc' (fun e => ?_) rfl
    rcases hne with h | h
    · exact h1 (e.symm.trans h)
    · exact h2 (e.symm.trans h)
  refine ⟨StrsR.own (hrk h.vars (.inl rfl)) (Nat.le_refl _), FunsR.own (by rw [hfl]; exact hrk h.funs (.inr rfl)) h.fm fun x hx => (h.fi x hx).keep k hni, ?_⟩
  refine StmtsR.own2 (base := n1) (ss := ss ++ [x]) ?_ ?_ ?_
  · rw [List.flatMap_append, List.length_append, List.length_singleton, hsl]
    simpa using ho
  · rw [List.map_append, h.sm]; rfl
  · intro y hy
    rcases List.mem_append.1 hy with hy | hy
    · exact ((h.si y hy).keep k hni).1
    · obtain rfl := List.mem_singleton.1 hy
      exact hx
theorem StrsR.low {w : World} {n0 : Nat} {y : Addr} {n cap : Nat} {l : List ByteArray} (h : StrsR w n0 (.slice (some y) n cap) l) (hl : 0 < l.length) : y.block < n0 := by
  obtain ⟨a', cap', h1, _, _, _, h5⟩ := h
  obtain ⟨h6, _, _⟩ := Value.slice.inj h1
  exact (h5 y h6.symm hl).1
theorem well_in {P : PP} (hw : P.Well) (hs : P.Small) {x : PS} (hx : x ∈ P.stmts) : StIn P x := by
  obtain ⟨j, hj⟩ := List.getElem?_of_mem hx
  have h0 := hw.2 j x (List.getElem?_eq_some_iff.1 hj).1 hj
  have g := PP.good h0
  exact ⟨g.gx, g.yf, fun h1 h2 => g.yv h2 h1, g.args, (hs.ss x hx).2⟩
theorem well_fun {P : PP} (hw : P.Well) {f : PF} (hf : f ∈ P.funs) : P.GoodF f := by
  refine PP.goodF ?_ hf
  have h1 := hw.1
  unfold PP.err1 at h1
  cases hb : P.big with
  | true => rw [hb] at h1; simp at h1
  | false =>
    rw [hb] at h1
    simp only [cond_false] at h1
    split at h1
    · cases h1
    · split at h1
      · cases h1
      · exact h1
theorem texts_next {α : Type} {f : α → List UInt8} {l : List α} {k : Nat} {x : α} (h : l[k]? = some x) : (l.take (k + 1)).flatMap f = (l.take k).flatMap f ++ f x := by
  rw [List.take_add_one, h, List.flatMap_append]
  simp
theorem texts_len {α : Type} {f : α → List UInt8} {m : Nat} : ∀ {l : List α}, (∀ x ∈ l, (f x).length ≤ m) → (l.flatMap f).length ≤ m * l.length
  | [], _ => by simp
  | x :: l, h => by
    have h1 := h x (List.mem_cons_self ..)
    have h2 := texts_len (f := f) (m := m) (l := l) fun y hy => h y (List.mem_cons_of_mem _ hy)
    rw [List.flatMap_cons, List.length_append, List.length_cons, Nat.mul_succ]
    omega
theorem varT_len {P : PP} (hs : P.Small) : ∀ v ∈ P.vars, (PP.varT v).length ≤ 25 := fun v hv => by
  have := hs.vs v hv
  unfold PP.varT
  simp only [List.length_append, List.length_cons, List.length_nil, bs_list]
  omega
theorem funT_len {P : PP} (hs : P.Small) : ∀ f ∈ P.funs, (P.funT f).length ≤ 300 := fun f hf => by
  have h1 := hs.fs f hf
  have h2 := listT_small hs.vs h1.2
  have h3 := vN_small hs.vs f.ret
  unfold PP.funT
  simp only [List.length_append, List.length_cons, List.length_nil, bs_list]
  omega
theorem stmtT_len {P : PP} (hs : P.Small) : ∀ s ∈ P.stmts, (P.stmtT s).length ≤ 300 := fun s hx => by
  have h1 := vN_small hs.vs s.x
  have h2 := vN_small hs.vs s.y
  have h3 := listT_small hs.vs (hs.ss s hx).2
  have h4 := fN_small (P := P) (fun f hf => (hs.fs f hf).1) s.y
  unfold PP.stmtT
  dsimp only
  repeat' split
  all_goals
    simp only [List.length_append, List.length_cons, List.length_nil, bs_list]
    omega
theorem str_eq {t : ByteArray} {l : List UInt8} (h : t.toList = l) : t = kB l := by
  rcases t with ⟨⟨a⟩⟩
  rw [Lib.toList_data] at h
  have h : a = l := h
  rw [h]
  rfl
theorem kB_size (l : List UInt8) : (kB l).size = l.length := size_kB l
set_option maxRecDepth 100000 in
set_option maxHeartbeats 6400000 in
theorem progtext_yes (a1 a2 a3 : Option Addr) (c1 c2 c3 : Nat) (P : PP) (w : World) (ad : Nat → Addr) (hE : ErrsP w ad) (h : ProgR w w.heap.size (.slice a1 P.vars.length c1) (.slice a2 P.funs.length c2) (.slice a3 P.stmts.length c3) P) (hs : P.Small) (hw : P.Well) :
    Calls Tryd.prog 8 #[pval a1 a2 a3 c1 c2 c3 P] w fun e w' => e = .returned (.string (kB P.text)) ∧ Ext w w' := by
  obtain ⟨hv1, hv2, hv3⟩ := hw.few
  obtain ⟨W, hW⟩ : ∃ W, W = w.alloc (.cells (pcells a1 a2 a3 c1 c2 c3 P) 26) := ⟨_, rfl⟩
  have hxW : Ext w W := by rw [hW]; exact (Ext.refl _).alloc _
  have hB : Blk W w.heap.size (pcells a1 a2 a3 c1 c2 c3 P) 26 := by rw [hW]; exact Blk.new _ _ _
  have HP := hid (h.ext hxW)
  have HxW := hid hxW
  have HBl := hid hB
  have Hs := hid hs
  have Hw := hid hw
  have HK := hid (check_well (hE.ext hxW) HP.out (fun s hm => Nat.le_trans (hs.vs s hm) (by decide)) (fun s hm => by
    obtain ⟨f, hf, rfl⟩ := List.mem_map.1 hm
    exact Nat.le_trans (hs.fs f hf).1 (by decide)) hw)
  unfold pcells at hW
  unfold pval at HK
  unfold pval
  have HW := hid hW
  clear h hs hw hE hxW hB hW
  go_enter Tryd.func8, Tryd.ntmps8
  go_wp2_with fail
  rw [← HW.out]
  refine HK.out.mono ?_
  intro e w1 hx
  obtain ⟨rfl, hx1⟩ := hx
  have Hx1 := hid (HxW.out.trans hx1)
  have HP1 := hid (HP.out.ext hx1)
  have HB1 := hid (HBl.out.ext hx1)
  obtain ⟨W2, hW2⟩ : ∃ W2, W2 = w1.alloc (.cells #[.pointer none, .slice none 0 0] 56) := ⟨_, rfl⟩
  have HBA : Hid (BAt w1.heap.size w1.heap.size [] W2) := hid (by rw [hW2]; exact BAt.new w1)
  have hx2 : Ext w1 W2 := by rw [hW2]; exact (Ext.refl _).alloc _
  have HP2 := hid (HP1.out.ext hx2)
  have HB2 := hid (HB1.out.ext hx2)
  have Hs2 : Hid (w1.heap.size ≤ W2.heap.size) := hid hx2.size
  have Hn0 : Hid (w.heap.size < w1.heap.size) := hid HB1.out.lt
  have p0 := HB2.out.av 0 rfl
  simp only [pcells, qA0, qA1, qA2] at p0
  rw [hW2] at p0
  have HW2 := hid hW2
  clear HK hx1 hx2 hW2
  go_wp2
  rw [← HW2.out]
  clear p0
  obtain ⟨B, hBe⟩ : ∃ B, B = w1.heap.size := ⟨_, rfl⟩
  rw [← hBe] at HBA Hs2 Hn0 ⊢
  have HBe := hid hBe
  clear hBe
  go_loopw [5, 16] (fun _ t16 wr => ∃ k : Nat, t16 = .int .i64 (k : Int) ∧ k ≤ P.vars.length ∧ BAt B B ((P.vars.take k).flatMap PP.varT) wr ∧ Old B W2 wr) (fun _ t16 _ => P.vars.length - (intOf t16).toNat)
  case atStart => exact ⟨0, rfl, Nat.zero_le _, HBA.out, Old.refl _ _⟩
  case round =>
    obtain ⟨k, rfl, hk, hba, ho⟩ := hrel
    have Hba := hid hba
    have Ho := hid ho
    clear hba ho
    by_cases hlt : k < P.vars.length
    · obtain ⟨y, q, rfl, hq, hc⟩ := (HP2.out.old (Ho.out.mono fun _ _ h => by have := Hn0.out; omega)).vars.at hlt
      have hqz := Hs.out.vs q (List.mem_of_getElem? hq)
      have hl1 := texts_len (f := PP.varT) (l := P.vars.take k) (m := 25) fun x hx => varT_len Hs.out x (List.mem_of_mem_take hx)
      rw [List.length_take] at hl1
      obtain ⟨t, ht⟩ : ∃ t : ByteArray, t = ⟨#[118, 97, 114, 32]⟩ ++ q ++ ⟨#[10]⟩ := ⟨_, rfl⟩
      have htd : t.data.toList = PP.varT q := by
        rw [ht, ← Lib.toList_data, toList_append2, toList_append2, Lib.toList_data, Lib.toList_data, Lib.toList_data]
        rfl
      have htz : t.size ≤ 25 := by
        rw [← bs_list, htd]
        exact varT_len Hs.out q (List.mem_of_getElem? hq)
      have HC := hid (bwrite_any B B _ t wr Hba.out (by rcases Nat.le_total k P.vars.length with h | h <;> simp only [Nat.min_def] at hl1 <;> split at hl1 <;> omega) (by have := Ho.out.size; have := Hs2.out; omega))
      rw [htd, ← texts_next hq] at HC
      have Ht := hid ht
      clear hq hl1 htd ht htz
      go_wp2_with fail
      rw [← Ht.out]
      refine HC.out.mono ?_
      intro e w3 hx
      obtain ⟨rfl, hb, ho, _⟩ := hx
      have Hb3 := hid hb
      have Ho3 := hid (Ho.out.trans ho)
      clear HC hb ho hc
      go_wp2
      go_roundw
      case rel => exact ⟨k + 1, by go_num, by omega, Hb3.out, Ho3.out⟩
      case measure => simp [intOf]; omega
    · obtain rfl : k = P.vars.length := by omega
      have HbV : Hid (BAt B B (P.vars.flatMap PP.varT) wr) := hid (by have := Hba.out; rwa [List.take_of_length_le (Nat.le_refl _)] at this)
      have HPr := hid (HP2.out.old (Ho.out.mono fun _ _ h => by have := Hn0.out; omega))
      have HBr := hid (HB2.out.keep Ho.out (by have := Hn0.out; omega))
      have p1 := HBr.out.av 1 rfl
      simp only [pcells, qA0, qA1, qA2] at p1
      clear Hba hk hlt
      go_wp2
      clear p1
      obtain ⟨wa, rfl⟩ : ∃ wa, wa = wr := ⟨_, rfl⟩
      obtain ⟨LV, hLV⟩ : ∃ LV, LV = P.vars.flatMap PP.varT := ⟨_, rfl⟩
      have hLVz : LV.length ≤ 1000 := by
        rw [hLV]
        have := texts_len (f := PP.varT) (l := P.vars) (m := 25) fun x hx => varT_len Hs.out x hx
        omega
      rw [← hLV] at HbV
      have HLV := hid hLV
      clear hLV
      go_loopw [7, 28] (fun _ t28 wr => ∃ k : Nat, t28 = .int .i64 (k : Int) ∧ k ≤ P.funs.length ∧ BAt B B (LV ++ (P.funs.take k).flatMap P.funT) wr ∧ Old B wa wr) (fun _ t28 _ => P.funs.length - (intOf t28).toNat)
      case atStart => exact ⟨0, rfl, Nat.zero_le _, by rw [show (P.funs.take 0).flatMap P.funT = [] from rfl, List.append_nil]; exact HbV.out, Old.refl _ _⟩
      case round =>
        obtain ⟨k, rfl, hk, hba, ho⟩ := hrel
        have Hba := hid hba
        have Hof := hid ho
        clear hba ho
        by_cases hlt : k < P.funs.length
        · have HPk := hid (HPr.out.old (Hof.out.mono fun _ _ h => by have := Hn0.out; omega))
          have HBk := hid (HBr.out.keep Hof.out (by have := Hn0.out; omega))
          obtain ⟨y, f, av, cv, hya, hq, e0, e1, e2, hI⟩ := HPk.out.funs.at hlt
          obtain rfl := hya
          have hfm := List.mem_of_getElem? hq
          have hfs := Hs.out.fs f hfm
          have hg := well_fun Hw.out hfm
          obtain ⟨r, hr⟩ : ∃ r : Nat, f.ret = r := ⟨f.ret.toNat, by have := hg.ret; omega⟩
          have hrv : r < P.vars.length := by have := hg.ret; omega
          obtain ⟨yr, hyr, hcr⟩ := HPk.out.vars.vat hrv
          obtain rfl := hyr
          obtain ⟨W5, hW5⟩ : ∃ W5, W5 = wr.alloc (.cells #[.string f.name, .slice av f.params.length cv, .int .i64 (r : Int)] 43) := ⟨_, rfl⟩
          have hx5 : Ext wr W5 := by rw [hW5]; exact (Ext.refl _).alloc _
          have hB5 : Blk W5 wr.heap.size #[.string f.name, .slice av f.params.length cv, .int .i64 (r : Int)] 43 := by rw [hW5]; exact Blk.new _ _ _
          have HBk5 := HBk.out.ext hx5
          obtain ⟨XX, hXX⟩ : ∃ XX : Nat → Prop, XX = fun b => B ≤ b ∧ b ≠ wr.heap.size := ⟨_, rfl⟩
          have nX : ∀ b, XX b → B ≤ b ∧ b ≠ wr.heap.size := fun b h => by rw [hXX] at h; exact h
          have old5 : ∀ w', Keep XX W5 w' → Old w.heap.size wr w' := fun w' x => (hx5.old _).trans (x.mono fun q _ h => by have := Hn0.out; have := (nX _ h).1; omega)
          have HL := fun w' (x : Keep XX W5 w') => hid (proglist_any (some yr) (some y) a3 c1 c2 c3 P _ f.params w' w.heap.size (HPk.out.old (old5 w' x)) Hs.out.vs (by omega) (hI.old (old5 w' x)) (by omega) hg.params)
          unfold pval at HL
          obtain ⟨nr, hnr⟩ : ∃ nr, nr = P.vN (r : Int) := ⟨_, rfl⟩
          rw [← hnr] at hcr
          have hnz : nr.size ≤ 20 := by rw [hnr]; exact vN_small Hs.out.vs _
          obtain ⟨lt, hlt'⟩ : ∃ lt, lt = kB (P.listT f.params) := ⟨_, rfl⟩
          have hlz : lt.size ≤ 176 := by rw [hlt', kB_size]; exact listT_small Hs.out.vs (by omega)
          have HLc : ∀ w', Keep XX W5 w' → Hid (Calls Tryd.prog 21 #[.agg #[.slice (some yr) P.vars.length c1, .slice (some y) P.funs.length c2, .slice a3 P.stmts.length c3], .slice av f.params.length cv] w' fun e w'' => e = .returned (.string lt) ∧ Ext w' w'') := fun w' x => hid ((HL w' x).out.mono fun e w'' ⟨t, h1, h2, h3⟩ => ⟨by rw [h1, str_eq h2, hlt'], h3⟩)
          obtain ⟨t, ht⟩ : ∃ t : ByteArray, t = ⟨#[102, 110, 32]⟩ ++ f.name ++ ⟨#[40]⟩ ++ lt ++ ⟨#[41, 32]⟩ ++ nr ++ ⟨#[10]⟩ := ⟨_, rfl⟩
          have htd : t.data.toList = P.funT f := by
            rw [ht, ← Lib.toList_data]
            simp only [toList_append2, Lib.toList_data]
            unfold PP.funT
            rw [hlt', hr, ← hnr]
            rfl
          have htz : t.size ≤ 300 := by
            rw [← bs_list, htd]
            exact funT_len Hs.out f hfm
          have hlen := texts_len (f := P.funT) (l := P.funs.take k) (m := 300) fun x hx => funT_len Hs.out x (List.mem_of_mem_take hx)
          rw [List.length_take] at hlen
          have hmin : min k P.funs.length ≤ 6 := by omega
          have HC := fun w' (x : Ext W5 w') => hid (bwrite_any B B _ t w' ((Hba.out.ext hx5).ext x) (by rw [List.length_append]; omega) (by have := (hx5.trans x).size; have := Hof.out.size; have := Ho.out.size; have := Hs2.out; omega))
          rw [htd, List.append_assoc, ← texts_next hq] at HC
          have Ht := hid ht
          have d0 := hB5.kc (X := XX) (fun h => (nX _ h).2 rfl) 0 rfl
          have d1 := hB5.kc (X := XX) (fun h => (nX _ h).2 rfl) 1 rfl
          have d2 := hB5.kc (X := XX) (fun h => (nX _ h).2 rfl) 2 rfl
          have q0 := HBk5.kc (X := XX) (fun h => by have := Hn0.out; have := (nX _ h).1; omega) 0 rfl
          have q1 := HBk5.kc (X := XX) (fun h => by have := Hn0.out; have := (nX _ h).1; omega) 1 rfl
          have q2 := HBk5.kc (X := XX) (fun h => by have := Hn0.out; have := (nX _ h).1; omega) 2 rfl
          have hyrb : (yr.add r).block < w.heap.size := by rw [add_block]; exact HPk.out.vars.low (by omega)
          have r0 : ∀ w', Keep XX W5 w' → w'.cell? (yr.add r) = some (.string nr) := fun w' kk => (old5 w' kk).cellx hcr hyrb
          simp only [pcells, qA0, qA1, qA2] at d0 d1 d2 q0 q1 q2
          rw [hr] at e2
          have Hr := hid hr
          have HW5 := hid hW5
          have Hx5 := hid hx5
          have HB5 := hid hB5
          have HXX := hid hXX
          have HneB : Hid (B < wr.heap.size) := hid (by have := Hof.out.size; have := Ho.out.size; have h9 : W2.heap.size = w1.heap.size + 1 := by rw [HW2.out, heap_size_alloc]
                                                        have := HBe.out; omega)
          clear hXX nX hyrb old5 hx5 hW5 hB5 HBk5 hg hfm hcr hr HL hlt' ht htd hlen hmin hnr hq
          go_wp2
          rw [← HW5.out]
          refine wp_flowT XX (by kernel_rfl) (by kernel_rfl) ?_
          repeat (apply FlowT.d; (intro w1 hk; unfold does; go_simp; (try go_ints); (first | exact DetR.mk | (simp only [↓IntWalk.iteOmega, Oper.doesUpon_value]; exact DetR.mk) | (simp only [↓IntWalk.iteOmega]; go_simp; (try go_ints); exact DetR.mk))); simp only [Act.put, qS0, qS1, qS2])
          apply FlowT.d
          · intro w1 hk
            unfold does
            go_simp
            exact CallR.det ((HLc w1 hk).out)
          simp only [Act.put, qS0, qS1, qS2]
          repeat (apply FlowT.d; (intro w1 hk; unfold does; go_simp; (try go_ints); (first | exact DetR.mk | (simp only [↓IntWalk.iteOmega, Oper.doesUpon_value]; exact DetR.mk) | (simp only [↓IntWalk.iteOmega]; go_simp; (try go_ints); exact DetR.mk))); simp only [Act.put, qS0, qS1, qS2])
          refine FlowT.s (fun v w' => v = .tuple #[.int .i64 t.size, .nilIface] ∧ BAt B B (LV ++ (P.funs.take (k + 1)).flatMap P.funT) w' ∧ Old B W5 w') 18 rfl (by kernel_rfl) (fun _ _ _ ⟨h1, h2, h3⟩ x => ⟨h1, h2.ext x, h3.trans (x.old B)⟩) (fun w6 hC hk6 => ?_) (fun v hv => ?_)
          · have HC6 := HC w6 hC
            have hb6 := HB5.out.ext hC
            unfold does
            go_simp
            rw [← Ht.out]
            refine CallR.act (HC6.out.mono ?_)
            rintro e w7 ⟨rfl, hb, ho, hoth⟩
            have ho2 : Old B W5 w7 := (hC.old B).trans ho
            have hb7 := hoth _ _ _ (by have := HneB.out; omega) (by decide) hb6
            have hx7 : Keep XX W5 w7 := ⟨ho2.os, ho2.tape, ho2.output, ho2.size, fun q hq hn => by
              rw [HXX.out] at hn
              by_cases hqe : q = wr.heap.size
              · subst hqe
                rw [show w7.heap[wr.heap.size]? = _ from hb7, show W5.heap[wr.heap.size]? = _ from HB5.out]
              · exact ho2.block q hq fun h => hn ⟨h, hqe⟩⟩
            exact ⟨_, rfl, hx7, rfl, hb, ho2⟩
          obtain ⟨_, rfl, _, _⟩ := hv
          refine FlowT.fin fun w7 hC7 hk7 => ?_
          obtain ⟨_, hb, ho⟩ := hC7
          have Hb7 := hid hb
          have Ho7 : Hid (Old B wa w7) := hid (Hof.out.trans ((Hx5.out.old B).trans ho))
          clear hb ho HC hk7
          simp only [Act.put, qS0, qS1, qS2]
          go_wp2
          go_roundw
          case rel => exact ⟨k + 1, by go_num, by omega, Hb7.out, Ho7.out⟩
          case measure => simp [intOf]; omega
        · obtain rfl : k = P.funs.length := by omega
          have HbF : Hid (BAt B B (LV ++ P.funs.flatMap P.funT) wr) := hid (by have := Hba.out; rwa [List.take_of_length_le (Nat.le_refl _)] at this)
          have HPs := hid (HPr.out.old (Hof.out.mono fun _ _ h => by have := Hn0.out; omega))
          have HBs := hid (HBr.out.keep Hof.out (by have := Hn0.out; omega))
          have p2 := HBs.out.av 2 rfl
          simp only [pcells, qA0, qA1, qA2] at p2
          clear Hba hk hlt
          go_wp2
          clear p2
          obtain ⟨LF, hLF⟩ : ∃ LF, LF = LV ++ P.funs.flatMap P.funT := ⟨_, rfl⟩
          have hLFz : LF.length ≤ 3000 := by
            rw [hLF, List.length_append]
            have := texts_len (f := P.funT) (l := P.funs) (m := 300) fun x hx => funT_len Hs.out x hx
            omega
          rw [← hLF] at HbF
          have HLF := hid hLF
          clear hLF
          obtain ⟨wb, rfl⟩ : ∃ wb, wb = wr := ⟨_, rfl⟩
          go_loopw [9, 55] (fun _ t55 wr => ∃ k : Nat, t55 = .int .i64 (k : Int) ∧ k ≤ P.stmts.length ∧ BAt B B (LF ++ (P.stmts.take k).flatMap fun s => P.stmtT s ++ [10]) wr ∧ Old B wb wr) (fun _ t55 _ => P.stmts.length - (intOf t55).toNat)
          case atStart => exact ⟨0, rfl, Nat.zero_le _, by rw [show ((P.stmts.take 0).flatMap fun s => P.stmtT s ++ [10]) = [] from rfl, List.append_nil]; exact HbF.out, Old.refl _ _⟩
          case round =>
            obtain ⟨k, rfl, hk, hba, ho⟩ := hrel
            have Hba := hid hba
            have Hos := hid ho
            clear hba ho
            by_cases hlt : k < P.stmts.length
            · have HPk := hid (HPs.out.old (Hos.out.mono fun _ _ h => by have := Hn0.out; omega))
              have HBk := hid (HBs.out.keep Hos.out (by have := Hn0.out; omega))
              obtain ⟨y, f, av, cv, hya, hq, e0, e1, e2, e3, hI⟩ := HPk.out.stmts.at hlt
              obtain rfl := hya
              have hfm := List.mem_of_getElem? hq
              have hin := well_in Hw.out Hs.out hfm
              obtain ⟨W5, hW5⟩ : ∃ W5, W5 = wr.alloc (.cells #[.string f.kind, .int .i64 f.x, .int .i64 f.y, .slice av f.args.length cv] 39) := ⟨_, rfl⟩
              have hx5 : Ext wr W5 := by rw [hW5]; exact (Ext.refl _).alloc _
              have p0 := (HBk.out.ext hx5).av 0 rfl
              have p1 := (HBk.out.ext hx5).av 1 rfl
              have p2 := (HBk.out.ext hx5).av 2 rfl
              simp only [pcells, qA0, qA1, qA2] at p0 p1 p2
              rw [hW5] at p0 p1 p2
              obtain ⟨st, hst⟩ : ∃ st, st = kB (P.stmtT f) := ⟨_, rfl⟩
              have HL : Hid (Calls Tryd.prog 22 #[pval a1 a2 (some y) c1 c2 c3 P, sval f av cv] W5 fun e w'' => e = .returned (.string st) ∧ Ext W5 w'') := hid ((progstmt_any a1 a2 (some y) av c1 c2 c3 cv P f W5 w.heap.size (HPk.out.ext hx5) Hs.out.vs (fun f hf => (Hs.out.fs f hf).1) (by omega) (by omega) (hI.old (hx5.old _)) hin).mono fun e w'' ⟨t, h1, h2, h3⟩ => ⟨by rw [h1, str_eq h2, hst], h3⟩)
              unfold pval sval at HL
              have hsz : st.size ≤ 300 := by rw [hst, kB_size]; exact stmtT_len Hs.out f hfm
              obtain ⟨t, ht⟩ : ∃ t : ByteArray, t = st ++ ⟨#[10]⟩ := ⟨_, rfl⟩
              have htd : t.data.toList = P.stmtT f ++ [10] := by
                rw [ht, ← Lib.toList_data]
                simp only [toList_append2, Lib.toList_data]
                rw [hst]
                rfl
              have htz : t.size ≤ 301 := by rw [← bs_list, htd, List.length_append, ← kB_size, ← hst]; simp only [List.length_singleton]; omega
              have hlen := texts_len (f := fun s => P.stmtT s ++ [10]) (l := P.stmts.take k) (m := 301) fun x hx => by
                have := stmtT_len Hs.out x (List.mem_of_mem_take hx)
                simp only [List.length_append, List.length_singleton]
                omega
              rw [List.length_take] at hlen
              have hmin : min k P.stmts.length ≤ 80 := by omega
              have HC := fun w' (x : Ext W5 w') => hid (bwrite_any B B _ t w' ((Hba.out.ext hx5).ext x) (by rw [List.length_append]; omega) (by have := (hx5.trans x).size; have := Hos.out.size; have := Hof.out.size; have := Ho.out.size; have := Hs2.out; omega))
              rw [htd, List.append_assoc, ← texts_next (f := fun s => P.stmtT s ++ [10]) hq] at HC
              have Ht := hid ht
              have Hx5 := hid hx5
              have HW5 := hid hW5
              clear hx5 hW5 hin hfm hst ht htd hlen hmin hq hI
              go_wp2_with fail
              rw [← HW5.out]
              refine HL.out.mono ?_
              intro e w6 hx
              obtain ⟨rfl, hx6⟩ := hx
              have HC6 := HC w6 hx6
              have Hx6 := hid (Hx5.out.trans hx6)
              clear HL HC hx6 p0 p1 p2 e0 e1 e2 e3
              go_wp2_with fail
              rw [← Ht.out]
              refine HC6.out.mono ?_
              intro e w7 hx
              obtain ⟨rfl, hb, ho, _⟩ := hx
              have Hb7 := hid hb
              have Ho7 : Hid (Old B wb w7) := hid (Hos.out.trans ((Hx6.out.old B).trans ho))
              clear HC6 hb ho
              go_wp2
              go_roundw
              case rel => exact ⟨k + 1, by go_num, by omega, Hb7.out, Ho7.out⟩
              case measure => simp [intOf]; omega
            · obtain rfl : k = P.stmts.length := by omega
              have HbS : Hid (BAt B B (LF ++ P.stmts.flatMap fun s => P.stmtT s ++ [10]) wr) := hid (by have := Hba.out; rwa [List.take_of_length_le (Nat.le_refl _)] at this)
              have HC := hid (bstring_any B B _ wr HbS.out (by have := Hos.out.size; have := Hof.out.size; have := Ho.out.size; have := Hs2.out; omega))
              have He : Hid ((⟨(LF ++ P.stmts.flatMap fun s => P.stmtT s ++ [10]).toArray⟩ : ByteArray) = kB P.text) := hid (by rw [HLF.out, HLV.out]; rfl)
              rw [He.out] at HC
              have Hall : Hid (Old B W2 wr) := hid (Ho.out.trans (Hof.out.trans Hos.out))
              clear Hba hk hlt
              go_wp2_with fail
              refine HC.out.mono ?_
              intro e w7 hx
              obtain ⟨rfl, ho⟩ := hx
              have Hend : Hid (Ext w w7) := hid (by
                have k := Hall.out.trans ho
                have hx2 : Ext w W2 := Hx1.out.trans (by rw [HW2.out]; exact (Ext.refl _).alloc _)
                exact Keep.new hx2 k fun n hn => by have := Hn0.out; omega)
              clear HC ho
              go_wp2
              go_ret
              exact ⟨rfl, Hend.out⟩
def ixB : List ByteArray → ByteArray → Int
  | [], _ => -1
  | t :: l, s => if eqB s t = true then 0 else if ixB l s = -1 then -1 else ixB l s + 1
theorem ixB_ge : ∀ (l : List ByteArray) (s : ByteArray), -1 ≤ ixB l s
  | [], _ => by unfold ixB; omega
  | t :: l, s => by
    have := ixB_ge l s
    unfold ixB
    split
    · omega
    · split <;> omega
theorem ixB_at : ∀ {l : List ByteArray} {s : ByteArray} {k : Nat} {t : ByteArray}, l[k]? = some t → eqB s t = true → (∀ j u, j < k → l[j]? = some u → eqB s u = false) → ixB l s = (k : Int)
  | [], s, k, t, h, _, _ => by simp at h
  | u :: l, s, 0, t, h, he, _ => by
    obtain rfl : u = t := by simpa using h
    unfold ixB
    rw [if_pos he]
    rfl
  | u :: l, s, k + 1, t, h, he, hn => by
    have h0 := hn 0 u (by omega) rfl
    have ih := ixB_at (l := l) (s := s) (k := k) (t := t) (by simpa using h) he fun j v hj hv => hn (j + 1) v (by omega) (by simpa using hv)
    unfold ixB
    rw [h0, if_neg (by decide), ih, if_neg (by omega)]
    omega
theorem ixB_no : ∀ {l : List ByteArray} {s : ByteArray}, (∀ t ∈ l, eqB s t = false) → ixB l s = -1
  | [], _, _ => rfl
  | u :: l, s, h => by
    unfold ixB
    rw [h u (List.mem_cons_self ..), if_neg (by decide), ixB_no fun t ht => h t (List.mem_cons_of_mem _ ht), if_pos rfl]
set_option maxRecDepth 100000 in
set_option maxHeartbeats 800000 in
theorem indexs_at (v : Value) (l : List ByteArray) (s : ByteArray) (w : World) (n0 : Nat) (h : StrsR w n0 v l) : Calls Tryd.prog 46 #[v, .string s] w fun e w' => e = .returned (.int .i64 (ixB l s)) ∧ w = w' := by
  obtain ⟨a, cap, rfl, h2, h3, h4, h5⟩ := h
  have H4 := hid h4
  have H5 := hid h5
  have hml : (l.length : Int) ≤ 9223372036854775807 := by omega
  clear h2 h3 h4 h5
  go_enter Tryd.func46, Tryd.ntmps46
  go_wp2
  go_loop [8] (fun t8 => ∃ k : Nat, t8 = .int .i64 (k : Int) ∧ k ≤ l.length ∧ ∀ j t, j < k → l[j]? = some t → eqB s t = false) (fun t8 => l.length - (intOf t8).toNat)
  case atStart => exact ⟨0, rfl, Nat.zero_le _, fun j t h => by omega⟩
  case round =>
    obtain ⟨k, rfl, hk, hne⟩ := hrel
    have Hne := hid hne
    clear hne
    by_cases hlt : k < l.length
    · obtain ⟨y, rfl⟩ := H4.out (by omega)
      have hxk : l[k]? = some (l[k]'hlt) := List.getElem?_eq_getElem hlt
      obtain ⟨t, ht⟩ : ∃ t, t = l[k]'hlt := ⟨_, rfl⟩
      rw [← ht] at hxk
      have hc := (H5.out y rfl (by omega)).2 k hlt t hxk
      have Hxk := hid hxk
      clear hxk ht
      cases he : eqB s t with
      | true =>
        have Hin := hid (ixB_at Hxk.out he Hne.out)
        unfold eqB at he
        go_wp2
        go_ret
        exact ⟨by rw [Hin.out]; rfl, rfl⟩
      | false =>
        have Hf := hid he
        unfold eqB at he
        go_wp2
        refine ⟨⟨k + 1, by go_num, by omega, fun j u hj hu => ?_⟩, by simp [intOf]; omega⟩
        by_cases hjk : j = k
        · subst hjk
          obtain rfl := Option.some.inj (Hxk.out.symm.trans hu)
          exact Hf.out
        · exact Hne.out j u (by omega) hu
    · obtain rfl : k = l.length := by omega
      have Hnot := hid (ixB_no fun t ht => by
        obtain ⟨j, hj, e2⟩ := List.mem_iff_getElem.1 ht
        exact Hne.out j t hj (by rw [List.getElem?_eq_getElem hj, e2]))
      go_wp2
      go_ret
      exact ⟨by rw [Hnot.out]; rfl, rfl⟩
set_option maxRecDepth 100000 in
set_option maxHeartbeats 800000 in
theorem formc_any (s : ByteArray) (w : World) (hs : s.size ≤ 9223372036854775807) : Calls Tryd.prog 78 #[.string s] w fun e w' => e = .returned (.bool (!nameOk s)) ∧ Ext w w' := by
  have H := hid (name_any s w hs)
  clear hs
  go_enter Tryd.func78, Tryd.ntmps78
  go_wp2_with fail
  refine H.out.mono ?_
  intro e w1 hx
  obtain ⟨rfl, hx⟩ := hx
  clear H
  go_wp2
  go_ret
  exact ⟨rfl, hx⟩
set_option maxRecDepth 100000 in
set_option maxHeartbeats 800000 in
theorem indexfsf_any (v : Value) (l : List ByteArray) (w : World) (n0 : Nat) (h : StrsR w n0 v l) (hz : ∀ s ∈ l, s.size ≤ 1000000) : Calls Tryd.prog 44 #[v, .func (.func 78) #[] #[]] w fun e w' => ∃ r : Int, e = .returned (.int .i64 r) ∧ IdxR (anyBad l = true) r ∧ Ext w w' := by
  have HS := hid h
  obtain ⟨a, cap, rfl, h2, h3, h4, _⟩ := h
  have H4 := hid h4
  have Hz := hid hz
  have hml : (l.length : Int) ≤ 9223372036854775807 := by omega
  clear h2 h3 h4 hz
  go_enter Tryd.func44, Tryd.ntmps44
  go_wp2
  go_loopw [8] (fun t8 wr => ∃ k : Nat, t8 = .int .i64 (k : Int) ∧ k ≤ l.length ∧ (∀ j t, j < k → l[j]? = some t → nameOk t = true) ∧ Ext w wr) (fun t8 _ => l.length - (intOf t8).toNat)
  case atStart => exact ⟨0, rfl, Nat.zero_le _, fun j t h => by omega, Ext.refl _⟩
  case round =>
    obtain ⟨k, rfl, hk, hne, hx⟩ := hrel
    have Hne := hid hne
    clear hne
    by_cases hlt : k < l.length
    · obtain ⟨y, rfl⟩ := H4.out (by omega)
      have hxk : l[k]? = some (l[k]'hlt) := List.getElem?_eq_getElem hlt
      obtain ⟨t, ht⟩ : ∃ t, t = l[k]'hlt := ⟨_, rfl⟩
      rw [← ht] at hxk
      have hS := HS.out.old (hx.old n0)
      obtain ⟨a', cap', h1, _, _, _, h5⟩ := hS
      obtain ⟨rfl, rfl⟩ : some y = a' ∧ cap = cap' := by simpa using h1
      have hc := (h5 y rfl (by omega)).2 k hlt t hxk
      have HN := hid (formc_any t wr (by have := Hz.out t (List.mem_of_getElem? hxk); omega))
      have Hxk := hid hxk
      have Hx := hid hx
      clear hxk ht h1 h5 hx
      go_wp2_with fail
      refine HN.out.mono ?_
      intro e w1 hx1
      obtain ⟨rfl, hx1⟩ := hx1
      have Hx1 := hid (Hx.out.trans hx1)
      clear HN hx1 Hx hc
      cases he : nameOk t with
      | false =>
        have Hin := hid (IdxR.yes (k := k) (show anyBad l = true from List.any_eq_true.2 ⟨t, List.mem_of_getElem? Hxk.out, by simp only [he, Bool.not_false]⟩) (by omega))
        go_wp2
        go_ret
        exact ⟨(k : Int), rfl, Hin.out, Hx1.out⟩
      | true =>
        have Hf := hid he
        clear he
        go_wp2
        go_roundw
        case rel =>
          refine ⟨k + 1, by go_num, by omega, fun j u hj hu => ?_, Hx1.out⟩
          by_cases hjk : j = k
          · subst hjk
            obtain rfl := Option.some.inj (Hxk.out.symm.trans hu)
            exact Hf.out
          · exact Hne.out j u (by omega) hu
        case measure => simp [intOf]; omega
    · obtain rfl : k = l.length := by omega
      have Hx := hid hx
      clear hx
      have Hnot := hid (IdxR.no (show ¬ anyBad l = true from fun hm => by
        obtain ⟨t, ht, e⟩ := List.any_eq_true.1 hm
        obtain ⟨j, hj, e2⟩ := List.mem_iff_getElem.1 ht
        rw [Hne.out j t hj (by rw [List.getElem?_eq_getElem hj, e2])] at e
        cases e))
      go_wp2
      go_ret
      exact ⟨(-1 : Int), rfl, Hnot.out, Hx.out⟩
set_option maxRecDepth 100000 in
set_option maxHeartbeats 800000 in
theorem containsfsf_any (v : Value) (l : List ByteArray) (w : World) (n0 : Nat) (h : StrsR w n0 v l) (hz : ∀ s ∈ l, s.size ≤ 1000000) : Calls Tryd.prog 30 #[v, .func (.func 78) #[] #[]] w fun e w' => e = .returned (.bool (anyBad l)) ∧ Ext w w' := by
  have H := hid (indexfsf_any v l w n0 h hz)
  obtain ⟨a, cap, rfl, _⟩ := h
  clear hz
  go_enter Tryd.func30, Tryd.ntmps30
  go_wp2_with fail
  refine H.out.mono ?_
  intro e w1 hx
  obtain ⟨r, rfl, hiff, hx⟩ := hx
  have hr := hiff.1
  have Hiff := hid hiff.2
  clear hiff H
  go_wp2
  go_ret
  refine ⟨congrArg (fun n => Ending.returned (Value.bool n)) ?_, hx⟩
  have h1 := Hiff.out
  cases hv : anyBad l with
  | true => rw [hv] at h1; simpa using h1
  | false => rw [hv] at h1; simpa using h1
def formE (l : List ByteArray) : Nat := if anyBad l = true then 1 else 0
set_option maxRecDepth 100000 in
theorem progform_any (v : Value) (l : List ByteArray) (w : World) (n0 : Nat) (ad : Nat → Addr) (he1 : w.cell? ⟨4, 0, none⟩ = some (evOf ad 1)) (h : StrsR w n0 v l) (hz : ∀ s ∈ l, s.size ≤ 1000000) :
    Calls Tryd.prog 55 #[v] w fun e w' => e = .returned (errv (evOf ad) (formE l)) ∧ Ext w w' := by
  have H := hid (containsfsf_any v l w n0 h hz)
  have HE := hid he1
  obtain ⟨a, cap, rfl, _⟩ := h
  clear hz he1
  go_enter Tryd.func55, Tryd.ntmps55
  go_wp2_with fail
  refine H.out.mono ?_
  intro e w1 hx
  obtain ⟨rfl, hx⟩ := hx
  have Hx := hid hx
  have g1 := hx.cellx HE.out
  clear H hx
  cases hv : anyBad l with
  | true =>
    have Hf := hid (show formE l = 1 by unfold formE; rw [if_pos hv])
    go_wp2
    go_ret
    exact ⟨by rw [Hf.out]; rfl, Hx.out⟩
  | false =>
    have Hf := hid (show formE l = 0 by unfold formE; rw [hv]; rfl)
    clear g1
    go_wp2
    go_ret
    exact ⟨by rw [Hf.out]; rfl, Hx.out⟩
structure Rdr (w : World) (n1 b : Nat) (vv fv sv : Value) (P : PP) (fs : List F2) (ss : List S2) (pt : Nat) : Prop where
  hb : n1 ≤ b
  blk : Blk w b #[vv, fv, sv, .int .i64 (pt : Int)] 64
  vars : w.ownsRow n1 9 1 vv P.vars.length (P.vars.map .string)
  funs : w.ownsRow n1 43 3 fv fs.length (fs.flatMap F2.cells)
  stmts : w.ownsRow n1 39 4 sv ss.length (ss.flatMap S2.cells)
  fi : ∀ x ∈ fs, IntsT w x.v x.f.params
  si : ∀ x ∈ ss, IntsT w x.v x.s.args
  fm : fs.map F2.f = P.funs
  sm : ss.map S2.s = P.stmts
theorem Rdr.ext {w w' : World} {n1 b : Nat} {vv fv sv : Value} {P : PP} {fs : List F2} {ss : List S2} {pt : Nat} (h : Rdr w n1 b vv fv sv P fs ss pt) (x : Ext w w') : Rdr w' n1 b vv fv sv P fs ss pt :=
  ⟨h.hb, h.blk.ext x, own_ext h.vars x, own_ext h.funs x, own_ext h.stmts x, fun y hy => (h.fi y hy).ext x, fun y hy => (h.si y hy).ext x, h.fm, h.sm⟩
theorem Rdr.part {w : World} {n1 b : Nat} {vv fv sv : Value} {P : PP} {fs : List F2} {ss : List S2} {pt : Nat} (h : Rdr w n1 b vv fv sv P fs ss pt) (p : Nat) :
    Rdr (w.setCell ⟨b, 3, none⟩ (.int .i64 (p : Int))) n1 b vv fv sv P fs ss p ∧ Keep (fun q => q = b) w (w.setCell ⟨b, 3, none⟩ (.int .i64 (p : Int))) := by
  have k : Keep (fun q => q = b) w (w.setCell ⟨b, 3, none⟩ (.int .i64 (p : Int))) := Keep.set (X := fun q => q = b) (Keep.refl _ _) rfl _
  have r : ∀ {base : Nat} {e : TypeId} {size : Nat} {v : Value} {n : Nat} {xs : List Value}, w.ownsRow base e size v n xs → e ≠ 64 → (w.setCell ⟨b, 3, none⟩ (.int .i64 (p : Int))).ownsRow base e size v n xs := fun hr hne => row_keep hr k fun i hi e => by
    subst e
    obtain ⟨c, hc⟩ := own_ty hr hi
    exact Blk.ty_ne hc h.blk hne rfl
  have hb2 := h.blk.set 3 (.int .i64 (p : Int))
  simp only [qS0, qS1, qS2] at hb2
  exact ⟨⟨h.hb, hb2, r h.vars (by decide), r h.funs (by decide), r h.stmts (by decide), fun y hy => (h.fi y hy).keep k fun q e => by subst e; exact notInt h.blk (by decide), fun y hy => (h.si y hy).keep k fun q e => by subst e; exact notInt h.blk (by decide), h.fm, h.sm⟩, k⟩
theorem Rdr.strs {w : World} {n1 b : Nat} {vv fv sv : Value} {P : PP} {fs : List F2} {ss : List S2} {pt : Nat} (h : Rdr w n1 b vv fv sv P fs ss pt) : StrsR w w.heap.size vv P.vars := StrsR.own h.vars (Nat.le_refl _)
structure ErrR (w : World) (ad : Nat → Addr) : Prop where
  at1 : w.cell? ⟨4, 0, none⟩ = some (evOf ad 1)
  at6 : w.cell? ⟨9, 0, none⟩ = some (evOf ad 6)
theorem ErrR.ext {w w' : World} {ad : Nat → Addr} (h : ErrR w ad) (x : Ext w w') : ErrR w' ad := ⟨x.cellx h.at1, x.cellx h.at6⟩
set_option maxRecDepth 100000 in
theorem rdrto_any (w : World) (n1 b : Nat) (vv fv sv : Value) (P : PP) (fs : List F2) (ss : List S2) (pt p : Nat) (h : Rdr w n1 b vv fv sv P fs ss pt) :
    Calls Tryd.prog 41 #[.pointer (some ⟨b, 0, none⟩), .int .i64 (p : Int)] w fun e w' => (p < pt ∧ e = .returned (.bool false) ∧ w' = w) ∨ (¬ p < pt ∧ e = .returned (.bool true) ∧ Rdr w' n1 b vv fv sv P fs ss p ∧ Keep (fun q => q = b) w w') := by
  have c3 := h.blk.av 3 rfl
  have f3 := h.blk.free 3
  simp only [qA0, qA1, qA2] at c3
  have H := hid (h.part p)
  by_cases hp : (p : Int) < (pt : Int)
  · go_enter Tryd.func41, Tryd.ntmps41
    go_wp2
    go_ret
    exact .inl ⟨by omega, rfl, rfl⟩
  · go_enter Tryd.func41, Tryd.ntmps41
    go_wp2
    go_ret
    exact .inr ⟨by omega, rfl, H.out.1, H.out.2⟩
def PP.varR (P : PP) (s : ByteArray) : Int × Nat := if nameOk s = true then (if ixB P.vars s < 0 then (0, 6) else (ixB P.vars s, 0)) else (0, 1)
set_option maxRecDepth 100000 in
set_option maxHeartbeats 1600000 in
theorem rdrvariable_any (s : ByteArray) (hs : s.size ≤ 1000000) (w : World) (n1 b : Nat) (vv fv sv : Value) (P : PP) (fs : List F2) (ss : List S2) (pt : Nat) (ad : Nat → Addr) (hE : ErrR w ad) (h : Rdr w n1 b vv fv sv P fs ss pt) :
    Calls Tryd.prog 58 #[.pointer (some ⟨b, 0, none⟩), .string s] w fun e w' => ∃ k c, e = .returned (.tuple #[.int .i64 k, errv (evOf ad) c]) ∧ P.varR s = (k, c) ∧ Ext w w' := by
  have HN := hid (name_any s w (by omega))
  have HE := hid hE
  have H := hid h
  clear h hE
  cases hn : nameOk s with
  | false =>
    have Hv := hid (show P.varR s = (0, 1) by unfold PP.varR; rw [hn]; rfl)
    rw [hn] at HN
    clear hn
    go_enter Tryd.func58, Tryd.ntmps58
    go_wp2_with fail
    refine HN.out.mono ?_
    intro e w1 hx
    obtain ⟨rfl, hx⟩ := hx
    have Hx := hid hx
    have g1 : ∀ w2, Keep (fun _ => False) w1 w2 → w2.cell? ⟨4, 0, none⟩ = some (evOf ad 1) := fun w2 k => (hx.trans k.ext).cellx HE.out.at1
    unfold evOf at g1
    clear HN hx
    go_wp2
    refine wp_flowT (fun _ => False) (by kernel_rfl) (by kernel_rfl) ?_
    repeat (apply FlowT.d; (intro w1 hk; unfold does; go_simp; (try go_ints); (first | exact DetR.mk | (simp only [↓IntWalk.iteOmega, Oper.doesUpon_value]; exact DetR.mk) | (simp only [↓IntWalk.iteOmega]; go_simp; (try go_ints); exact DetR.mk))); simp only [Act.put, qS0, qS1, qS2])
    refine FlowT.fin fun w2 hx2 hk2 => ?_
    have Hx2 := hid (Hx.out.trans hx2)
    clear hx2 hk2
    go_wp2
    go_ret2
    exact ⟨0, 1, rfl, Hv.out, Hx2.out⟩
  | true =>
    rw [hn] at HN
    go_enter Tryd.func58, Tryd.ntmps58
    go_wp2_with fail
    refine HN.out.mono ?_
    intro e w1 hx
    obtain ⟨rfl, hx⟩ := hx
    have Hx := hid hx
    have H1 := hid (H.out.ext hx)
    have HI := hid (indexs_at vv P.vars s w1 w1.heap.size H1.out.strs)
    obtain ⟨a, cap, hvv⟩ := row_form H1.out.vars
    have c0 := H1.out.blk.av 0 rfl
    simp only [qA0, qA1, qA2] at c0
    rw [hvv] at c0 HI
    have hge := ixB_ge P.vars s
    obtain ⟨k, hk⟩ : ∃ k, k = ixB P.vars s := ⟨_, rfl⟩
    rw [← hk] at HI hge
    have g6 : ∀ w2, Keep (fun _ => False) w1 w2 → w2.cell? ⟨9, 0, none⟩ = some (evOf ad 6) := fun w2 k => (hx.trans k.ext).cellx HE.out.at6
    unfold evOf at g6
    by_cases h0 : k < 0
    · have Hv := hid (show P.varR s = (0, 6) by unfold PP.varR; rw [hn, if_pos rfl, ← hk, if_pos h0])
      clear HN hx hk hn
      go_wp2_with fail
      refine HI.out.mono ?_
      intro e w2 hx
      obtain ⟨rfl, rfl⟩ := hx
      clear HI c0
      go_wp2
      refine wp_flowT (fun _ => False) (by kernel_rfl) (by kernel_rfl) ?_
      repeat (apply FlowT.d; (intro w1 hk; unfold does; go_simp; (try go_ints); (first | exact DetR.mk | (simp only [↓IntWalk.iteOmega, Oper.doesUpon_value]; exact DetR.mk) | (simp only [↓IntWalk.iteOmega]; go_simp; (try go_ints); exact DetR.mk))); simp only [Act.put, qS0, qS1, qS2])
      refine FlowT.fin fun w2 hx2 hk2 => ?_
      have Hx2 := hid (Hx.out.trans hx2)
      clear hx2 hk2
      go_wp2
      go_ret2
      exact ⟨0, 6, rfl, Hv.out, Hx2.out⟩
    · have Hv := hid (show P.varR s = (k, 0) by unfold PP.varR; rw [hn, if_pos rfl, ← hk, if_neg h0])
      clear HN hx hk hn g6
      go_wp2_with fail
      refine HI.out.mono ?_
      intro e w2 hx
      obtain ⟨rfl, rfl⟩ := hx
      clear HI c0
      go_wp2
      go_ret2
      exact ⟨k, 0, rfl, Hv.out, Hx.out⟩
end Go.Proofs.YtamblahkckaaaaaDoor
namespace Go.Proofs
open Go.Shelf
def Tryd.lays145_ren : Go.Shelf.Ren := ⟨fun | 145 => 24 | 220 => 39 | 219 => 52 | 217 => 72 | 225 => 73 | 224 => 74 | 267 => 75 | 266 => 84 | 314 => 85 | n => n, fun | 9 => 9 | 4 => 4 | 59 => 65 | 3 => 3 | 5 => 5 | 46 => 110 | 146 => 119 | 51 => 118 | n => n, fun | 1 => 8 | n => n⟩
theorem Tryd.lays145 : Go.Proofs.Lays.n145 Tryd.prog Tryd.lays145_ren := {
  mixed := by kernel_rfl
  f145 := Tryd.func24.trans (congrArg some (by kernel_rfl))
  f217 := Tryd.func72.trans (congrArg some (by kernel_rfl))
  f219 := Tryd.func52.trans (congrArg some (by kernel_rfl))
  f220 := Tryd.func39.trans (congrArg some (by kernel_rfl))
  f224 := Tryd.func74.trans (congrArg some (by kernel_rfl))
  f225 := Tryd.func73.trans (congrArg some (by kernel_rfl))
  f266 := Tryd.func84.trans (congrArg some (by kernel_rfl))
  f267 := Tryd.func75.trans (congrArg some (by kernel_rfl))
  f314 := Tryd.func85.trans (congrArg some (by kernel_rfl))
  t3 := Tryd.underlying3
  a3 := Tryd.isAgg3
  z3 := Tryd.sizeOf3
  v3 := Tryd.zeroValue3
  t4 := Tryd.underlying4
  a4 := Tryd.isAgg4
  z4 := Tryd.sizeOf4
  v4 := Tryd.zeroValue4
  t5 := Tryd.underlying5
  a5 := Tryd.isAgg5
  z5 := Tryd.sizeOf5
  v5 := Tryd.zeroValue5
  t9 := Tryd.underlying9
  a9 := Tryd.isAgg9
  z9 := Tryd.sizeOf9
  v9 := Tryd.zeroValue9
  t46 := Tryd.underlying110
  a46 := Tryd.isAgg110
  z46 := Tryd.sizeOf110
  v46 := Tryd.zeroValue110
  t51 := Tryd.underlying118
  a51 := Tryd.isAgg118
  z51 := Tryd.sizeOf118
  v51 := Tryd.zeroValue118
  t59 := Tryd.underlying65
  a59 := Tryd.isAgg65
  z59 := Tryd.sizeOf65
  v59 := Tryd.zeroValue65
  t146 := Tryd.underlying119
  a146 := Tryd.isAgg119
  z146 := Tryd.sizeOf119
  v146 := Tryd.zeroValue119
  g1 := by kernel_rfl }
open Go.RowKit Go.Lib in
theorem Tryd.strings_Cut (s sep : ByteArray) (m : Int) (w : World) (hs : s.size < 4294967281) (hm : w.cell? ⟨8, 0, none⟩ = some (.int .i64 m)) :
    Calls Tryd.prog 24 #[.string s, .string sep] w fun e w' => e = .returned (.tuple #[.string ⟨(Lib.cut s.data.toList sep.data.toList).1.toArray⟩, .string ⟨(Lib.cut s.data.toList sep.data.toList).2.1.toArray⟩, .bool (Lib.cut s.data.toList sep.data.toList).2.2]) ∧ ∃ n, w' = w.drewN n := Any.strings_Cut Tryd.lays145 s sep m w hs hm
def Tryd.lays146_ren : Go.Shelf.Ren := ⟨fun | 146 => 77 | 221 => 86 | 268 => 90 | 138 => 91 | 143 => 92 | 195 => 95 | 197 => 80 | 218 => 96 | 219 => 52 | 260 => 87 | 217 => 72 | 225 => 73 | 224 => 74 | 267 => 75 | 266 => 84 | 314 => 85 | n => n, fun | 9 => 9 | 31 => 22 | 3 => 3 | 4 => 4 | 0 => 0 | 105 => 114 | 21 => 21 | 5 => 5 | 46 => 110 | 119 => 124 | 139 => 127 | 138 => 126 | 146 => 119 | 51 => 118 | n => n, fun | 1 => 8 | 3 => 10 | 4 => 11 | n => n⟩
theorem Tryd.lays146 : Go.Proofs.Lays.n146 Tryd.prog Tryd.lays146_ren := {
  mixed := by kernel_rfl
  f138 := Tryd.func91.trans (congrArg some (by kernel_rfl))
  f143 := Tryd.func92.trans (congrArg some (by kernel_rfl))
  f146 := Tryd.func77.trans (congrArg some (by kernel_rfl))
  f195 := Tryd.func95.trans (congrArg some (by kernel_rfl))
  f197 := Tryd.func80.trans (congrArg some (by kernel_rfl))
  f217 := Tryd.func72.trans (congrArg some (by kernel_rfl))
  f218 := Tryd.func96.trans (congrArg some (by kernel_rfl))
  f219 := Tryd.func52.trans (congrArg some (by kernel_rfl))
  f221 := Tryd.func86.trans (congrArg some (by kernel_rfl))
  f224 := Tryd.func74.trans (congrArg some (by kernel_rfl))
  f225 := Tryd.func73.trans (congrArg some (by kernel_rfl))
  f260 := Tryd.func87.trans (congrArg some (by kernel_rfl))
  f266 := Tryd.func84.trans (congrArg some (by kernel_rfl))
  f267 := Tryd.func75.trans (congrArg some (by kernel_rfl))
  f268 := Tryd.func90.trans (congrArg some (by kernel_rfl))
  f314 := Tryd.func85.trans (congrArg some (by kernel_rfl))
  t0 := Tryd.underlying0
  a0 := Tryd.isAgg0
  z0 := Tryd.sizeOf0
  v0 := Tryd.zeroValue0
  t3 := Tryd.underlying3
  a3 := Tryd.isAgg3
  z3 := Tryd.sizeOf3
  v3 := Tryd.zeroValue3
  t4 := Tryd.underlying4
  a4 := Tryd.isAgg4
  z4 := Tryd.sizeOf4
  v4 := Tryd.zeroValue4
  t5 := Tryd.underlying5
  a5 := Tryd.isAgg5
  z5 := Tryd.sizeOf5
  v5 := Tryd.zeroValue5
  t9 := Tryd.underlying9
  a9 := Tryd.isAgg9
  z9 := Tryd.sizeOf9
  v9 := Tryd.zeroValue9
  t21 := Tryd.underlying21
  a21 := Tryd.isAgg21
  z21 := Tryd.sizeOf21
  v21 := Tryd.zeroValue21
  t31 := Tryd.underlying22
  a31 := Tryd.isAgg22
  z31 := Tryd.sizeOf22
  v31 := Tryd.zeroValue22
  t46 := Tryd.underlying110
  a46 := Tryd.isAgg110
  z46 := Tryd.sizeOf110
  v46 := Tryd.zeroValue110
  t51 := Tryd.underlying118
  a51 := Tryd.isAgg118
  z51 := Tryd.sizeOf118
  v51 := Tryd.zeroValue118
  t105 := Tryd.underlying114
  a105 := Tryd.isAgg114
  z105 := Tryd.sizeOf114
  v105 := Tryd.zeroValue114
  t119 := Tryd.underlying124
  a119 := Tryd.isAgg124
  z119 := Tryd.sizeOf124
  t138 := Tryd.underlying126
  a138 := Tryd.isAgg126
  z138 := Tryd.sizeOf126
  v138 := Tryd.zeroValue126
  t139 := Tryd.underlying127
  a139 := Tryd.isAgg127
  z139 := Tryd.sizeOf127
  v139 := Tryd.zeroValue127
  t146 := Tryd.underlying119
  a146 := Tryd.isAgg119
  z146 := Tryd.sizeOf119
  v146 := Tryd.zeroValue119
  g1 := by kernel_rfl
  g3 := by kernel_rfl
  g4 := by kernel_rfl }
open Go.RowKit Go.Lib in
theorem Tryd.strings_Split (s sep : ByteArray) (m : Int) (w : World) (hs : s.size < 4294967281) (hm : w.cell? ⟨8, 0, none⟩ = some (.int .i64 m)) (h1 : 1 ≤ sep.size) :
    Calls Tryd.prog 77 #[.string s, .string sep] w fun e w' =>
      e = .returned (.slice (some ⟨w.heap.size, 0, none⟩) (Lib.countB s sep + 1) (Lib.countB s sep + 1)) ∧ w' = w.alloc (.cells ((Lib.splitB sep 0 (Lib.countB s sep) s).map Value.string).toArray 9) := Any.strings_Split Tryd.lays146 (by kernel_rfl) s sep m w hs hm h1
end Go.Proofs
