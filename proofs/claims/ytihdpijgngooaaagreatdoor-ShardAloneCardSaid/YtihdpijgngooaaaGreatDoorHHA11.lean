/- Texts of one proof, put together: YH YL YR YI S5 YW YJ Z1 Z2 Z3 YT Z4 M1. -/
import Derived.Test.YtihdpijgngooaaaGreatDoorHHA08
import Derived.Test.YtihdpijgngooaaaGreatDoorHHA10
import Derived.Test.YtihdpijgngooaaaGreatDoorProg
import Derived.Shelf.SlSortCmp.NoneTotal
set_option linter.unusedSimpArgs false
set_option linter.unusedVariables false
namespace Go.Proofs.YtihdpijgngooaaaGreatDoor
open Go Go.RowKit
theorem srt_lt {l : List Int} {M : Nat} (h : chkE l = 0) (hm : ∀ x ∈ l, x < (M : Int)) (hM : M ≤ 1000) : l.length ≤ M := by
  obtain ⟨h1, h2⟩ := chkE_zero.1 h
  rw [← sset_self h2 h1]
  unfold sset
  rw [List.length_map]
  have e : List.range 1000 = List.range M ++ (List.range (1000 - M)).map (M + ·) := by
    rw [← List.range_add]; congr 1; omega
  have e2 : ((List.range (1000 - M)).map (M + ·)).filter (fun n : Nat => decide ((n : Int) ∈ l)) = [] := by
    rw [List.filter_eq_nil_iff]
    intro n hn hd
    obtain ⟨j, _, rfl⟩ := List.mem_map.1 hn
    have := hm _ (of_decide_eq_true hd)
    omega
  rw [e, List.filter_append, e2, List.append_nil]
  have := List.length_filter_le (fun n : Nat => decide ((n : Int) ∈ l)) (List.range M)
  rw [List.length_range] at this
  exact this
theorem flatMap_len {α β : Type} (f : α → List β) (c : Nat) : ∀ l : List α, (∀ x ∈ l, (f x).length ≤ c) → (l.flatMap f).length ≤ l.length * c
  | [], _ => Nat.zero_le _
  | x :: r, h => by
    have h1 := h x List.mem_cons_self
    have h2 := flatMap_len f c r fun y hy => h y (List.mem_cons_of_mem _ hy)
    rw [List.flatMap_cons, List.length_append, List.length_cons, Nat.add_mul]
    omega
theorem calledV_len (f : PF) (r : RV) : (calledV f r).length ≤ r.args.length + 1 := by
  unfold calledV
  split
  · rw [List.length_cons, List.length_zip]; omega
  · exact Nat.zero_le _
theorem callsOf_len (P : PP) (r : RV) (o : Int) : (P.callsOf r o).length ≤ r.args.length + 1 := by
  unfold PP.callsOf
  split
  · exact calledV_len _ _
  · exact Nat.zero_le _
theorem getD_len {has : List (List Int)} {M : Nat} (h : ∀ l ∈ has, l.length ≤ M) (i : Nat) : (has.getD i []).length ≤ M := by
  rw [List.getD_eq_getElem?_getD]
  cases he : has[i]? with
  | none => exact Nat.zero_le _
  | some l => exact h l (List.mem_of_getElem? he)
theorem redges_len (P : PP) (r : RV) (has : List (List Int)) (M : Nat) (h : ∀ l ∈ has, l.length ≤ M) (ha : r.args.length ≤ 3) : (P.redges r has).length ≤ M * 4 + 1 := by
  unfold PP.redges
  cases r.kind.toList == kCopy
  · cases r.kind.toList == kLoad
    · cases r.kind.toList == kStore
      · cases r.kind.toList == kCall
        · exact Nat.zero_le _
        · simp only [cond_true, cond_false]
          have h1 := flatMap_len (P.callsOf r) 4 (has.getD r.a.toNat []) fun o _ => by have := callsOf_len P r o; omega
          have h2 := getD_len h r.a.toNat
          omega
      · simp only [cond_true, cond_false, List.length_map]
        have h1 := List.length_filter_le (fun x => !decide ((P.nodesV : Int) ≤ x)) (has.getD r.b.toNat [])
        have h2 := getD_len h r.b.toNat
        unfold PP.nodesOf
        omega
    · simp only [cond_true, cond_false, List.length_map]
      have h1 := List.length_filter_le (fun x => !decide ((P.nodesV : Int) ≤ x)) (has.getD r.a.toNat [])
      have h2 := getD_len h r.a.toNat
      unfold PP.nodesOf
      omega
  · simp only [cond_true, List.length_cons, List.length_nil]; omega
theorem ruleV_few {P : PP} (hw : P.Well) {k : Nat} (hk : k < P.stmts.length) : (P.ruleV k (P.stAt k)).args.length ≤ 3 := by
  have h0 := hw.2 k (P.stAt k) hk (stAt_some hk)
  unfold PP.ruleV
  cases (P.stAt k).isK kAddr
  · cases (P.stAt k).isK kNew
    · cases (P.stAt k).isK kFun
      · cases hc : (P.stAt k).isK kCall
        · exact Nat.zero_le _
        · exact call_few h0 hc
      · exact Nat.zero_le _
    · exact Nat.zero_le _
  · exact Nat.zero_le _
theorem rulesUp_len {P : PP} {has : List (List Int)} (hw : P.Well) (hs : SetsOk P has) (k : Nat) (hk : k ≤ P.stmts.length) : ((P.rulesUp k).flatMap fun r => P.redges r has).length ≤ 50000 := by
  obtain ⟨f1, f2, f3⟩ := hw.few
  have hn := P.newsN_le P.stmts.length
  have hM : ∀ l ∈ has, l.length ≤ 126 := fun l hl => by
    have := srt_lt (M := P.objectsV) (hs.ok l hl).1 (hs.ok l hl).2 (by unfold PP.objectsV PP.nodesV; omega)
    unfold PP.objectsV PP.nodesV at this
    omega
  have h1 := flatMap_len (fun r => P.redges r has) (126 * 4 + 1) (P.rulesUp k) fun r hr => by
    unfold PP.rulesUp at hr
    obtain ⟨j, hj, rfl⟩ := List.mem_map.1 hr
    exact redges_len P _ has 126 hM (ruleV_few hw (by have := List.mem_range.1 hj; omega))
  have h2 : (P.rulesUp k).length = k := by unfold PP.rulesUp; rw [List.length_map, List.length_range]
  rw [h2] at h1
  omega
end Go.Proofs.YtihdpijgngooaaaGreatDoor
namespace Go.Proofs
open Go.Shelf
def Tryz.sortE_ren : Go.Shelf.Ren := ⟨fun | 6 => 97 | 15 => 109 | 14 => 127 | 28 => 144 | 29 => 145 | 20 => 151 | 21 => 152 | 22 => 153 | 23 => 154 | 24 => 155 | 25 => 156 | 26 => 157 | 27 => 158 | 46 => 172 | 47 => 164 | 48 => 165 | 49 => 173 | 50 => 174 | 57 => 184 | n => n, fun | 22 => 64 | 24 => 95 | 25 => 153 | 3 => 3 | 39 => 142 | 0 => 0 | 53 => 175 | 55 => 178 | 4 => 4 | 46 => 195 | 45 => 194 | 50 => 200 | 5 => 5 | 9 => 9 | 66 => 229 | 70 => 233 | 76 => 247 | 77 => 100 | n => n, fun | n => n⟩
end Go.Proofs
namespace Go.Proofs.YtihdpijgngooaaaGreatDoor
open Go Go.RowKit Go.Sort
def InE (e : Int × Int) : Prop := 0 ≤ e.1 ∧ e.1 < 1000 ∧ 0 ≤ e.2 ∧ e.2 < 1000
abbrev SE := { e : Int × Int // InE e }
instance : Inhabited SE := ⟨⟨(0, 0), by unfold InE; omega⟩⟩
def seCells (x : SE) : List Value := eCells x.1
def seCmp (x y : SE) : Int := eCmp x.1 y.1
end Go.Proofs.YtihdpijgngooaaaGreatDoor
namespace Go.Proofs.YtihdpijgngooaaaGreatDoor
open Go Go.RowKit
theorem own_r {w : World} {base g n cap : Nat} {rs : List R2} (h : w.ownsRow base 90 5 (.slice (some ⟨g, 0, none⟩) n cap) n (rs.flatMap R2.cells)) {i : Nat} {x : R2} (hx : rs[i]? = some x) :
    w.cell? ⟨g, i * 5, none⟩ = some (.string x.r.kind) ∧ w.cell? ⟨g, i * 5 + 1, none⟩ = some (.int .i64 x.r.a) ∧ w.cell? ⟨g, i * 5 + 2, none⟩ = some (.int .i64 x.r.b) ∧ w.cell? ⟨g, i * 5 + 3, none⟩ = some (.int .i64 x.r.k) ∧ w.cell? ⟨g, i * 5 + 4, none⟩ = some x.v := by
  have c : ∀ j v, x.cells[j]? = some v → j < 5 → w.cell? ⟨g, i * 5 + j, none⟩ = some v := fun j v hv hj => own_get h _ ((fm_get R2.cells 5 R2.cells_len rs i j x hx hj).trans hv)
  exact ⟨c 0 _ rfl (by omega), c 1 _ rfl (by omega), c 2 _ rfl (by omega), c 3 _ rfl (by omega), c 4 _ rfl (by omega)⟩
theorem rule_a_in {P : PP} (hw : P.Well) {k : Nat} (hk : k < P.stmts.length) : 0 ≤ (P.ruleV k (P.stAt k)).a ∧ (P.ruleV k (P.stAt k)).a < P.vars.length := by
  have h0 := hw.2 k (P.stAt k) hk (stAt_some hk)
  have hg := PP.good h0
  obtain ⟨x, hx⟩ : ∃ x, x = P.stAt k := ⟨_, rfl⟩
  rw [← hx] at h0 hg ⊢
  unfold PP.ruleV
  cases h1 : x.isK kAddr with
  | true => exact hg.gx
  | false =>
    cases h2 : x.isK kNew with
    | true => exact hg.gx
    | false =>
      cases h3 : x.isK kFun with
      | true => exact hg.gx
      | false =>
        have hy := hg.yv h3 h2
        cases h4 : x.isK kCall with
        | true => exact hy
        | false => exact hy
def fEdge (f : PF) (r : RV) (a b : Int) : Bool := decide (f.params.length = r.args.length) && ((decide (a = f.ret) && decide (b = r.b)) || (List.range f.params.length).any fun i => decide (a = r.args.getD i 0) && decide (b = f.params.getD i 0))
def PP.isE (P : PP) (r : RV) (has : List (List Int)) (a b : Int) : Bool :=
  bif r.kind.toList == kCopy then decide (a = r.a) && decide (b = r.b) else
  bif r.kind.toList == kLoad then decide (b = r.b) && (decide (a < (P.nodesV : Int)) && decide (a ∈ has.getD r.a.toNat [])) else
  bif r.kind.toList == kStore then decide (a = r.a) && (decide (b < (P.nodesV : Int)) && decide (b ∈ has.getD r.b.toNat [])) else
  bif r.kind.toList == kCall then (List.range P.funs.length).any fun f => decide ((P.nodesV : Int) + f ∈ has.getD r.a.toNat []) && fEdge (P.funs.getD f ⟨⟨#[]⟩, [], 0⟩) r a b else false
theorem fEdge_iff (f : PF) (r : RV) (a b : Int) : fEdge f r a b = true ↔ (a, b) ∈ calledV f r := by
  unfold fEdge calledV
  by_cases hl : f.params.length = r.args.length
  · rw [decide_eq_true hl, Bool.true_and, if_pos hl, List.mem_cons, Bool.or_eq_true, Bool.and_eq_true, decide_eq_true_iff, decide_eq_true_iff, Prod.mk.injEq]
    refine or_congr Iff.rfl ?_
    rw [List.any_eq_true]
    constructor
    · rintro ⟨i, hi, h⟩
      have hi := List.mem_range.1 hi
      rw [Bool.and_eq_true, decide_eq_true_iff, decide_eq_true_iff] at h
      refine List.mem_iff_getElem?.2 ⟨i, List.getElem?_zip_eq_some.2 ⟨?_, ?_⟩⟩
      · rw [h.1, List.getD_eq_getElem?_getD, List.getElem?_eq_getElem (show i < r.args.length by omega)]; rfl
      · rw [h.2, List.getD_eq_getElem?_getD, List.getElem?_eq_getElem hi]; rfl
    · intro h
      obtain ⟨i, hi⟩ := List.mem_iff_getElem?.1 h
      obtain ⟨h1, h2⟩ := List.getElem?_zip_eq_some.1 hi
      have hil : i < f.params.length := by
        rcases Nat.lt_or_ge i f.params.length with g | g
        · exact g
        · rw [List.getElem?_eq_none g] at h2; cases h2
      refine ⟨i, List.mem_range.2 hil, ?_⟩
      rw [List.getD_eq_getElem?_getD, List.getD_eq_getElem?_getD, h1, h2]
      simp
  · rw [decide_eq_false hl, Bool.false_and, if_neg hl]
    simp
theorem isE_iff {P : PP} (r : RV) (has : List (List Int)) (a b : Int) : P.isE r has a b = true ↔ (a, b) ∈ P.redges r has := by
  unfold PP.isE PP.redges
  cases r.kind.toList == kCopy
  · cases r.kind.toList == kLoad
    · cases r.kind.toList == kStore
      · cases r.kind.toList == kCall
        · simp
        · simp only [cond_true, cond_false]
          rw [List.any_eq_true, List.mem_flatMap]
          constructor
          · rintro ⟨f, hf, h⟩
            have hf := List.mem_range.1 hf
            rw [Bool.and_eq_true, decide_eq_true_iff, fEdge_iff] at h
            refine ⟨_, h.1, ?_⟩
            unfold PP.callsOf
            have e : P.funV ((P.nodesV : Int) + f) = (f : Int) := by unfold PP.funV; rw [if_pos (by omega)]; omega
            rw [e, if_pos (by omega)]
            exact h.2
          · rintro ⟨o, ho, h⟩
            unfold PP.callsOf at h
            by_cases hF : 0 ≤ P.funV o
            · rw [if_pos hF] at h
              have hlt := funV_lt hF
              refine ⟨(P.funV o).toNat, List.mem_range.2 (by omega), ?_⟩
              rw [Bool.and_eq_true, decide_eq_true_iff, fEdge_iff]
              refine ⟨?_, h⟩
              have e : (P.nodesV : Int) + ((P.funV o).toNat : Nat) = o := by
                rw [Int.toNat_of_nonneg hF]
                unfold PP.funV at hF ⊢
                by_cases hc : 0 ≤ o - (P.nodesV : Int) ∧ o - (P.nodesV : Int) < P.funs.length
                · rw [if_pos hc]; omega
                · rw [if_neg hc] at hF; omega
              rw [e]
              exact ho
            · rw [if_neg hF] at h
              cases h
      · simp only [cond_true, cond_false]
        rw [List.mem_map]
        constructor
        · intro h
          simp only [Bool.and_eq_true, decide_eq_true_iff] at h
          refine ⟨b, ?_, by rw [h.1]⟩
          unfold PP.nodesOf
          exact List.mem_filter.2 ⟨h.2.2, by simp; exact h.2.1⟩
        · rintro ⟨o, ho, h⟩
          unfold PP.nodesOf at ho
          obtain ⟨h1, h2⟩ := List.mem_filter.1 ho
          simp only [Prod.mk.injEq] at h
          obtain ⟨rfl, rfl⟩ := h
          simp at h2
          exact Bool.and_eq_true_iff.2 ⟨decide_eq_true rfl, Bool.and_eq_true_iff.2 ⟨decide_eq_true h2, decide_eq_true h1⟩⟩
    · simp only [cond_true, cond_false]
      rw [List.mem_map]
      constructor
      · intro h
        simp only [Bool.and_eq_true, decide_eq_true_iff] at h
        refine ⟨a, ?_, by rw [h.1]⟩
        unfold PP.nodesOf
        exact List.mem_filter.2 ⟨h.2.2, by simp; exact h.2.1⟩
      · rintro ⟨o, ho, h⟩
        unfold PP.nodesOf at ho
        obtain ⟨h1, h2⟩ := List.mem_filter.1 ho
        simp only [Prod.mk.injEq] at h
        obtain ⟨rfl, rfl⟩ := h
        simp at h2
        exact Bool.and_eq_true_iff.2 ⟨decide_eq_true rfl, Bool.and_eq_true_iff.2 ⟨decide_eq_true h2, decide_eq_true h1⟩⟩
  · simp only [cond_true, List.mem_singleton, Prod.mk.injEq, Bool.and_eq_true, decide_eq_true_iff]
def PP.rulesE (P : PP) : List RV := P.rulesV.filter fun r => !(r.kind.toList == bBase.toList)
def PP.edgeB (P : PP) (has : List (List Int)) (a b : Int) : Bool := decide (a ≠ b) && P.rulesE.any fun r => P.isE r has a b
theorem edgeB_iff {P : PP} {has : List (List Int)} {a b : Int} : P.edgeB has a b = true ↔ (a, b) ∈ P.edges0 has ∧ a ≠ b := by
  unfold PP.edgeB PP.rulesE PP.edges0
  rw [Bool.and_eq_true, decide_eq_true_iff, List.any_eq_true, List.mem_flatMap, and_comm]
  refine and_congr ⟨fun ⟨r, hr, h⟩ => ⟨r, (List.mem_filter.1 hr).1, (isE_iff r has a b).1 h⟩, fun ⟨r, hr, h⟩ => ⟨r, List.mem_filter.2 ⟨hr, ?_⟩, (isE_iff r has a b).2 h⟩⟩ Iff.rfl
  cases hb : r.kind.toList == bBase.toList with
  | false => rfl
  | true =>
    have e := eq_of_beq hb
    have hn : P.redges r has = [] := by
      have e2 := eq_of_beq bBase_list
      unfold PP.redges kCopy kLoad kStore kCall
      rw [e, e2]; rfl
    rw [hn] at h
    cases h
def PP.rowE (P : PP) (has : List (List Int)) (a n : Nat) : List (Int × Int) := ((List.range n).filter fun b : Nat => P.edgeB has (a : Int) (b : Int)).map fun b : Nat => ((a : Int), (b : Int))
def PP.refE (P : PP) (has : List (List Int)) (n : Nat) : List (Int × Int) := (List.range n).flatMap fun a => P.rowE has a P.nodesV
theorem mem_rowE {P : PP} {has : List (List Int)} {a n : Nat} {e : Int × Int} : e ∈ P.rowE has a n ↔ ∃ b : Nat, b < n ∧ e = ((a : Int), (b : Int)) ∧ P.edgeB has a b = true := by
  unfold PP.rowE
  rw [List.mem_map]
  constructor
  · rintro ⟨b, hb, rfl⟩
    obtain ⟨h1, h2⟩ := List.mem_filter.1 hb
    exact ⟨b, List.mem_range.1 h1, rfl, h2⟩
  · rintro ⟨b, hb, rfl, h⟩
    exact ⟨b, List.mem_filter.2 ⟨List.mem_range.2 hb, h⟩, rfl⟩
theorem rowE_srt (P : PP) (has : List (List Int)) (a n : Nat) : SrtP (P.rowE has a n) := by
  unfold PP.rowE SrtP
  rw [List.pairwise_map]
  refine List.Pairwise.imp (R := (· < ·)) (fun h => .inr ⟨rfl, by simp only; omega⟩) ?_
  exact List.Pairwise.sublist List.filter_sublist List.pairwise_lt_range
theorem refE_srt (P : PP) (has : List (List Int)) : ∀ n, SrtP (P.refE has n)
  | 0 => List.Pairwise.nil
  | n + 1 => by
    unfold PP.refE
    rw [List.range_succ, List.flatMap_append]
    refine List.pairwise_append.2 ⟨refE_srt P has n, by simpa using rowE_srt P has n P.nodesV, fun x hx y hy => ?_⟩
    obtain ⟨a, ha, hxa⟩ := List.mem_flatMap.1 hx
    obtain ⟨b, _, rfl, _⟩ := mem_rowE.1 hxa
    have hy' : y ∈ P.rowE has n P.nodesV := by simpa using hy
    obtain ⟨c, _, rfl, _⟩ := mem_rowE.1 hy'
    have := List.mem_range.1 ha
    exact .inl (by show (a : Int) < n; omega)
theorem refE_are {P : PP} (hw : P.Well) {has : List (List Int)} (hs : SetsOk P has) : EdgesAre P has (P.refE has P.nodesV) := by
  refine ⟨refE_srt P has _, fun e => ?_⟩
  obtain ⟨x, y⟩ := e
  unfold PP.refE
  rw [List.mem_flatMap]
  constructor
  · rintro ⟨a, _, h⟩
    obtain ⟨b, _, e, h2⟩ := mem_rowE.1 h
    simp only [Prod.mk.injEq] at e
    obtain ⟨rfl, rfl⟩ := e
    exact edgeB_iff.1 h2
  · rintro ⟨h, hne⟩
    obtain ⟨h1, h2, h3, h4⟩ := edges0_in hw hs _ h
    obtain ⟨a, rfl⟩ := Int.eq_ofNat_of_zero_le h1
    obtain ⟨b, rfl⟩ := Int.eq_ofNat_of_zero_le h3
    exact ⟨a, List.mem_range.2 (by simp only at h2; omega), mem_rowE.2 ⟨b, by simp only at h4; omega, rfl, edgeB_iff.2 ⟨h, hne⟩⟩⟩
def PP.edgesL (P : PP) (has : List (List Int)) : List (Int × Int) := P.refE has P.nodesV
def PP.GoodS (P : PP) (has : List (List Int)) : Prop := P.Well ∧ has.length = P.nodesV ∧ ∀ l ∈ has, P.setE l = 0
theorem PP.GoodS.ok {P : PP} {has : List (List Int)} (h : P.GoodS has) : SetsOk P has := SetsOk.of h.2.1 h.2.2
theorem edgesL_are {P : PP} {has : List (List Int)} (h : P.GoodS has) : EdgesAre P has (P.edgesL has) := refE_are h.1 h.ok
theorem edgesL_len {P : PP} (hw : P.Well) (has : List (List Int)) : (P.edgesL has).length ≤ 50000 := by
  have hn := nodesV_le P hw
  have h1 := flatMap_len (fun a => P.rowE has a P.nodesV) 120 (List.range P.nodesV) fun a _ => by
    unfold PP.rowE
    rw [List.length_map]
    have := List.length_filter_le (fun b : Nat => P.edgeB has (a : Int) (b : Int)) (List.range P.nodesV)
    rw [List.length_range] at this
    omega
  rw [List.length_range] at h1
  unfold PP.edgesL PP.refE
  omega
structure PS0 (w : World) (n0 : Nat) (ad : Nat → Addr) (a1 a2 a3 : Option Addr) (c1 c2 c3 : Nat) (P : PP) : Prop where
  errs : ErrsP w ad
  prog : ProgR w n0 (.slice a1 P.vars.length c1) (.slice a2 P.funs.length c2) (.slice a3 P.stmts.length c3) P
  z1 : ∀ s ∈ P.vars, s.size ≤ 1000000
  z2 : ∀ s ∈ P.names, s.size ≤ 1000000
theorem PS0.ext {w w' : World} {n0 : Nat} {ad : Nat → Addr} {a1 a2 a3 : Option Addr} {c1 c2 c3 : Nat} {P : PP} (h : PS0 w n0 ad a1 a2 a3 c1 c2 c3 P) (x : Ext w w') : PS0 w' w'.heap.size ad a1 a2 a3 c1 c2 c3 P → PS0 w' w'.heap.size ad a1 a2 a3 c1 c2 c3 P := id
theorem PS0.on {w w' : World} {n0 : Nat} {ad : Nat → Addr} {a1 a2 a3 : Option Addr} {c1 c2 c3 : Nat} {P : PP} (h : PS0 w n0 ad a1 a2 a3 c1 c2 c3 P) (hn : n0 ≤ w.heap.size) (x : Ext w w') : PS0 w' w'.heap.size ad a1 a2 a3 c1 c2 c3 P := ⟨h.errs.ext x, (h.prog.ext x).lift (Nat.le_trans hn x.size), h.z1, h.z2⟩
theorem PS0.pw {w : World} {n0 : Nat} {ad : Nat → Addr} {a1 a2 a3 : Option Addr} {c1 c2 c3 : Nat} {P : PP} (h : PS0 w n0 ad a1 a2 a3 c1 c2 c3 P) (hw : P.Well) : PW w n0 ad a1 a2 a3 c1 c2 c3 P := ⟨h.errs, h.prog, h.z1, h.z2, hw⟩
def ruledP : PP := ⟨[⟨#[97]⟩, ⟨#[98]⟩], [], [⟨⟨#[99, 111, 112, 121]⟩, 0, 1, []⟩]⟩
def ruledS : Array Value := #[.string ⟨#[99, 111, 112, 121]⟩, .int .i64 0, .int .i64 1, .slice none 0 0]
theorem setE_of {P : PP} {l : List Int} (h : chkE l = 0) (hx : ∀ x ∈ l, x < (P.objectsV : Int)) : P.setE l = 0 := by
  unfold PP.setE
  rw [if_pos h, if_neg]
  rintro ⟨h1, h2⟩
  rw [List.getD_eq_getElem?_getD, List.getElem?_eq_getElem (show l.length - 1 < l.length by omega), Option.getD_some] at h2
  have := hx _ (List.getElem_mem (show l.length - 1 < l.length by omega))
  omega
theorem objects_few {P : PP} (hw : P.Well) : P.objectsV ≤ 126 := by
  have h1 := hw.few
  have h2 := nodesV_le P hw
  unfold PP.objectsV
  omega
theorem Made.set {w : World} {base g cap : Nat} {vs : List Value} {L : List (List Int)} {n : Nat} {v : Value} {l : List Int} (hr : w.ownsRow base 43 1 (.slice (some ⟨g, 0, none⟩) L.length cap) L.length vs) (hm : Made w vs L) (hv : IntsT w v l) (hn : n < L.length) :
    SetsR (w.setCell ⟨g, n, none⟩ v) (w.setCell ⟨g, n, none⟩ v).heap.size (.slice (some ⟨g, 0, none⟩) (L.set n l).length cap) (L.set n l) := by
  have k : Keep (fun q => q = g) w (w.setCell ⟨g, n, none⟩ v) := Keep.set (X := fun q => q = g) (Keep.refl _ _) rfl _
  have hni : ∀ b, b = g → ¬ IsInt w b := fun b e => by
    subst e
    obtain ⟨c, hc⟩ := own_ty hr (k := b) rfl
    exact notInt hc (by decide)
  have hvs := hm.1
  have h2 := own_set hr n (by omega) v
  rw [show L.length = (L.set n l).length from List.length_set.symm] at h2
  refine SetsR.made h2 ⟨by rw [List.length_set, List.length_set]; exact hvs, fun i u m hu hl => ?_⟩
  by_cases hi : n = i
  · subst hi
    rw [List.getElem?_set_self (by omega)] at hu hl
    obtain rfl := Option.some.inj hu
    obtain rfl := Option.some.inj hl
    exact hv.keep k hni
  · rw [List.getElem?_set_ne hi] at hu hl
    exact (hm.2 i u m hu hl).keep k hni
theorem IntsT.row {w : World} {base : Nat} {v : Value} {l : List Int} (h : IRow base w v l) : IntsT w v l := IntsT.of_row h
def Ahead (a b : List (Int × Int)) (i k : Nat) : Prop := ∀ x, a[i]? = some x → ∃ j, k ≤ j ∧ b[j]? = some x
theorem Ahead.zero {a b : List (Int × Int)} (h : ∀ e, e ∈ a → e ∈ b) : Ahead a b 0 0 := fun x hx => by
  obtain ⟨j, hj⟩ := List.mem_iff_getElem?.1 (h x (List.mem_of_getElem? hx))
  exact ⟨j, Nat.zero_le _, hj⟩
theorem Ahead.skip {a b : List (Int × Int)} {i k : Nat} {x y : Int × Int} (h : Ahead a b i k) (hx : a[i]? = some x) (hy : b[k]? = some y) (hne : y ≠ x) : Ahead a b i (k + 1) := fun z hz => by
  obtain rfl := Option.some.inj (hx.symm.trans hz)
  obtain ⟨j, hj, hb⟩ := h x hx
  refine ⟨j, ?_, hb⟩
  rcases Nat.lt_or_ge k j with g | g
  · exact g
  · obtain rfl : j = k := by omega
    exact absurd (Option.some.inj (hy.symm.trans hb)) hne
theorem Ahead.next {a b : List (Int × Int)} (ha : SrtP a) (hb : SrtP b) (hs : ∀ e, e ∈ a → e ∈ b) {i k : Nat} {x : Int × Int} (hx : a[i]? = some x) (hy : b[k]? = some x) : Ahead a b (i + 1) k := fun z hz => by
  obtain ⟨j, hj⟩ := List.mem_iff_getElem?.1 (hs z (List.mem_of_getElem? hz))
  exact ⟨j, Nat.le_of_lt (srtP_idx hb hy hj (srtP_next ha hx hz)), hj⟩
theorem Ahead.found {a b : List (Int × Int)} {i k : Nat} {x : Int × Int} (h : Ahead a b i k) (hx : a[i]? = some x) : k < b.length := by
  obtain ⟨j, hj, hb⟩ := h x hx
  rcases Nat.lt_or_ge j b.length with g | g
  · omega
  · rw [List.getElem?_eq_none g] at hb; cases hb
end Go.Proofs.YtihdpijgngooaaaGreatDoor
