/- Texts of one proof, put together: YG YC YD YE YF YH YL YR YI S5 YW YJ Z1 Z2. -/
import Derived.Test.YtdppgcbekhabnaaGreatDoorSS12
import Derived.Test.YtdppgcbekhabnaaGreatDoorSS13
import Derived.Sort.Grow
import Derived.Deep.Draws
import Derived.Laws.StructEq
import Derived.Test.YtdppgcbekhabnaaGreatDoorProg
import Derived.Shelf.SlSortCmp.NoneTotal

/- cons.Edges: where the program is not well, or the sets are at fault. -/
namespace Go.Proofs.YtdppgcbekhabnaaGreatDoor
set_option linter.unusedSimpArgs false
set_option linter.unusedVariables false
open Go Go.RowKit

end Go.Proofs.YtdppgcbekhabnaaGreatDoor



/- slices.IndexFunc and DeleteFunc over edges. -/
namespace Go.Proofs.YtdppgcbekhabnaaGreatDoor
set_option linter.unusedSimpArgs false
set_option linter.unusedVariables false
open Go Go.RowKit

def IdxG {α : Type} (p : α → Bool) (l : List α) (r : Int) : Prop := (r = -1 ∧ ∀ x ∈ l, p x = false) ∨ ∃ (i : Nat) (x : α), r = (i : Int) ∧ i < l.length ∧ l[i]? = some x ∧ p x = true ∧ ∀ j y, j < i → l[j]? = some y → p y = false
def eVal (e : Int × Int) : Value := .agg #[.int .i64 e.1, .int .i64 e.2]
theorem own_e {w : World} {base g n cap : Nat} {t : TypeId} {R : List (Int × Int)} (h : w.ownsRow base t 2 (.slice (some ⟨g, 0, none⟩) n cap) n (R.flatMap eCells)) {i : Nat} {x : Int × Int} (hx : R[i]? = some x) :
    w.cell? ⟨g, i * 2, none⟩ = some (.int .i64 x.1) ∧ w.cell? ⟨g, i * 2 + 1, none⟩ = some (.int .i64 x.2) := by
  have c : ∀ j v, (eCells x)[j]? = some v → j < 2 → w.cell? ⟨g, i * 2 + j, none⟩ = some v := fun j v hv hj => own_get h _ ((fm_get eCells 2 eCells_len R i j x hx hj).trans hv)
  exact ⟨c 0 _ rfl (by omega), c 1 _ rfl (by omega)⟩
def storeE (w : World) (g i : Nat) (y : Int × Int) : World := (w.setCell ⟨g, i, none⟩ (.int .i64 y.1)).setCell ⟨g, i + 1, none⟩ (.int .i64 y.2)
end Go.Proofs.YtdppgcbekhabnaaGreatDoor



/- slices.DeleteFunc over edges. -/
namespace Go.Proofs.YtdppgcbekhabnaaGreatDoor
set_option linter.unusedSimpArgs false
set_option linter.unusedVariables false
open Go Go.RowKit

end Go.Proofs.YtdppgcbekhabnaaGreatDoor



/- The comparison of two edges (cmp.Or of differences). -/
namespace Go.Proofs.YtdppgcbekhabnaaGreatDoor
set_option linter.unusedSimpArgs false
set_option linter.unusedVariables false
open Go Go.RowKit

/-- How two edges compare. -/
def eCmp (a b : Int × Int) : Int := if a.1 - b.1 = 0 then a.2 - b.2 else a.1 - b.1
end Go.Proofs.YtdppgcbekhabnaaGreatDoor



/- slices.Compact over edges. -/
namespace Go.Proofs.YtdppgcbekhabnaaGreatDoor
set_option linter.unusedSimpArgs false
set_option linter.unusedVariables false
open Go Go.RowKit

set_option maxRecDepth 100000 in
@[go_sem high] theorem eql_edge (w : World) (a b c d : Int) :
    (binOp .eql 127 (.agg #[.int .i64 a, .int .i64 b]) (.agg #[.int .i64 c, .int .i64 d])).run Tryz.prog w = .ok (.bool (a == c && b == d)) w := by
  have hS : Tryz.prog.underlying 127 = some (.struct (Tryz.prog.fieldsOf 127)) := by kernel_rfl
  have hp : Tryz.prog.stoodInHeld 127 = false := by kernel_rfl
  rw [run_eql_struct, show (10000 : Nat) = 9999 + 1 from rfl, run_equalIn_agg w 9999 127 _ _ hS hp]
  simp only [Program.fieldsOf, Tryz.underlying127]
  go_simp
  by_cases h1 : a = c <;> by_cases h2 : b = d <;> simp [h1, h2]

set_option maxRecDepth 100000 in
@[go_sem high] theorem neq_edge (w : World) (a b c d : Int) :
    (binOp .neq 127 (.agg #[.int .i64 a, .int .i64 b]) (.agg #[.int .i64 c, .int .i64 d])).run Tryz.prog w = .ok (.bool (a != c || b != d)) w := by
  have hS : Tryz.prog.underlying 127 = some (.struct (Tryz.prog.fieldsOf 127)) := by kernel_rfl
  have hp : Tryz.prog.stoodInHeld 127 = false := by kernel_rfl
  rw [run_neq_struct, show (10000 : Nat) = 9999 + 1 from rfl, run_equalIn_agg w 9999 127 _ _ hS hp]
  simp only [Program.fieldsOf, Tryz.underlying127]
  go_simp
  by_cases h1 : a = c <;> by_cases h2 : b = d <;> simp [h1, h2]

end Go.Proofs.YtdppgcbekhabnaaGreatDoor



/- How many edges a program has at most. -/
namespace Go.Proofs.YtdppgcbekhabnaaGreatDoor
set_option linter.unusedSimpArgs false
set_option linter.unusedVariables false
open Go Go.RowKit

theorem srt_lt {l : List Int} {M : Nat} (h : chkE l = 0) (hm : ∀ x ∈ l, x < (M : Int)) (hM : M ≤ 1000) : l.length ≤ M := by
  obtain ⟨h1, h2⟩ := chkE_zero.1 h
  rw [← sset_self h2 h1]
  unfold sset
  rw [List.length_map]
  have e : List.range 1000 = List.range M ++ (List.range (1000 - M)).map (M + ·) := by
    rw [← List.range_add]; congr 1; omega
  have e2 : ((List.range (1000 - M)).map (M + ·)).filter (fun n : Nat => decide ((n : Int) ∈ l)) = [] := by
    rw [List.filter_eq_nil_iff]
    intro n hn hd
    obtain ⟨j, _, rfl⟩ := List.mem_map.1 hn
    have := hm _ (of_decide_eq_true hd)
    omega
  rw [e, List.filter_append, e2, List.append_nil]
  have := List.length_filter_le (fun n : Nat => decide ((n : Int) ∈ l)) (List.range M)
  rw [List.length_range] at this
  exact this
theorem flatMap_len {α β : Type} (f : α → List β) (c : Nat) : ∀ l : List α, (∀ x ∈ l, (f x).length ≤ c) → (l.flatMap f).length ≤ l.length * c
  | [], _ => Nat.zero_le _
  | x :: r, h => by
    have h1 := h x List.mem_cons_self
    have h2 := flatMap_len f c r fun y hy => h y (List.mem_cons_of_mem _ hy)
    rw [List.flatMap_cons, List.length_append, List.length_cons, Nat.add_mul]
    omega
theorem calledV_len (f : PF) (r : RV) : (calledV f r).length ≤ r.args.length + 1 := by
  unfold calledV
  split
  · rw [List.length_cons, List.length_zip]; omega
  · exact Nat.zero_le _
theorem callsOf_len (P : PP) (r : RV) (o : Int) : (P.callsOf r o).length ≤ r.args.length + 1 := by
  unfold PP.callsOf
  split
  · exact calledV_len _ _
  · exact Nat.zero_le _
theorem getD_len {has : List (List Int)} {M : Nat} (h : ∀ l ∈ has, l.length ≤ M) (i : Nat) : (has.getD i []).length ≤ M := by
  rw [List.getD_eq_getElem?_getD]
  cases he : has[i]? with
  | none => exact Nat.zero_le _
  | some l => exact h l (List.mem_of_getElem? he)
theorem redges_len (P : PP) (r : RV) (has : List (List Int)) (M : Nat) (h : ∀ l ∈ has, l.length ≤ M) (ha : r.args.length ≤ 3) : (P.redges r has).length ≤ M * 4 + 1 := by
  unfold PP.redges
  cases r.kind.toList == kCopy
  · cases r.kind.toList == kLoad
    · cases r.kind.toList == kStore
      · cases r.kind.toList == kCall
        · exact Nat.zero_le _
        · simp only [cond_true, cond_false]
          have h1 := flatMap_len (P.callsOf r) 4 (has.getD r.a.toNat []) fun o _ => by have := callsOf_len P r o; omega
          have h2 := getD_len h r.a.toNat
          omega
      · simp only [cond_true, cond_false, List.length_map]
        have h1 := List.length_filter_le (fun x => !decide ((P.nodesV : Int) ≤ x)) (has.getD r.b.toNat [])
        have h2 := getD_len h r.b.toNat
        unfold PP.nodesOf
        omega
    · simp only [cond_true, cond_false, List.length_map]
      have h1 := List.length_filter_le (fun x => !decide ((P.nodesV : Int) ≤ x)) (has.getD r.a.toNat [])
      have h2 := getD_len h r.a.toNat
      unfold PP.nodesOf
      omega
  · simp only [cond_true, List.length_cons, List.length_nil]; omega
theorem ruleV_few {P : PP} (hw : P.Well) {k : Nat} (hk : k < P.stmts.length) : (P.ruleV k (P.stAt k)).args.length ≤ 3 := by
  have h0 := hw.2 k (P.stAt k) hk (stAt_some hk)
  unfold PP.ruleV
  cases (P.stAt k).isK kAddr
  · cases (P.stAt k).isK kNew
    · cases (P.stAt k).isK kFun
      · cases hc : (P.stAt k).isK kCall
        · exact Nat.zero_le _
        · exact call_few h0 hc
      · exact Nat.zero_le _
    · exact Nat.zero_le _
  · exact Nat.zero_le _
theorem rulesUp_len {P : PP} {has : List (List Int)} (hw : P.Well) (hs : SetsOk P has) (k : Nat) (hk : k ≤ P.stmts.length) : ((P.rulesUp k).flatMap fun r => P.redges r has).length ≤ 50000 := by
  obtain ⟨f1, f2, f3⟩ := hw.few
  have hn := P.newsN_le P.stmts.length
  have hM : ∀ l ∈ has, l.length ≤ 126 := fun l hl => by
    have := srt_lt (M := P.objectsV) (hs.ok l hl).1 (hs.ok l hl).2 (by unfold PP.objectsV PP.nodesV; omega)
    unfold PP.objectsV PP.nodesV at this
    omega
  have h1 := flatMap_len (fun r => P.redges r has) (126 * 4 + 1) (P.rulesUp k) fun r hr => by
    unfold PP.rulesUp at hr
    obtain ⟨j, hj, rfl⟩ := List.mem_map.1 hr
    exact redges_len P _ has 126 hM (ruleV_few hw (by have := List.mem_range.1 hj; omega))
  have h2 : (P.rulesUp k).length = k := by unfold PP.rulesUp; rw [List.length_map, List.length_range]
  rw [h2] at h1
  omega
end Go.Proofs.YtdppgcbekhabnaaGreatDoor



/- The contracts of slices.SortFunc, laid at the numbers of this seat (written by the shelf's tool). -/
namespace Go.Proofs
open Go.Shelf
def Tryz.sortE_ren : Go.Shelf.Ren := ⟨fun | 6 => 116 | 15 => 132 | 14 => 131 | 28 => 154 | 29 => 155 | 20 => 146 | 21 => 147 | 22 => 148 | 23 => 149 | 24 => 150 | 25 => 151 | 26 => 152 | 27 => 153 | 46 => 164 | 47 => 165 | 48 => 166 | 49 => 167 | 50 => 168 | 57 => 173 | n => n, fun | 22 => 143 | 24 => 127 | 25 => 185 | 3 => 3 | 39 => 213 | 0 => 0 | 53 => 234 | 55 => 236 | 4 => 4 | 46 => 228 | 45 => 227 | 50 => 106 | 5 => 5 | 9 => 9 | 66 => 244 | 70 => 248 | 76 => 252 | 77 => 92 | n => n, fun | n => n⟩
end Go.Proofs



/- slices.SortFunc over edges, in order of both numbers. -/
namespace Go.Proofs.YtdppgcbekhabnaaGreatDoor
set_option linter.unusedSimpArgs false
set_option linter.unusedVariables false
open Go Go.RowKit Go.Sort

/-- An edge of numbers from 0 to below 1000. -/
def InE (e : Int × Int) : Prop := 0 ≤ e.1 ∧ e.1 < 1000 ∧ 0 ≤ e.2 ∧ e.2 < 1000
abbrev SE := { e : Int × Int // InE e }
instance : Inhabited SE := ⟨⟨(0, 0), by unfold InE; omega⟩⟩
def seCells (x : SE) : List Value := eCells x.1
def seCmp (x y : SE) : Int := eCmp x.1 y.1
end Go.Proofs.YtdppgcbekhabnaaGreatDoor



/- cons.Edges of a well program, with sets that are well. -/
namespace Go.Proofs.YtdppgcbekhabnaaGreatDoor
set_option linter.unusedSimpArgs false
set_option linter.unusedVariables false
open Go Go.RowKit

theorem own_r {w : World} {base g n cap : Nat} {rs : List R2} (h : w.ownsRow base 86 5 (.slice (some ⟨g, 0, none⟩) n cap) n (rs.flatMap R2.cells)) {i : Nat} {x : R2} (hx : rs[i]? = some x) :
    w.cell? ⟨g, i * 5, none⟩ = some (.string x.r.kind) ∧ w.cell? ⟨g, i * 5 + 1, none⟩ = some (.int .i64 x.r.a) ∧ w.cell? ⟨g, i * 5 + 2, none⟩ = some (.int .i64 x.r.b) ∧ w.cell? ⟨g, i * 5 + 3, none⟩ = some (.int .i64 x.r.k) ∧ w.cell? ⟨g, i * 5 + 4, none⟩ = some x.v := by
  have c : ∀ j v, x.cells[j]? = some v → j < 5 → w.cell? ⟨g, i * 5 + j, none⟩ = some v := fun j v hv hj => own_get h _ ((fm_get R2.cells 5 R2.cells_len rs i j x hx hj).trans hv)
  exact ⟨c 0 _ rfl (by omega), c 1 _ rfl (by omega), c 2 _ rfl (by omega), c 3 _ rfl (by omega), c 4 _ rfl (by omega)⟩
theorem rules_at {P : PP} {rs : List R2} (h : rs.map R2.r = P.rulesV) {k : Nat} (hk : k < P.stmts.length) : ∃ x, rs[k]? = some x ∧ x.r = P.ruleV k (P.stAt k) := by
  have hl : rs.length = P.stmts.length := by have := congrArg List.length h; rw [List.length_map] at this; rw [this]; exact P.rulesUp_len _
  have hkr : k < rs.length := by omega
  refine ⟨rs[k], List.getElem?_eq_getElem hkr, ?_⟩
  have h1 : (rs.map R2.r)[k]? = some (rs[k]).r := by rw [List.getElem?_map, List.getElem?_eq_getElem hkr]; rfl
  rw [h] at h1
  unfold PP.rulesV PP.rulesUp at h1
  rw [List.getElem?_map, List.getElem?_range hk] at h1
  exact (Option.some.inj h1).symm
end Go.Proofs.YtdppgcbekhabnaaGreatDoor



/- Sets: what two have in common. -/
namespace Go.Proofs.YtdppgcbekhabnaaGreatDoor
set_option linter.unusedSimpArgs false
set_option linter.unusedVariables false
open Go Go.RowKit

theorem sethas_any (v : Value) (l : List Int) (s : Int) (w : World) (n0 : Nat) (h : IntsR w n0 v l) : Calls Tryz.prog 33 #[v, .int .i64 s] w fun e w' => e = .returned (.bool (decide (s ∈ l))) ∧ w = w' := by
  have H := hid (containsi_any v l s w n0 h)
  obtain ⟨a, cap, rfl, _⟩ := h
  go_enter Tryz.func33, Tryz.ntmps33
  go_wp2_with fail
  refine H.out.mono ?_
  intro e w1 hx
  obtain ⟨rfl, rfl⟩ := hx
  clear H
  go_wp2
  go_ret
  exact ⟨rfl, rfl⟩
end Go.Proofs.YtdppgcbekhabnaaGreatDoor



/- Sets: is each of one list one of another? (set.Within) -/
namespace Go.Proofs.YtdppgcbekhabnaaGreatDoor
set_option linter.unusedSimpArgs false
set_option linter.unusedVariables false
open Go Go.RowKit

set_option maxRecDepth 100000 in
set_option maxHeartbeats 800000 in
theorem indexfi_wi (b : Value) (p : Int → Bool) (v : Value) (l : List Int) (w : World) (n0 : Nat) (h : IntsR w n0 v l) (hF : ∀ n w1, Ext w w1 → Calls Tryz.prog 54 #[.int .i64 n, b] w1 fun e w' => e = .returned (.bool (p n)) ∧ Ext w1 w') :
    Calls Tryz.prog 80 #[v, .func (.func 54) #[] #[b]] w fun e w' => ∃ r : Int, e = .returned (.int .i64 r) ∧ IdxF p l r ∧ Ext w w' := by
  have HS := hid h
  have HF := hid hF
  obtain ⟨a, cap, rfl, h2, h3, h4, _⟩ := h
  have H4 := hid h4
  have hml : (l.length : Int) ≤ 9223372036854775807 := by omega
  clear h2 h3 h4 hF
  go_enter Tryz.func80, Tryz.ntmps80
  go_wp2
  go_loopw [8] (fun t8 wr => ∃ k : Nat, t8 = .int .i64 (k : Int) ∧ k ≤ l.length ∧ (∀ j t, j < k → l[j]? = some t → p t = false) ∧ Ext w wr) (fun t8 _ => l.length - (intOf t8).toNat)
  case atStart => exact ⟨0, rfl, Nat.zero_le _, fun j t h => by omega, Ext.refl _⟩
  case round =>
    obtain ⟨k, rfl, hk, hne, hx⟩ := hrel
    have Hne := hid hne
    clear hne
    by_cases hlt : k < l.length
    · obtain ⟨y, rfl⟩ := H4.out (by omega)
      have hxk : l[k]? = some (l[k]'hlt) := List.getElem?_eq_getElem hlt
      obtain ⟨t, ht⟩ : ∃ t, t = l[k]'hlt := ⟨_, rfl⟩
      rw [← ht] at hxk
      obtain ⟨a', cap', h1, _, _, _, h5⟩ := HS.out.old (hx.old n0)
      obtain ⟨rfl, rfl⟩ : some y = a' ∧ cap = cap' := by simpa using h1
      have hc := (h5 y rfl (by omega)).2 k hlt t hxk
      have HN := hid (HF.out t wr hx)
      have Hxk := hid hxk
      have Hx := hid hx
      clear hxk ht h1 h5 hx
      go_wp2_with fail
      refine HN.out.mono ?_
      intro e w1 hx1
      obtain ⟨rfl, hx1⟩ := hx1
      have Hx1 := hid (Hx.out.trans hx1)
      clear HN hx1 Hx hc
      cases he : p t with
      | true =>
        have Hin := hid (show IdxF p l (k : Int) from .inr ⟨k, t, rfl, hlt, Hxk.out, he, Hne.out⟩)
        go_wp2
        go_ret
        exact ⟨(k : Int), rfl, Hin.out, Hx1.out⟩
      | false =>
        have Hf := hid he
        clear he
        go_wp2
        go_roundw
        case rel =>
          refine ⟨k + 1, by go_num, by omega, fun j u hj hu => ?_, Hx1.out⟩
          by_cases hjk : j = k
          · subst hjk
            obtain rfl := Option.some.inj (Hxk.out.symm.trans hu)
            exact Hf.out
          · exact Hne.out j u (by omega) hu
        case measure => simp [intOf]; omega
    · obtain rfl : k = l.length := by omega
      have Hx := hid hx
      clear hx
      have Hnot := hid (show IdxF p l (-1) from .inl ⟨rfl, fun x hx => by
        obtain ⟨j, hj, e2⟩ := List.mem_iff_getElem.1 hx
        exact Hne.out j x hj (by rw [List.getElem?_eq_getElem hj, e2])⟩)
      go_wp2
      go_ret
      exact ⟨(-1 : Int), rfl, Hnot.out, Hx.out⟩

set_option maxRecDepth 100000 in
set_option maxHeartbeats 800000 in
theorem containsfi_wi (b : Value) (p : Int → Bool) (v : Value) (l : List Int) (w : World) (n0 : Nat) (h : IntsR w n0 v l) (hF : ∀ n w1, Ext w w1 → Calls Tryz.prog 54 #[.int .i64 n, b] w1 fun e w' => e = .returned (.bool (p n)) ∧ Ext w1 w') :
    Calls Tryz.prog 53 #[v, .func (.func 54) #[] #[b]] w fun e w' => e = .returned (.bool (l.any p)) ∧ Ext w w' := by
  have H := hid (indexfi_wi b p v l w n0 h hF)
  obtain ⟨a, cap, rfl, h2, h3, _⟩ := h
  have hml : (l.length : Int) ≤ 9223372036854775807 := by omega
  clear hF
  go_enter Tryz.func53, Tryz.ntmps53
  go_wp2_with fail
  refine H.out.mono ?_
  intro e w1 hx
  obtain ⟨r, rfl, hr, hx⟩ := hx
  clear H
  rcases hr with ⟨rfl, hr⟩ | ⟨i, x, rfl, hi, hxi, hp, _⟩
  · have Hr := hid (show l.any p = false from List.any_eq_false.2 fun x hx => by rw [hr x hx]; simp)
    clear hr
    go_wp2
    go_ret
    exact ⟨by rw [Hr.out]; rfl, hx⟩
  · have Hr := hid (show l.any p = true from List.any_eq_true.2 ⟨x, List.mem_of_getElem? hxi, hp⟩)
    clear hp hxi
    go_wp2
    go_ret
    exact ⟨by rw [Hr.out]; rfl, hx⟩
theorem setwithinc_any (g : Nat) (vb : Value) (b : List Int) (n : Int) (w : World) (n0 : Nat) (hB : Blk w g #[vb] 27) (hb : IntsR w n0 vb b) :
    Calls Tryz.prog 54 #[.int .i64 n, .pointer (some ⟨g, 0, none⟩)] w fun e w' => e = .returned (.bool (!decide (n ∈ b))) ∧ Ext w w' := by
  have H := hid (sethas_any vb b n w n0 hb)
  obtain ⟨a, cap, rfl, _⟩ := hb
  have c0 := hB.av 0 rfl
  simp only [List.getElem_toArray, List.getElem_cons_zero] at c0
  clear hB
  generalize decide (n ∈ b) = d at *
  go_enter Tryz.func54, Tryz.ntmps54
  go_wp2_with fail
  refine H.out.mono ?_
  intro e w1 hx
  obtain ⟨rfl, rfl⟩ := hx
  clear H c0
  go_wp2
  go_ret
  exact ⟨rfl, Ext.refl _⟩
set_option maxRecDepth 100000 in
set_option maxHeartbeats 800000 in
theorem setwithin_any (va vb : Value) (a b : List Int) (w : World) (n0 : Nat) (ha : IntsR w n0 va a) (hb : IntsR w n0 vb b) :
    Calls Tryz.prog 20 #[va, vb] w fun e w' => e = .returned (.bool (a.all fun n => decide (n ∈ b))) ∧ Ext w w' := by
  obtain ⟨W, hW⟩ : ∃ W, W = w.alloc (.cells #[vb] 27) := ⟨_, rfl⟩
  have hxW : Ext w W := by rw [hW]; exact (Ext.refl _).alloc _
  have HBl : Hid (Blk W w.heap.size #[vb] 27) := hid (by rw [hW]; exact Blk.new _ _ _)
  have HC := hid (containsfi_wi (.pointer (some ⟨w.heap.size, 0, none⟩)) (fun n => !decide (n ∈ b)) va a W n0 (ha.old (hxW.old n0)) (fun n w2 x2 => setwithinc_any w.heap.size vb b n w2 n0 (HBl.out.ext x2) (hb.old ((hxW.trans x2).old n0))))
  have HxW := hid hxW
  obtain ⟨aa, ca, rfl, _⟩ := ha
  obtain ⟨ab, cb, rfl, _⟩ := hb
  have HWe := hid hW
  obtain ⟨d, hd⟩ : ∃ d, d = a.any (fun n => !decide (n ∈ b)) := ⟨_, rfl⟩
  have Hd : Hid ((a.all fun n => decide (n ∈ b)) = !d) := hid (by
    rw [hd, List.any_eq_not_all_not, Bool.not_not]
    congr 1
    funext n
    rw [Bool.not_not])
  rw [← hd] at HC
  clear hxW hW hd
  go_enter Tryz.func20, Tryz.ntmps20
  go_wp2_with fail
  rw [← HWe.out]
  refine HC.out.mono ?_
  intro e w1 hx
  obtain ⟨rfl, hx1⟩ := hx
  have Hx1 := hid (HxW.out.trans hx1)
  clear HC hx1
  go_wp2
  go_ret
  exact ⟨by rw [Hd.out]; rfl, Hx1.out⟩
end Go.Proofs.YtdppgcbekhabnaaGreatDoor



/- slices.ContainsFunc over edges: is an edge's source not within its end? -/
namespace Go.Proofs.YtdppgcbekhabnaaGreatDoor
set_option linter.unusedSimpArgs false
set_option linter.unusedVariables false
open Go Go.RowKit

end Go.Proofs.YtdppgcbekhabnaaGreatDoor



/- cons.Closed: where the program is not well, or the sets are at fault. -/
namespace Go.Proofs.YtdppgcbekhabnaaGreatDoor
set_option linter.unusedSimpArgs false
set_option linter.unusedVariables false
open Go Go.RowKit

end Go.Proofs.YtdppgcbekhabnaaGreatDoor



/- cons.Closed of a well program, with sets that are well. -/
namespace Go.Proofs.YtdppgcbekhabnaaGreatDoor
set_option linter.unusedSimpArgs false
set_option linter.unusedVariables false
open Go Go.RowKit

end Go.Proofs.YtdppgcbekhabnaaGreatDoor

