/- Texts of one proof, put together: YK S3 S4 YB YN YM YG YC YD YE YF YH YL YR YI S5 YW YJ Z1 Z2 Z3 YT Z4 M1 E1 E2 ZL ZM ZN ZO ZP ZT ZZWa ZZWb MQ MR ZQ ZR X5 Z5 X3 X6 ZS ZU ZV. -/
import Derived.Test.YtngdpnlgnpdkcaaGreatDoorHWF02
import Derived.Test.YtngdpnlgnpdkcaaGreatDoorHWF03
import Derived.Lib.AppendZeros
import Derived.Sort.Grow
import Derived.Deep.Draws
import Derived.Laws.StructEq
import Derived.Test.YtngdpnlgnpdkcaaGreatDoorProg
import Derived.Shelf.SlSortCmp.NoneTotal
import Derived.Maps.Keyed
import Derived.DeepKeys4
import Derived.Test.YtngdpnlgnpdkcaaGreatDoorHWF01
set_option linter.unusedSimpArgs false
set_option linter.unusedVariables false
namespace Go.Proofs.YtngdpnlgnpdkcaaGreatDoor
open Go Go.RowKit
def PP.InN (P : PP) (e : Int × Int) : Prop := 0 ≤ e.1 ∧ e.1 < P.nodesV ∧ 0 ≤ e.2 ∧ e.2 < P.nodesV
theorem nodes_in {P : PP} {has : List (List Int)} (hs : SetsOk P has) (i : Nat) (o : Int) (ho : o ∈ P.nodesOf (has.getD i [])) : 0 ≤ o ∧ o < (P.nodesV : Int) := by
  unfold PP.nodesOf at ho
  obtain ⟨h1, h2⟩ := List.mem_filter.1 ho
  have h3 : o < (P.nodesV : Int) := by simpa using h2
  rw [List.getD_eq_getElem?_getD] at h1
  cases he : has[i]? with
  | none => rw [he] at h1; cases h1
  | some l => rw [he] at h1; exact ⟨(hs.inr l (List.mem_of_getElem? he) o h1).1, h3⟩
theorem called_in {P : PP} (hw : P.Well) {f : PF} (hf : f ∈ P.funs) {r : RV} (hb : 0 ≤ r.b ∧ r.b < P.nodesV) (ha : ∀ a ∈ r.args, 0 ≤ a ∧ a < (P.nodesV : Int)) : ∀ e ∈ calledV f r, P.InN e := by
  intro e he
  have g := PP.goodF (PP.funs_ok hw.1) hf
  have hnv := nodes_vars P
  unfold calledV at he
  split at he
  · rcases List.mem_cons.1 he with rfl | he
    · have := g.ret
      exact ⟨this.1, by show f.ret < _; omega, hb.1, hb.2⟩
    · obtain ⟨a, b⟩ := e
      obtain ⟨h1, h2⟩ := List.of_mem_zip he
      have p1 := ha a h1
      have p2 := g.params b h2
      exact ⟨p1.1, p1.2, p2.1, by show b < _; omega⟩
  · cases he
set_option maxRecDepth 100000 in
theorem redges_in {P : PP} {has : List (List Int)} (hw : P.Well) (hs : SetsOk P has) {k : Nat} (hk : k < P.stmts.length) : ∀ e ∈ P.redges (P.ruleV k (P.stAt k)) has, P.InN e := by
  have h0 := hw.2 k (P.stAt k) hk (stAt_some hk)
  have hg := PP.good h0
  have hnv := nodes_vars P
  obtain ⟨x, hx⟩ : ∃ x, x = P.stAt k := ⟨_, rfl⟩
  rw [← hx] at h0 hg ⊢
  have hgx := hg.gx
  rcases kind_cases h0 with g | g | g | g | g | g | g
  · rw [redges_nil (by unfold PP.ruleV; rw [g]; rfl)]
    intro e he; cases he
  · have e : P.ruleV k x = ⟨x.kind, x.y, x.x, k, []⟩ := by unfold PP.ruleV; rw [isK_ne g (k' := kAddr) rfl, isK_ne g (k' := kNew) rfl, isK_ne g (k' := kFun) rfl, isK_ne g (k' := kCall) rfl]; rfl
    have hy := hg.yv (isK_ne g (k' := kFun) rfl) (isK_ne g (k' := kNew) rfl)
    have h2 : (x.kind.toList == kCopy) = true := g
    rw [e]
    unfold PP.redges
    dsimp only
    rw [h2, cond_true]
    intro e he
    obtain rfl := List.mem_singleton.1 he
    exact ⟨hy.1, by show x.y < _; omega, hgx.1, by show x.x < _; omega⟩
  · have e : P.ruleV k x = ⟨x.kind, x.y, x.x, k, []⟩ := by unfold PP.ruleV; rw [isK_ne g (k' := kAddr) rfl, isK_ne g (k' := kNew) rfl, isK_ne g (k' := kFun) rfl, isK_ne g (k' := kCall) rfl]; rfl
    have h1 : (x.kind.toList == kCopy) = false := isK_ne g (k' := kCopy) rfl
    have h2 : (x.kind.toList == kLoad) = true := g
    rw [e]
    unfold PP.redges
    dsimp only
    rw [h1, h2, cond_true, cond_false]
    intro e he
    obtain ⟨o, ho, rfl⟩ := List.mem_map.1 he
    have := nodes_in hs _ o ho
    exact ⟨this.1, this.2, hgx.1, by show x.x < _; omega⟩
  · have e : P.ruleV k x = ⟨x.kind, x.y, x.x, k, []⟩ := by unfold PP.ruleV; rw [isK_ne g (k' := kAddr) rfl, isK_ne g (k' := kNew) rfl, isK_ne g (k' := kFun) rfl, isK_ne g (k' := kCall) rfl]; rfl
    have hy := hg.yv (isK_ne g (k' := kFun) rfl) (isK_ne g (k' := kNew) rfl)
    have h1 : (x.kind.toList == kCopy) = false := isK_ne g (k' := kCopy) rfl
    have h3 : (x.kind.toList == kLoad) = false := isK_ne g (k' := kLoad) rfl
    have h2 : (x.kind.toList == kStore) = true := g
    rw [e]
    unfold PP.redges
    dsimp only
    rw [h1, h2, h3, cond_true, cond_false, cond_false]
    intro e he
    obtain ⟨o, ho, rfl⟩ := List.mem_map.1 he
    have := nodes_in hs _ o ho
    exact ⟨hy.1, by show x.y < _; omega, this.1, this.2⟩
  · rw [redges_nil (by unfold PP.ruleV; rw [isK_ne g (k' := kAddr) rfl, g]; rfl)]
    intro e he; cases he
  · rw [redges_nil (by unfold PP.ruleV; rw [isK_ne g (k' := kAddr) rfl, isK_ne g (k' := kNew) rfl, g]; rfl)]
    intro e he; cases he
  · have e : P.ruleV k x = ⟨bCall, x.y, x.x, k, x.args⟩ := by unfold PP.ruleV; rw [isK_ne g (k' := kAddr) rfl, isK_ne g (k' := kNew) rfl, isK_ne g (k' := kFun) rfl, g]; rfl
    have hkd := eq_of_beq bCall_list
    rw [e]
    unfold PP.redges kCopy kLoad kStore kCall
    dsimp only
    rw [hkd]
    intro e he
    obtain ⟨o, _, ho⟩ := List.mem_flatMap.1 (show e ∈ (has.getD x.y.toNat []).flatMap (P.callsOf ⟨bCall, x.y, x.x, k, x.args⟩) from he)
    unfold PP.callsOf at ho
    split at ho
    · rename_i hF
      have hlt := funV_lt hF
      have hn : (P.funV o).toNat < P.funs.length := by omega
      rw [List.getD_eq_getElem?_getD, List.getElem?_eq_getElem hn] at ho
      exact called_in hw (List.getElem_mem hn) (r := ⟨bCall, x.y, x.x, k, x.args⟩) ⟨hgx.1, by show x.x < _; omega⟩ (fun a ha => by have := hg.args a ha; omega) e ho
    · cases ho
theorem edges0_in {P : PP} {has : List (List Int)} (hw : P.Well) (hs : SetsOk P has) : ∀ e ∈ P.edges0 has, P.InN e := by
  intro e he
  unfold PP.edges0 PP.rulesV PP.rulesUp at he
  obtain ⟨r, hr, he⟩ := List.mem_flatMap.1 he
  obtain ⟨k, hk, rfl⟩ := List.mem_map.1 hr
  exact redges_in hw hs (List.mem_range.1 hk) e he
theorem nodesV_le (P : PP) (hw : P.Well) : P.nodesV ≤ 120 := by
  have := hw.few
  have := P.nodesV_le2
  omega
structure EdgesAre (P : PP) (has : List (List Int)) (l : List (Int × Int)) : Prop where
  srt : SrtP l
  mem : ∀ e, e ∈ l ↔ e ∈ P.edges0 has ∧ e.1 ≠ e.2
theorem EdgesAre.uniq {P : PP} {has : List (List Int)} {a b : List (Int × Int)} (h : EdgesAre P has a) (k : EdgesAre P has b) : a = b :=
  srtP_uniq h.srt k.srt fun e => (h.mem e).trans (k.mem e).symm
def TwoR (ad : Nat → Addr) (a b c : List Int) (n0 : Nat) (w : World) (t : Value) : Prop :=
  (bothE a b = 0 ∧ ∃ v, t = .tuple #[v, .nilIface] ∧ IRow n0 w v c) ∨ (bothE a b ≠ 0 ∧ t = .tuple #[.slice none 0 0, evOf ad (bothE a b)])
def PP.setE (P : PP) (l : List Int) : Nat := if chkE l = 0 then (if 0 < l.length ∧ (P.objectsV : Int) ≤ l.getD (l.length - 1) 0 then 2 else 0) else chkE l
def SetsIs (ad : Nat → Addr) (P : PP) (has : List (List Int)) (w : World) (v : Value) : Prop :=
  (has.length ≠ P.nodesV ∧ v = evOf ad 3) ∨ (has.length = P.nodesV ∧ (∀ l ∈ has, P.setE l = 0) ∧ v = .nilIface) ∨
  (has.length = P.nodesV ∧ ∃ (i : Nat) (l : List Int) (b : Nat), has[i]? = some l ∧ P.setE l ≠ 0 ∧ (∀ j m, j < i → has[j]? = some m → P.setE m = 0) ∧ v = .iface 126 (.pointer (some ⟨b, 0, none⟩)) ∧ Blk w b #[.int .i64 (i : Int), evOf ad (P.setE l)] 128)
theorem setE_zero {P : PP} {l : List Int} (h : P.setE l = 0) : chkE l = 0 ∧ ∀ x ∈ l, x < P.objectsV := by
  unfold PP.setE at h
  by_cases h0 : chkE l = 0
  · rw [if_pos h0] at h
    refine ⟨h0, fun x hx => ?_⟩
    obtain ⟨i, hi, rfl⟩ := List.getElem_of_mem hx
    have hl : 0 < l.length := by omega
    by_cases hb : 0 < l.length ∧ (P.objectsV : Int) ≤ l.getD (l.length - 1) 0
    · rw [if_pos hb] at h; cases h
    · have hlast : l.getD (l.length - 1) 0 < (P.objectsV : Int) := by omega
      rw [List.getD_eq_getElem?_getD, List.getElem?_eq_getElem (by omega)] at hlast
      have hs := (chkE_zero.1 h0).2
      rcases Nat.lt_or_ge i (l.length - 1) with g | g
      · have := List.pairwise_iff_getElem.1 hs i (l.length - 1) hi (by omega) g
        have h2 : (some (l[l.length - 1]'(by omega))).getD 0 = l[l.length - 1]'(by omega) := rfl
        rw [h2] at hlast
        omega
      · have e : i = l.length - 1 := by omega
        subst e
        exact hlast
  · rw [if_neg h0] at h; exact absurd h h0
theorem SetsOk.of {P : PP} {has : List (List Int)} (h1 : has.length = P.nodesV) (h2 : ∀ l ∈ has, P.setE l = 0) : SetsOk P has := ⟨h1, fun l hl => setE_zero (h2 l hl)⟩
structure ClosedP (P : PP) (has : List (List Int)) : Prop where
  base : ∀ k, k < P.stmts.length → (P.ruleV k (P.stAt k)).kind.toList = bBase.toList → (P.ruleV k (P.stAt k)).b ∈ has.getD (P.ruleV k (P.stAt k)).a.toNat []
  edge : ∀ e ∈ P.edges0 has, e.1 ≠ e.2 → ∀ n ∈ has.getD e.1.toNat [], n ∈ has.getD e.2.toNat []
def PP.turned (P : PP) : PP := ⟨P.vars, P.funs, P.stmts.reverse⟩
def PP.noNew (P : PP) : Prop := ∀ x ∈ P.stmts, x.isK kNew = false
def PP.sOk (P : PP) (has : List (List Int)) (x : PS) : Prop := (P.ruleV 0 x).kind.toList = bBase.toList → (P.ruleV 0 x).b ∈ has.getD (P.ruleV 0 x).a.toNat []
def Sub (a b : List (List Int)) : Prop := ∀ i x, x ∈ a.getD i [] → x ∈ b.getD i []
theorem nodesOf_mono {P : PP} {a b : List Int} (h : ∀ x, x ∈ a → x ∈ b) : ∀ x, x ∈ P.nodesOf a → x ∈ P.nodesOf b := fun x hx => by
  unfold PP.nodesOf at hx ⊢
  obtain ⟨h1, h2⟩ := List.mem_filter.1 hx
  exact List.mem_filter.2 ⟨h x h1, h2⟩
theorem redges_mono {P : PP} {a b : List (List Int)} (h : Sub a b) (r : RV) : ∀ e, e ∈ P.redges r a → e ∈ P.redges r b := by
  intro e
  unfold PP.redges
  cases r.kind.toList == kCopy
  · cases r.kind.toList == kLoad
    · cases r.kind.toList == kStore
      · cases r.kind.toList == kCall
        · exact id
        · simp only [cond_true, cond_false]
          intro he
          obtain ⟨o, ho, hm⟩ := List.mem_flatMap.1 he
          exact List.mem_flatMap.2 ⟨o, h _ _ ho, hm⟩
      · simp only [cond_true, cond_false]
        intro he
        obtain ⟨o, ho, hm⟩ := List.mem_map.1 he
        exact List.mem_map.2 ⟨o, nodesOf_mono (h _) _ ho, hm⟩
    · simp only [cond_true, cond_false]
      intro he
      obtain ⟨o, ho, hm⟩ := List.mem_map.1 he
      exact List.mem_map.2 ⟨o, nodesOf_mono (h _) _ ho, hm⟩
  · exact id
theorem edges0_mono {P : PP} {a b : List (List Int)} (h : Sub a b) : ∀ e, e ∈ P.edges0 a → e ∈ P.edges0 b := by
  intro e he
  unfold PP.edges0 at he ⊢
  obtain ⟨r, hr, hm⟩ := List.mem_flatMap.1 he
  exact List.mem_flatMap.2 ⟨r, hr, redges_mono h r e hm⟩
def plusAt (has : List (List Int)) (n : Nat) (o : Int) : List (List Int) := has.set n (sset (has.getD n [] ++ [o]))
theorem srtP_idx {b : List (Int × Int)} (h : SrtP b) {i j : Nat} {x y : Int × Int} (hi : b[i]? = some x) (hj : b[j]? = some y) (hlt : lexLt x y) : i < j := by
  have hil : i < b.length := by
    rcases Nat.lt_or_ge i b.length with g | g
    · exact g
    · rw [List.getElem?_eq_none g] at hi; cases hi
  have hjl : j < b.length := by
    rcases Nat.lt_or_ge j b.length with g | g
    · exact g
    · rw [List.getElem?_eq_none g] at hj; cases hj
  rw [List.getElem?_eq_getElem hil] at hi
  rw [List.getElem?_eq_getElem hjl] at hj
  obtain rfl := Option.some.inj hi
  obtain rfl := Option.some.inj hj
  rcases Nat.lt_trichotomy i j with g | g | g
  · exact g
  · subst g; exact absurd hlt (lexLt.irr _)
  · exact absurd (hlt.trans (List.pairwise_iff_getElem.1 h j i hjl hil g)) (lexLt.irr _)
theorem srtP_next {a : List (Int × Int)} (h : SrtP a) {i : Nat} {x y : Int × Int} (hi : a[i]? = some x) (hj : a[i + 1]? = some y) : lexLt x y := by
  have hjl : i + 1 < a.length := by
    rcases Nat.lt_or_ge (i + 1) a.length with g | g
    · exact g
    · rw [List.getElem?_eq_none g] at hj; cases hj
  rw [List.getElem?_eq_getElem (by omega)] at hi
  rw [List.getElem?_eq_getElem hjl] at hj
  obtain rfl := Option.some.inj hi
  obtain rfl := Option.some.inj hj
  exact List.pairwise_iff_getElem.1 h i (i + 1) (by omega) hjl (by omega)
def IdxG {α : Type} (p : α → Bool) (l : List α) (r : Int) : Prop := (r = -1 ∧ ∀ x ∈ l, p x = false) ∨ ∃ (i : Nat) (x : α), r = (i : Int) ∧ i < l.length ∧ l[i]? = some x ∧ p x = true ∧ ∀ j y, j < i → l[j]? = some y → p y = false
def eVal (e : Int × Int) : Value := .agg #[.int .i64 e.1, .int .i64 e.2]
theorem own_e {w : World} {base g n cap : Nat} {t : TypeId} {R : List (Int × Int)} (h : w.ownsRow base t 2 (.slice (some ⟨g, 0, none⟩) n cap) n (R.flatMap eCells)) {i : Nat} {x : Int × Int} (hx : R[i]? = some x) :
    w.cell? ⟨g, i * 2, none⟩ = some (.int .i64 x.1) ∧ w.cell? ⟨g, i * 2 + 1, none⟩ = some (.int .i64 x.2) := by
  have c : ∀ j v, (eCells x)[j]? = some v → j < 2 → w.cell? ⟨g, i * 2 + j, none⟩ = some v := fun j v hv hj => own_get h _ ((fm_get eCells 2 eCells_len R i j x hx hj).trans hv)
  exact ⟨c 0 _ rfl (by omega), c 1 _ rfl (by omega)⟩
def storeE (w : World) (g i : Nat) (y : Int × Int) : World := (w.setCell ⟨g, i, none⟩ (.int .i64 y.1)).setCell ⟨g, i + 1, none⟩ (.int .i64 y.2)
def eCmp (a b : Int × Int) : Int := if a.1 - b.1 = 0 then a.2 - b.2 else a.1 - b.1
set_option maxRecDepth 100000 in
@[go_sem high] theorem eql_edge (w : World) (a b c d : Int) :
    (binOp .eql 62 (.agg #[.int .i64 a, .int .i64 b]) (.agg #[.int .i64 c, .int .i64 d])).run Tryz.prog w = .ok (.bool (a == c && b == d)) w := by
  have hS : Tryz.prog.underlying 62 = some (.struct (Tryz.prog.fieldsOf 62)) := by kernel_rfl
  have hp : Tryz.prog.stoodInHeld 62 = false := by kernel_rfl
  rw [run_eql_struct, show (10000 : Nat) = 9999 + 1 from rfl, run_equalIn_agg w 9999 62 _ _ hS hp]
  simp only [Program.fieldsOf, Tryz.underlying62]
  go_simp
  by_cases h1 : a = c <;> by_cases h2 : b = d <;> simp [h1, h2]
set_option maxRecDepth 100000 in
@[go_sem high] theorem neq_edge (w : World) (a b c d : Int) :
    (binOp .neq 62 (.agg #[.int .i64 a, .int .i64 b]) (.agg #[.int .i64 c, .int .i64 d])).run Tryz.prog w = .ok (.bool (a != c || b != d)) w := by
  have hS : Tryz.prog.underlying 62 = some (.struct (Tryz.prog.fieldsOf 62)) := by kernel_rfl
  have hp : Tryz.prog.stoodInHeld 62 = false := by kernel_rfl
  rw [run_neq_struct, show (10000 : Nat) = 9999 + 1 from rfl, run_equalIn_agg w 9999 62 _ _ hS hp]
  simp only [Program.fieldsOf, Tryz.underlying62]
  go_simp
  by_cases h1 : a = c <;> by_cases h2 : b = d <;> simp [h1, h2]
theorem srt_lt {l : List Int} {M : Nat} (h : chkE l = 0) (hm : ∀ x ∈ l, x < (M : Int)) (hM : M ≤ 1000) : l.length ≤ M := by
  obtain ⟨h1, h2⟩ := chkE_zero.1 h
  rw [← sset_self h2 h1]
  unfold sset
  rw [List.length_map]
  have e : List.range 1000 = List.range M ++ (List.range (1000 - M)).map (M + ·) := by
    rw [← List.range_add]; congr 1; omega
  have e2 : ((List.range (1000 - M)).map (M + ·)).filter (fun n : Nat => decide ((n : Int) ∈ l)) = [] := by
    rw [List.filter_eq_nil_iff]
    intro n hn hd
    obtain ⟨j, _, rfl⟩ := List.mem_map.1 hn
    have := hm _ (of_decide_eq_true hd)
    omega
  rw [e, List.filter_append, e2, List.append_nil]
  have := List.length_filter_le (fun n : Nat => decide ((n : Int) ∈ l)) (List.range M)
  rw [List.length_range] at this
  exact this
theorem flatMap_len {α β : Type} (f : α → List β) (c : Nat) : ∀ l : List α, (∀ x ∈ l, (f x).length ≤ c) → (l.flatMap f).length ≤ l.length * c
  | [], _ => Nat.zero_le _
  | x :: r, h => by
    have h1 := h x List.mem_cons_self
    have h2 := flatMap_len f c r fun y hy => h y (List.mem_cons_of_mem _ hy)
    rw [List.flatMap_cons, List.length_append, List.length_cons, Nat.add_mul]
    omega
theorem calledV_len (f : PF) (r : RV) : (calledV f r).length ≤ r.args.length + 1 := by
  unfold calledV
  split
  · rw [List.length_cons, List.length_zip]; omega
  · exact Nat.zero_le _
theorem callsOf_len (P : PP) (r : RV) (o : Int) : (P.callsOf r o).length ≤ r.args.length + 1 := by
  unfold PP.callsOf
  split
  · exact calledV_len _ _
  · exact Nat.zero_le _
theorem getD_len {has : List (List Int)} {M : Nat} (h : ∀ l ∈ has, l.length ≤ M) (i : Nat) : (has.getD i []).length ≤ M := by
  rw [List.getD_eq_getElem?_getD]
  cases he : has[i]? with
  | none => exact Nat.zero_le _
  | some l => exact h l (List.mem_of_getElem? he)
theorem redges_len (P : PP) (r : RV) (has : List (List Int)) (M : Nat) (h : ∀ l ∈ has, l.length ≤ M) (ha : r.args.length ≤ 3) : (P.redges r has).length ≤ M * 4 + 1 := by
  unfold PP.redges
  cases r.kind.toList == kCopy
  · cases r.kind.toList == kLoad
    · cases r.kind.toList == kStore
      · cases r.kind.toList == kCall
        · exact Nat.zero_le _
        · simp only [cond_true, cond_false]
          have h1 := flatMap_len (P.callsOf r) 4 (has.getD r.a.toNat []) fun o _ => by have := callsOf_len P r o; omega
          have h2 := getD_len h r.a.toNat
          omega
      · simp only [cond_true, cond_false, List.length_map]
        have h1 := List.length_filter_le (fun x => !decide ((P.nodesV : Int) ≤ x)) (has.getD r.b.toNat [])
        have h2 := getD_len h r.b.toNat
        unfold PP.nodesOf
        omega
    · simp only [cond_true, cond_false, List.length_map]
      have h1 := List.length_filter_le (fun x => !decide ((P.nodesV : Int) ≤ x)) (has.getD r.a.toNat [])
      have h2 := getD_len h r.a.toNat
      unfold PP.nodesOf
      omega
  · simp only [cond_true, List.length_cons, List.length_nil]; omega
theorem ruleV_few {P : PP} (hw : P.Well) {k : Nat} (hk : k < P.stmts.length) : (P.ruleV k (P.stAt k)).args.length ≤ 3 := by
  have h0 := hw.2 k (P.stAt k) hk (stAt_some hk)
  unfold PP.ruleV
  cases (P.stAt k).isK kAddr
  · cases (P.stAt k).isK kNew
    · cases (P.stAt k).isK kFun
      · cases hc : (P.stAt k).isK kCall
        · exact Nat.zero_le _
        · exact call_few h0 hc
      · exact Nat.zero_le _
    · exact Nat.zero_le _
  · exact Nat.zero_le _
theorem rulesUp_len {P : PP} {has : List (List Int)} (hw : P.Well) (hs : SetsOk P has) (k : Nat) (hk : k ≤ P.stmts.length) : ((P.rulesUp k).flatMap fun r => P.redges r has).length ≤ 50000 := by
  obtain ⟨f1, f2, f3⟩ := hw.few
  have hn := P.newsN_le P.stmts.length
  have hM : ∀ l ∈ has, l.length ≤ 126 := fun l hl => by
    have := srt_lt (M := P.objectsV) (hs.ok l hl).1 (hs.ok l hl).2 (by unfold PP.objectsV PP.nodesV; omega)
    unfold PP.objectsV PP.nodesV at this
    omega
  have h1 := flatMap_len (fun r => P.redges r has) (126 * 4 + 1) (P.rulesUp k) fun r hr => by
    unfold PP.rulesUp at hr
    obtain ⟨j, hj, rfl⟩ := List.mem_map.1 hr
    exact redges_len P _ has 126 hM (ruleV_few hw (by have := List.mem_range.1 hj; omega))
  have h2 : (P.rulesUp k).length = k := by unfold PP.rulesUp; rw [List.length_map, List.length_range]
  rw [h2] at h1
  omega
end Go.Proofs.YtngdpnlgnpdkcaaGreatDoor
namespace Go.Proofs
open Go.Shelf
def Tryz.sortE_ren : Go.Shelf.Ren := ⟨fun | 6 => 60 | 15 => 107 | 14 => 106 | 28 => 141 | 29 => 142 | 20 => 133 | 21 => 134 | 22 => 135 | 23 => 136 | 24 => 137 | 25 => 138 | 26 => 139 | 27 => 140 | 46 => 164 | 47 => 165 | 48 => 166 | 49 => 167 | 50 => 168 | 57 => 182 | n => n, fun | 22 => 55 | 24 => 62 | 25 => 117 | 3 => 3 | 39 => 167 | 0 => 0 | 53 => 205 | 55 => 207 | 4 => 4 | 46 => 199 | 45 => 198 | 50 => 89 | 5 => 5 | 9 => 9 | 66 => 240 | 70 => 244 | 76 => 256 | 77 => 99 | n => n, fun | n => n⟩
end Go.Proofs
namespace Go.Proofs.YtngdpnlgnpdkcaaGreatDoor
open Go Go.RowKit Go.Sort
def InE (e : Int × Int) : Prop := 0 ≤ e.1 ∧ e.1 < 1000 ∧ 0 ≤ e.2 ∧ e.2 < 1000
abbrev SE := { e : Int × Int // InE e }
instance : Inhabited SE := ⟨⟨(0, 0), by unfold InE; omega⟩⟩
def seCells (x : SE) : List Value := eCells x.1
def seCmp (x y : SE) : Int := eCmp x.1 y.1
end Go.Proofs.YtngdpnlgnpdkcaaGreatDoor
namespace Go.Proofs.YtngdpnlgnpdkcaaGreatDoor
open Go Go.RowKit
theorem rule_a_in {P : PP} (hw : P.Well) {k : Nat} (hk : k < P.stmts.length) : 0 ≤ (P.ruleV k (P.stAt k)).a ∧ (P.ruleV k (P.stAt k)).a < P.vars.length := by
  have h0 := hw.2 k (P.stAt k) hk (stAt_some hk)
  have hg := PP.good h0
  obtain ⟨x, hx⟩ : ∃ x, x = P.stAt k := ⟨_, rfl⟩
  rw [← hx] at h0 hg ⊢
  unfold PP.ruleV
  cases h1 : x.isK kAddr with
  | true => exact hg.gx
  | false =>
    cases h2 : x.isK kNew with
    | true => exact hg.gx
    | false =>
      cases h3 : x.isK kFun with
      | true => exact hg.gx
      | false =>
        have hy := hg.yv h3 h2
        cases h4 : x.isK kCall with
        | true => exact hy
        | false => exact hy
def fEdge (f : PF) (r : RV) (a b : Int) : Bool := decide (f.params.length = r.args.length) && ((decide (a = f.ret) && decide (b = r.b)) || (List.range f.params.length).any fun i => decide (a = r.args.getD i 0) && decide (b = f.params.getD i 0))
def PP.isE (P : PP) (r : RV) (has : List (List Int)) (a b : Int) : Bool :=
  bif r.kind.toList == kCopy then decide (a = r.a) && decide (b = r.b) else
  bif r.kind.toList == kLoad then decide (b = r.b) && (decide (a < (P.nodesV : Int)) && decide (a ∈ has.getD r.a.toNat [])) else
  bif r.kind.toList == kStore then decide (a = r.a) && (decide (b < (P.nodesV : Int)) && decide (b ∈ has.getD r.b.toNat [])) else
  bif r.kind.toList == kCall then (List.range P.funs.length).any fun f => decide ((P.nodesV : Int) + f ∈ has.getD r.a.toNat []) && fEdge (P.funs.getD f ⟨⟨#[]⟩, [], 0⟩) r a b else false
theorem fEdge_iff (f : PF) (r : RV) (a b : Int) : fEdge f r a b = true ↔ (a, b) ∈ calledV f r := by
  unfold fEdge calledV
  by_cases hl : f.params.length = r.args.length
  · rw [decide_eq_true hl, Bool.true_and, if_pos hl, List.mem_cons, Bool.or_eq_true, Bool.and_eq_true, decide_eq_true_iff, decide_eq_true_iff, Prod.mk.injEq]
    refine or_congr Iff.rfl ?_
    rw [List.any_eq_true]
    constructor
    · rintro ⟨i, hi, h⟩
      have hi := List.mem_range.1 hi
      rw [Bool.and_eq_true, decide_eq_true_iff, decide_eq_true_iff] at h
      refine List.mem_iff_getElem?.2 ⟨i, List.getElem?_zip_eq_some.2 ⟨?_, ?_⟩⟩
      · rw [h.1, List.getD_eq_getElem?_getD, List.getElem?_eq_getElem (show i < r.args.length by omega)]; rfl
      · rw [h.2, List.getD_eq_getElem?_getD, List.getElem?_eq_getElem hi]; rfl
    · intro h
      obtain ⟨i, hi⟩ := List.mem_iff_getElem?.1 h
      obtain ⟨h1, h2⟩ := List.getElem?_zip_eq_some.1 hi
      have hil : i < f.params.length := by
        rcases Nat.lt_or_ge i f.params.length with g | g
        · exact g
        · rw [List.getElem?_eq_none g] at h2; cases h2
      refine ⟨i, List.mem_range.2 hil, ?_⟩
      rw [List.getD_eq_getElem?_getD, List.getD_eq_getElem?_getD, h1, h2]
      simp
  · rw [decide_eq_false hl, Bool.false_and, if_neg hl]
    simp
theorem isE_iff {P : PP} (r : RV) (has : List (List Int)) (a b : Int) : P.isE r has a b = true ↔ (a, b) ∈ P.redges r has := by
  unfold PP.isE PP.redges
  cases r.kind.toList == kCopy
  · cases r.kind.toList == kLoad
    · cases r.kind.toList == kStore
      · cases r.kind.toList == kCall
        · simp
        · simp only [cond_true, cond_false]
          rw [List.any_eq_true, List.mem_flatMap]
          constructor
          · rintro ⟨f, hf, h⟩
            have hf := List.mem_range.1 hf
            rw [Bool.and_eq_true, decide_eq_true_iff, fEdge_iff] at h
            refine ⟨_, h.1, ?_⟩
            unfold PP.callsOf
            have e : P.funV ((P.nodesV : Int) + f) = (f : Int) := by unfold PP.funV; rw [if_pos (by omega)]; omega
            rw [e, if_pos (by omega)]
            exact h.2
          · rintro ⟨o, ho, h⟩
            unfold PP.callsOf at h
            by_cases hF : 0 ≤ P.funV o
            · rw [if_pos hF] at h
              have hlt := funV_lt hF
              refine ⟨(P.funV o).toNat, List.mem_range.2 (by omega), ?_⟩
              rw [Bool.and_eq_true, decide_eq_true_iff, fEdge_iff]
              refine ⟨?_, h⟩
              have e : (P.nodesV : Int) + ((P.funV o).toNat : Nat) = o := by
                rw [Int.toNat_of_nonneg hF]
                unfold PP.funV at hF ⊢
                by_cases hc : 0 ≤ o - (P.nodesV : Int) ∧ o - (P.nodesV : Int) < P.funs.length
                · rw [if_pos hc]; omega
                · rw [if_neg hc] at hF; omega
              rw [e]
              exact ho
            · rw [if_neg hF] at h
              cases h
      · simp only [cond_true, cond_false]
        rw [List.mem_map]
        constructor
        · intro h
          simp only [Bool.and_eq_true, decide_eq_true_iff] at h
          refine ⟨b, ?_, by rw [h.1]⟩
          unfold PP.nodesOf
          exact List.mem_filter.2 ⟨h.2.2, by simp; exact h.2.1⟩
        · rintro ⟨o, ho, h⟩
          unfold PP.nodesOf at ho
          obtain ⟨h1, h2⟩ := List.mem_filter.1 ho
          simp only [Prod.mk.injEq] at h
          obtain ⟨rfl, rfl⟩ := h
          simp at h2
          exact Bool.and_eq_true_iff.2 ⟨decide_eq_true rfl, Bool.and_eq_true_iff.2 ⟨decide_eq_true h2, decide_eq_true h1⟩⟩
    · simp only [cond_true, cond_false]
      rw [List.mem_map]
      constructor
      · intro h
        simp only [Bool.and_eq_true, decide_eq_true_iff] at h
        refine ⟨a, ?_, by rw [h.1]⟩
        unfold PP.nodesOf
        exact List.mem_filter.2 ⟨h.2.2, by simp; exact h.2.1⟩
      · rintro ⟨o, ho, h⟩
        unfold PP.nodesOf at ho
        obtain ⟨h1, h2⟩ := List.mem_filter.1 ho
        simp only [Prod.mk.injEq] at h
        obtain ⟨rfl, rfl⟩ := h
        simp at h2
        exact Bool.and_eq_true_iff.2 ⟨decide_eq_true rfl, Bool.and_eq_true_iff.2 ⟨decide_eq_true h2, decide_eq_true h1⟩⟩
  · simp only [cond_true, List.mem_singleton, Prod.mk.injEq, Bool.and_eq_true, decide_eq_true_iff]
def PP.rulesE (P : PP) : List RV := P.rulesV.filter fun r => !(r.kind.toList == bBase.toList)
def PP.edgeB (P : PP) (has : List (List Int)) (a b : Int) : Bool := decide (a ≠ b) && P.rulesE.any fun r => P.isE r has a b
theorem edgeB_iff {P : PP} {has : List (List Int)} {a b : Int} : P.edgeB has a b = true ↔ (a, b) ∈ P.edges0 has ∧ a ≠ b := by
  unfold PP.edgeB PP.rulesE PP.edges0
  rw [Bool.and_eq_true, decide_eq_true_iff, List.any_eq_true, List.mem_flatMap, and_comm]
  refine and_congr ⟨fun ⟨r, hr, h⟩ => ⟨r, (List.mem_filter.1 hr).1, (isE_iff r has a b).1 h⟩, fun ⟨r, hr, h⟩ => ⟨r, List.mem_filter.2 ⟨hr, ?_⟩, (isE_iff r has a b).2 h⟩⟩ Iff.rfl
  cases hb : r.kind.toList == bBase.toList with
  | false => rfl
  | true =>
    have e := eq_of_beq hb
    have hn : P.redges r has = [] := by
      have e2 := eq_of_beq bBase_list
      unfold PP.redges kCopy kLoad kStore kCall
      rw [e, e2]; rfl
    rw [hn] at h
    cases h
def PP.rowE (P : PP) (has : List (List Int)) (a n : Nat) : List (Int × Int) := ((List.range n).filter fun b : Nat => P.edgeB has (a : Int) (b : Int)).map fun b : Nat => ((a : Int), (b : Int))
def PP.refE (P : PP) (has : List (List Int)) (n : Nat) : List (Int × Int) := (List.range n).flatMap fun a => P.rowE has a P.nodesV
theorem mem_rowE {P : PP} {has : List (List Int)} {a n : Nat} {e : Int × Int} : e ∈ P.rowE has a n ↔ ∃ b : Nat, b < n ∧ e = ((a : Int), (b : Int)) ∧ P.edgeB has a b = true := by
  unfold PP.rowE
  rw [List.mem_map]
  constructor
  · rintro ⟨b, hb, rfl⟩
    obtain ⟨h1, h2⟩ := List.mem_filter.1 hb
    exact ⟨b, List.mem_range.1 h1, rfl, h2⟩
  · rintro ⟨b, hb, rfl, h⟩
    exact ⟨b, List.mem_filter.2 ⟨List.mem_range.2 hb, h⟩, rfl⟩
theorem rowE_srt (P : PP) (has : List (List Int)) (a n : Nat) : SrtP (P.rowE has a n) := by
  unfold PP.rowE SrtP
  rw [List.pairwise_map]
  refine List.Pairwise.imp (R := (· < ·)) (fun h => .inr ⟨rfl, by simp only; omega⟩) ?_
  exact List.Pairwise.sublist List.filter_sublist List.pairwise_lt_range
theorem refE_srt (P : PP) (has : List (List Int)) : ∀ n, SrtP (P.refE has n)
  | 0 => List.Pairwise.nil
  | n + 1 => by
    unfold PP.refE
    rw [List.range_succ, List.flatMap_append]
    refine List.pairwise_append.2 ⟨refE_srt P has n, by simpa using rowE_srt P has n P.nodesV, fun x hx y hy => ?_⟩
    obtain ⟨a, ha, hxa⟩ := List.mem_flatMap.1 hx
    obtain ⟨b, _, rfl, _⟩ := mem_rowE.1 hxa
    have hy' : y ∈ P.rowE has n P.nodesV := by simpa using hy
    obtain ⟨c, _, rfl, _⟩ := mem_rowE.1 hy'
    have := List.mem_range.1 ha
    exact .inl (by show (a : Int) < n; omega)
theorem refE_are {P : PP} (hw : P.Well) {has : List (List Int)} (hs : SetsOk P has) : EdgesAre P has (P.refE has P.nodesV) := by
  refine ⟨refE_srt P has _, fun e => ?_⟩
  obtain ⟨x, y⟩ := e
  unfold PP.refE
  rw [List.mem_flatMap]
  constructor
  · rintro ⟨a, _, h⟩
    obtain ⟨b, _, e, h2⟩ := mem_rowE.1 h
    simp only [Prod.mk.injEq] at e
    obtain ⟨rfl, rfl⟩ := e
    exact edgeB_iff.1 h2
  · rintro ⟨h, hne⟩
    obtain ⟨h1, h2, h3, h4⟩ := edges0_in hw hs _ h
    obtain ⟨a, rfl⟩ := Int.eq_ofNat_of_zero_le h1
    obtain ⟨b, rfl⟩ := Int.eq_ofNat_of_zero_le h3
    exact ⟨a, List.mem_range.2 (by simp only at h2; omega), mem_rowE.2 ⟨b, by simp only at h4; omega, rfl, edgeB_iff.2 ⟨h, hne⟩⟩⟩
def PP.edgesL (P : PP) (has : List (List Int)) : List (Int × Int) := P.refE has P.nodesV
def PP.GoodS (P : PP) (has : List (List Int)) : Prop := P.Well ∧ has.length = P.nodesV ∧ ∀ l ∈ has, P.setE l = 0
theorem PP.GoodS.ok {P : PP} {has : List (List Int)} (h : P.GoodS has) : SetsOk P has := SetsOk.of h.2.1 h.2.2
theorem edgesL_are {P : PP} {has : List (List Int)} (h : P.GoodS has) : EdgesAre P has (P.edgesL has) := refE_are h.1 h.ok
theorem edgesL_len {P : PP} (hw : P.Well) (has : List (List Int)) : (P.edgesL has).length ≤ 50000 := by
  have hn := nodesV_le P hw
  have h1 := flatMap_len (fun a => P.rowE has a P.nodesV) 120 (List.range P.nodesV) fun a _ => by
    unfold PP.rowE
    rw [List.length_map]
    have := List.length_filter_le (fun b : Nat => P.edgeB has (a : Int) (b : Int)) (List.range P.nodesV)
    rw [List.length_range] at this
    omega
  rw [List.length_range] at h1
  unfold PP.edgesL PP.refE
  omega
structure PS0 (w : World) (n0 : Nat) (ad : Nat → Addr) (a1 a2 a3 : Option Addr) (c1 c2 c3 : Nat) (P : PP) : Prop where
  errs : ErrsP w ad
  prog : ProgR w n0 (.slice a1 P.vars.length c1) (.slice a2 P.funs.length c2) (.slice a3 P.stmts.length c3) P
  z1 : ∀ s ∈ P.vars, s.size ≤ 1000000
  z2 : ∀ s ∈ P.names, s.size ≤ 1000000
theorem PS0.ext {w w' : World} {n0 : Nat} {ad : Nat → Addr} {a1 a2 a3 : Option Addr} {c1 c2 c3 : Nat} {P : PP} (h : PS0 w n0 ad a1 a2 a3 c1 c2 c3 P) (x : Ext w w') : PS0 w' w'.heap.size ad a1 a2 a3 c1 c2 c3 P → PS0 w' w'.heap.size ad a1 a2 a3 c1 c2 c3 P := id
theorem PS0.on {w w' : World} {n0 : Nat} {ad : Nat → Addr} {a1 a2 a3 : Option Addr} {c1 c2 c3 : Nat} {P : PP} (h : PS0 w n0 ad a1 a2 a3 c1 c2 c3 P) (hn : n0 ≤ w.heap.size) (x : Ext w w') : PS0 w' w'.heap.size ad a1 a2 a3 c1 c2 c3 P := ⟨h.errs.ext x, (h.prog.ext x).lift (Nat.le_trans hn x.size), h.z1, h.z2⟩
theorem PS0.pw {w : World} {n0 : Nat} {ad : Nat → Addr} {a1 a2 a3 : Option Addr} {c1 c2 c3 : Nat} {P : PP} (h : PS0 w n0 ad a1 a2 a3 c1 c2 c3 P) (hw : P.Well) : PW w n0 ad a1 a2 a3 c1 c2 c3 P := ⟨h.errs, h.prog, h.z1, h.z2, hw⟩
def ruledP : PP := ⟨[⟨#[97]⟩, ⟨#[98]⟩], [], [⟨⟨#[99, 111, 112, 121]⟩, 0, 1, []⟩]⟩
def ruledS : Array Value := #[.string ⟨#[99, 111, 112, 121]⟩, .int .i64 0, .int .i64 1, .slice none 0 0]
theorem setE_of {P : PP} {l : List Int} (h : chkE l = 0) (hx : ∀ x ∈ l, x < (P.objectsV : Int)) : P.setE l = 0 := by
  unfold PP.setE
  rw [if_pos h, if_neg]
  rintro ⟨h1, h2⟩
  rw [List.getD_eq_getElem?_getD, List.getElem?_eq_getElem (show l.length - 1 < l.length by omega), Option.getD_some] at h2
  have := hx _ (List.getElem_mem (show l.length - 1 < l.length by omega))
  omega
theorem objects_few {P : PP} (hw : P.Well) : P.objectsV ≤ 126 := by
  have h1 := hw.few
  have h2 := nodesV_le P hw
  unfold PP.objectsV
  omega
theorem Made.set {w : World} {base g cap : Nat} {vs : List Value} {L : List (List Int)} {n : Nat} {v : Value} {l : List Int} (hr : w.ownsRow base 43 1 (.slice (some ⟨g, 0, none⟩) L.length cap) L.length vs) (hm : Made w vs L) (hv : IntsT w v l) (hn : n < L.length) :
    SetsR (w.setCell ⟨g, n, none⟩ v) (w.setCell ⟨g, n, none⟩ v).heap.size (.slice (some ⟨g, 0, none⟩) (L.set n l).length cap) (L.set n l) := by
  have k : Keep (fun q => q = g) w (w.setCell ⟨g, n, none⟩ v) := Keep.set (X := fun q => q = g) (Keep.refl _ _) rfl _
  have hni : ∀ b, b = g → ¬ IsInt w b := fun b e => by
    subst e
    obtain ⟨c, hc⟩ := own_ty hr (k := b) rfl
    exact notInt hc (by decide)
  have hvs := hm.1
  have h2 := own_set hr n (by omega) v
  rw [show L.length = (L.set n l).length from List.length_set.symm] at h2
  refine SetsR.made h2 ⟨by rw [List.length_set, List.length_set]; exact hvs, fun i u m hu hl => ?_⟩
  by_cases hi : n = i
  · subst hi
    rw [List.getElem?_set_self (by omega)] at hu hl
    obtain rfl := Option.some.inj hu
    obtain rfl := Option.some.inj hl
    exact hv.keep k hni
  · rw [List.getElem?_set_ne hi] at hu hl
    exact (hm.2 i u m hu hl).keep k hni
theorem IntsT.row {w : World} {base : Nat} {v : Value} {l : List Int} (h : IRow base w v l) : IntsT w v l := IntsT.of_row h
def Ahead (a b : List (Int × Int)) (i k : Nat) : Prop := ∀ x, a[i]? = some x → ∃ j, k ≤ j ∧ b[j]? = some x
theorem Ahead.zero {a b : List (Int × Int)} (h : ∀ e, e ∈ a → e ∈ b) : Ahead a b 0 0 := fun x hx => by
  obtain ⟨j, hj⟩ := List.mem_iff_getElem?.1 (h x (List.mem_of_getElem? hx))
  exact ⟨j, Nat.zero_le _, hj⟩
theorem Ahead.skip {a b : List (Int × Int)} {i k : Nat} {x y : Int × Int} (h : Ahead a b i k) (hx : a[i]? = some x) (hy : b[k]? = some y) (hne : y ≠ x) : Ahead a b i (k + 1) := fun z hz => by
  obtain rfl := Option.some.inj (hx.symm.trans hz)
  obtain ⟨j, hj, hb⟩ := h x hx
  refine ⟨j, ?_, hb⟩
  rcases Nat.lt_or_ge k j with g | g
  · exact g
  · obtain rfl : j = k := by omega
    exact absurd (Option.some.inj (hy.symm.trans hb)) hne
theorem Ahead.next {a b : List (Int × Int)} (ha : SrtP a) (hb : SrtP b) (hs : ∀ e, e ∈ a → e ∈ b) {i k : Nat} {x : Int × Int} (hx : a[i]? = some x) (hy : b[k]? = some x) : Ahead a b (i + 1) k := fun z hz => by
  obtain ⟨j, hj⟩ := List.mem_iff_getElem?.1 (hs z (List.mem_of_getElem? hz))
  exact ⟨j, Nat.le_of_lt (srtP_idx hb hy hj (srtP_next ha hx hz)), hj⟩
theorem Ahead.found {a b : List (Int × Int)} {i k : Nat} {x : Int × Int} (h : Ahead a b i k) (hx : a[i]? = some x) : k < b.length := by
  obtain ⟨j, hj, hb⟩ := h x hx
  rcases Nat.lt_or_ge j b.length with g | g
  · omega
  · rw [List.getElem?_eq_none g] at hb; cases hb
def PP.baseAt (P : PP) (j : Nat) (n : Nat) (x : Int) : Prop := (P.ruleV j (P.stAt j)).kind.toList = bBase.toList ∧ (P.ruleV j (P.stAt j)).a = (n : Int) ∧ (P.ruleV j (P.stAt j)).b = x
structure RoundAt (P : PP) (has : List (List Int)) (EL : List (Int × Int)) (k m : Nat) (S : List (List Int)) : Prop where
  len : S.length = has.length
  ok : ∀ l ∈ S, chkE l = 0
  mem : ∀ n x, n < has.length → (x ∈ S.getD n [] ↔ x ∈ has.getD n [] ∨ (∃ j, j < k ∧ P.baseAt j n x) ∨ ∃ (i : Nat) (e : Int × Int), i < m ∧ EL[i]? = some e ∧ e.2 = (n : Int) ∧ x ∈ has.getD e.1.toNat [])
theorem getD_mem {S : List (List Int)} {n : Nat} (hn : n < S.length) : S.getD n [] ∈ S := by
  rw [List.getD_eq_getElem?_getD, List.getElem?_eq_getElem hn]
  exact List.getElem_mem hn
theorem RoundAt.start {P : PP} {has : List (List Int)} (hg : P.GoodS has) (EL : List (Int × Int)) : RoundAt P has EL 0 0 has :=
  ⟨rfl, fun l hl => (hg.ok.ok l hl).1, fun n x _ => ⟨.inl, fun h => by
    rcases h with h | ⟨j, hj, _⟩ | ⟨i, e, hi, _⟩
    · exact h
    · omega
    · omega⟩⟩
theorem RoundAt.uniq {P : PP} {has : List (List Int)} {EL : List (Int × Int)} {k m : Nat} {S T : List (List Int)} (h : RoundAt P has EL k m S) (g : RoundAt P has EL k m T) : S = T := by
  refine List.ext_getElem? fun n => ?_
  by_cases hn : n < has.length
  · have hs : n < S.length := by rw [h.len]; exact hn
    have ht : n < T.length := by rw [g.len]; exact hn
    have e : S.getD n [] = T.getD n [] := srt_uniq (chkE_zero.1 (h.ok _ (getD_mem hs))).2 (chkE_zero.1 (g.ok _ (getD_mem ht))).2 fun x => (h.mem n x hn).trans (g.mem n x hn).symm
    rw [List.getD_eq_getElem?_getD, List.getD_eq_getElem?_getD, List.getElem?_eq_getElem hs, List.getElem?_eq_getElem ht] at e
    rw [List.getElem?_eq_getElem hs, List.getElem?_eq_getElem ht]
    exact congrArg some e
  · rw [List.getElem?_eq_none (by rw [h.len]; omega), List.getElem?_eq_none (by rw [g.len]; omega)]
theorem set_getD {S : List (List Int)} {a n : Nat} {l : List Int} (ha : a < S.length) : (S.set a l).getD n [] = if a = n then l else S.getD n [] := by
  rw [List.getD_eq_getElem?_getD, List.getElem?_set]
  by_cases h : a = n
  · subst h; rw [if_pos rfl, if_pos ha, if_pos rfl]; rfl
  · rw [if_neg h, if_neg h, List.getD_eq_getElem?_getD]
theorem set_ok {S : List (List Int)} {a : Nat} {l : List Int} (h : ∀ m ∈ S, chkE m = 0) (hl : chkE l = 0) : ∀ m ∈ S.set a l, chkE m = 0 := fun m hm => by
  rcases List.mem_or_eq_of_mem_set hm with h1 | h1
  · exact h m h1
  · rw [h1]; exact hl
theorem RoundAt.base {P : PP} {has : List (List Int)} {EL : List (Int × Int)} {k : Nat} {S : List (List Int)} (h : RoundAt P has EL k 0 S) (hb : (P.ruleV k (P.stAt k)).kind.toList = bBase.toList) {a : Nat} {b : Int} (ha : (P.ruleV k (P.stAt k)).a = (a : Int)) (hbb : (P.ruleV k (P.stAt k)).b = b) (hb1 : 0 ≤ b ∧ b < 1000) (hal : a < has.length) :
    RoundAt P has EL (k + 1) 0 (S.set a (sset (S.getD a [] ++ [b]))) := by
  have has' : a < S.length := by rw [h.len]; exact hal
  have hin : InR (S.getD a [] ++ [b]) := (chkE_zero.1 (h.ok _ (getD_mem has'))).1.app fun x hx => by obtain rfl := List.mem_singleton.1 hx; exact hb1
  refine ⟨by rw [List.length_set]; exact h.len, set_ok h.ok (chkE_sset _), fun n x hn => ?_⟩
  rw [set_getD has']
  by_cases han : a = n
  · subst han
    rw [if_pos rfl, mem_sset hin, List.mem_append, h.mem a x hn, List.mem_singleton]
    constructor
    · rintro ((h1 | ⟨j, hj, h1⟩ | ⟨i, e, hi, _⟩) | rfl)
      · exact .inl h1
      · exact .inr (.inl ⟨j, by omega, h1⟩)
      · omega
      · exact .inr (.inl ⟨k, by omega, hb, ha, hbb⟩)
    · rintro (h1 | ⟨j, hj, h1⟩ | ⟨i, e, hi, _⟩)
      · exact .inl (.inl h1)
      · by_cases hjk : j = k
        · subst hjk
          exact .inr (h1.2.2.symm.trans hbb)
        · exact .inl (.inr (.inl ⟨j, by omega, h1⟩))
      · omega
  · rw [if_neg han, h.mem n x hn]
    refine or_congr Iff.rfl (or_congr ⟨fun ⟨j, hj, h1⟩ => ⟨j, by omega, h1⟩, fun ⟨j, hj, h1⟩ => ⟨j, ?_, h1⟩⟩ Iff.rfl)
    by_cases hjk : j = k
    · subst hjk
      have := h1.2.1
      omega
    · omega
theorem RoundAt.skip {P : PP} {has : List (List Int)} {EL : List (Int × Int)} {k : Nat} {S : List (List Int)} (h : RoundAt P has EL k 0 S) (hb : (P.ruleV k (P.stAt k)).kind.toList ≠ bBase.toList) : RoundAt P has EL (k + 1) 0 S :=
  ⟨h.len, h.ok, fun n x hn => (h.mem n x hn).trans (or_congr Iff.rfl (or_congr ⟨fun ⟨j, hj, h1⟩ => ⟨j, by omega, h1⟩, fun ⟨j, hj, h1⟩ => ⟨j, by
    by_cases hjk : j = k
    · subst hjk; exact absurd h1.1 hb
    · omega, h1⟩⟩ Iff.rfl))⟩
theorem RoundAt.edge {P : PP} {has : List (List Int)} {EL : List (Int × Int)} {k m : Nat} {S : List (List Int)} (h : RoundAt P has EL k m S) {a b : Nat} (he : EL[m]? = some ((a : Int), (b : Int))) (hok : ∀ l ∈ has, chkE l = 0) (hal : a < has.length) (hbl : b < has.length) :
    RoundAt P has EL k (m + 1) (S.set b (sset (S.getD b [] ++ has.getD a []))) := by
  have hbs : b < S.length := by rw [h.len]; exact hbl
  have hin : InR (S.getD b [] ++ has.getD a []) := (chkE_zero.1 (h.ok _ (getD_mem hbs))).1.app (chkE_zero.1 (hok _ (getD_mem hal))).1
  refine ⟨by rw [List.length_set]; exact h.len, set_ok h.ok (chkE_sset _), fun n x hn => ?_⟩
  rw [set_getD hbs]
  by_cases hbn : b = n
  · subst hbn
    rw [if_pos rfl, mem_sset hin, List.mem_append, h.mem b x hn]
    constructor
    · rintro ((h1 | h1 | ⟨i, e, hi, h1⟩) | h1)
      · exact .inl h1
      · exact .inr (.inl h1)
      · exact .inr (.inr ⟨i, e, by omega, h1⟩)
      · exact .inr (.inr ⟨m, _, by omega, he, rfl, h1⟩)
    · rintro (h1 | h1 | ⟨i, e, hi, h1, h2, h3⟩)
      · exact .inl (.inl h1)
      · exact .inl (.inr (.inl h1))
      · by_cases him : i = m
        · subst him
          obtain rfl := Option.some.inj (he.symm.trans h1)
          exact .inr h3
        · exact .inl (.inr (.inr ⟨i, e, by omega, h1, h2, h3⟩))
  · rw [if_neg hbn, h.mem n x hn]
    refine or_congr Iff.rfl (or_congr Iff.rfl ⟨fun ⟨i, e, hi, h1⟩ => ⟨i, e, by omega, h1⟩, fun ⟨i, e, hi, h1, h2, h3⟩ => ⟨i, e, ?_, h1, h2, h3⟩⟩)
    by_cases him : i = m
    · subst him
      obtain rfl := Option.some.inj (he.symm.trans h1)
      exact absurd (Int.ofNat_inj.1 h2) hbn
    · omega
def PP.basesOf (P : PP) (n : Nat) : List Int := (P.rulesV.filter fun r => decide (r.kind.toList = bBase.toList) && decide (r.a = (n : Int))).map RV.b
def PP.comesTo (P : PP) (has : List (List Int)) (n : Nat) : List Int := ((P.edgesL has).filter fun e => decide (e.2 = (n : Int))).flatMap fun e => has.getD e.1.toNat []
def PP.roundV (P : PP) (has : List (List Int)) : List (List Int) := (List.range has.length).map fun n => sset (has.getD n [] ++ (P.basesOf n ++ P.comesTo has n))
theorem mem_rulesV {P : PP} {r : RV} : r ∈ P.rulesV ↔ ∃ j, j < P.stmts.length ∧ r = P.ruleV j (P.stAt j) := by
  unfold PP.rulesV PP.rulesUp
  rw [List.mem_map]
  exact ⟨fun ⟨j, hj, e⟩ => ⟨j, List.mem_range.1 hj, e.symm⟩, fun ⟨j, hj, e⟩ => ⟨j, List.mem_range.2 hj, e.symm⟩⟩
theorem placeV_in {P : PP} {k : Nat} (hk : k < P.stmts.length) (hn : P.isNew k = true) : 0 ≤ P.placeV (k : Int) ∧ P.placeV (k : Int) < (P.nodesV : Int) := by
  have h1 : P.newsN (k + 1) = P.newsN k + 1 := by rw [PP.newsN_succ, hn]; rfl
  have h2 : ∀ d, P.newsN (k + 1) ≤ P.newsN (k + 1 + d) := fun d => by
    induction d with
    | zero => exact Nat.le_refl _
    | succ d ih =>
      have h5 := P.newsN_succ (k + 1 + d)
      rw [show k + 1 + (d + 1) = (k + 1 + d) + 1 from rfl]
      split at h5 <;> omega
  have h3 := h2 (P.stmts.length - (k + 1))
  rw [show k + 1 + (P.stmts.length - (k + 1)) = P.stmts.length by omega] at h3
  unfold PP.placeV PP.nodesV
  rw [if_pos ⟨by omega, by omega, by rw [Int.toNat_natCast]; exact hn⟩, Int.toNat_natCast]
  omega
theorem base_b_in {P : PP} (hw : P.Well) {k : Nat} (hk : k < P.stmts.length) (hb : (P.ruleV k (P.stAt k)).kind.toList = bBase.toList) : 0 ≤ (P.ruleV k (P.stAt k)).b ∧ (P.ruleV k (P.stAt k)).b < (P.objectsV : Int) := by
  have h0 := hw.2 k (P.stAt k) hk (stAt_some hk)
  have hg := PP.good h0
  have hnv := nodes_vars P
  have hob : P.objectsV = P.nodesV + P.funs.length := rfl
  have hnew : (P.stAt k).isK kNew = true → P.isNew k = true := fun h => by unfold PP.isNew; rw [stAt_some hk]; exact h
  obtain ⟨x, hx⟩ : ∃ x, x = P.stAt k := ⟨_, rfl⟩
  rw [← hx] at h0 hg hb hnew ⊢
  have hbl := eq_of_beq bBase_list
  rcases kind_cases h0 with g | g | g | g | g | g | g
  · have e : P.ruleV k x = ⟨bBase, x.x, x.y, k, []⟩ := by unfold PP.ruleV; rw [g]; rfl
    have hy := hg.yv (isK_ne g (k' := kFun) rfl) (isK_ne g (k' := kNew) rfl)
    rw [e]
    exact ⟨hy.1, by show x.y < _; omega⟩
  · have e : P.ruleV k x = ⟨x.kind, x.y, x.x, k, []⟩ := by unfold PP.ruleV; rw [isK_ne g (k' := kAddr) rfl, isK_ne g (k' := kNew) rfl, isK_ne g (k' := kFun) rfl, isK_ne g (k' := kCall) rfl]; rfl
    rw [e, hbl] at hb
    have hk' : x.kind.toList = kCopy := eq_of_beq g
    rw [show x.kind.toList = [98, 97, 115, 101] from hb] at hk'
    exact absurd hk' (by decide)
  · have e : P.ruleV k x = ⟨x.kind, x.y, x.x, k, []⟩ := by unfold PP.ruleV; rw [isK_ne g (k' := kAddr) rfl, isK_ne g (k' := kNew) rfl, isK_ne g (k' := kFun) rfl, isK_ne g (k' := kCall) rfl]; rfl
    rw [e, hbl] at hb
    have hk' : x.kind.toList = kLoad := eq_of_beq g
    rw [show x.kind.toList = [98, 97, 115, 101] from hb] at hk'
    exact absurd hk' (by decide)
  · have e : P.ruleV k x = ⟨x.kind, x.y, x.x, k, []⟩ := by unfold PP.ruleV; rw [isK_ne g (k' := kAddr) rfl, isK_ne g (k' := kNew) rfl, isK_ne g (k' := kFun) rfl, isK_ne g (k' := kCall) rfl]; rfl
    rw [e, hbl] at hb
    have hk' : x.kind.toList = kStore := eq_of_beq g
    rw [show x.kind.toList = [98, 97, 115, 101] from hb] at hk'
    exact absurd hk' (by decide)
  · have e : P.ruleV k x = ⟨bBase, x.x, P.placeV k, k, []⟩ := by unfold PP.ruleV; rw [isK_ne g (k' := kAddr) rfl, g]; rfl
    have hp := placeV_in hk (hnew g)
    rw [e]
    exact ⟨hp.1, by show P.placeV k < _; omega⟩
  · have e : P.ruleV k x = ⟨bBase, x.x, (P.nodesV : Int) + x.y, k, []⟩ := by unfold PP.ruleV; rw [isK_ne g (k' := kAddr) rfl, isK_ne g (k' := kNew) rfl, g]; rfl
    have hy := hg.yf g
    rw [e]
    exact ⟨by show 0 ≤ (P.nodesV : Int) + x.y; omega, by show (P.nodesV : Int) + x.y < _; omega⟩
  · have e : P.ruleV k x = ⟨bCall, x.y, x.x, k, x.args⟩ := by unfold PP.ruleV; rw [isK_ne g (k' := kAddr) rfl, isK_ne g (k' := kNew) rfl, isK_ne g (k' := kFun) rfl, g]; rfl
    rw [e, hbl, show (RV.mk bCall x.y x.x k x.args).kind.toList = [99, 97, 108, 108] from eq_of_beq bCall_list] at hb
    exact absurd hb (by decide)
theorem mem_basesOf {P : PP} {n : Nat} {x : Int} : x ∈ P.basesOf n ↔ ∃ j, j < P.stmts.length ∧ P.baseAt j n x := by
  unfold PP.basesOf
  rw [List.mem_map]
  constructor
  · rintro ⟨r, hr, rfl⟩
    obtain ⟨h1, h2⟩ := List.mem_filter.1 hr
    obtain ⟨j, hj, rfl⟩ := mem_rulesV.1 h1
    rw [Bool.and_eq_true, decide_eq_true_iff, decide_eq_true_iff] at h2
    exact ⟨j, hj, h2.1, h2.2, rfl⟩
  · rintro ⟨j, hj, h1, h2, h3⟩
    exact ⟨_, List.mem_filter.2 ⟨mem_rulesV.2 ⟨j, hj, rfl⟩, by rw [Bool.and_eq_true, decide_eq_true_iff, decide_eq_true_iff]; exact ⟨h1, h2⟩⟩, h3⟩
theorem mem_comesTo {P : PP} {has : List (List Int)} {n : Nat} {x : Int} : x ∈ P.comesTo has n ↔ ∃ (i : Nat) (e : Int × Int), i < (P.edgesL has).length ∧ (P.edgesL has)[i]? = some e ∧ e.2 = (n : Int) ∧ x ∈ has.getD e.1.toNat [] := by
  unfold PP.comesTo
  rw [List.mem_flatMap]
  constructor
  · rintro ⟨e, he, hx⟩
    obtain ⟨h1, h2⟩ := List.mem_filter.1 he
    obtain ⟨i, hi⟩ := List.mem_iff_getElem?.1 h1
    have hil : i < (P.edgesL has).length := by
      rcases Nat.lt_or_ge i (P.edgesL has).length with h | h
      · exact h
      · rw [List.getElem?_eq_none h] at hi; cases hi
    exact ⟨i, e, hil, hi, of_decide_eq_true h2, hx⟩
  · rintro ⟨i, e, _, hi, h2, hx⟩
    exact ⟨e, List.mem_filter.2 ⟨List.mem_of_getElem? hi, decide_eq_true h2⟩, hx⟩
theorem getD_in {P : PP} {has : List (List Int)} (hs : SetsOk P has) (i : Nat) (x : Int) (hx : x ∈ has.getD i []) : 0 ≤ x ∧ x < (P.objectsV : Int) := by
  rw [List.getD_eq_getElem?_getD] at hx
  cases he : has[i]? with
  | none => rw [he] at hx; cases hx
  | some l =>
    rw [he] at hx
    have hm := List.mem_of_getElem? he
    exact ⟨(hs.inr l hm x hx).1, (hs.ok l hm).2 x hx⟩
theorem round_all_in {P : PP} {has : List (List Int)} (hg : P.GoodS has) (n : Nat) : ∀ x ∈ has.getD n [] ++ (P.basesOf n ++ P.comesTo has n), 0 ≤ x ∧ x < (P.objectsV : Int) := fun x hx => by
  rcases List.mem_append.1 hx with h | h
  · exact getD_in hg.ok n x h
  · rcases List.mem_append.1 h with h | h
    · obtain ⟨j, hj, h1, _, h3⟩ := mem_basesOf.1 h
      have := base_b_in hg.1 hj h1
      rw [h3] at this
      exact this
    · obtain ⟨_, e, _, _, _, h4⟩ := mem_comesTo.1 h
      exact getD_in hg.ok _ x h4
theorem round_in {P : PP} {has : List (List Int)} (hg : P.GoodS has) (n : Nat) : InR (has.getD n [] ++ (P.basesOf n ++ P.comesTo has n)) := fun x hx => by
  have h1 := round_all_in hg n x hx
  have h2 := objects_few hg.1
  omega
theorem roundV_getD {P : PP} {has : List (List Int)} {n : Nat} (hn : n < has.length) : (P.roundV has).getD n [] = sset (has.getD n [] ++ (P.basesOf n ++ P.comesTo has n)) := by
  unfold PP.roundV
  rw [List.getD_eq_getElem?_getD, List.getElem?_map, List.getElem?_range hn, Option.map_some, Option.getD_some]
theorem roundV_len (P : PP) (has : List (List Int)) : (P.roundV has).length = has.length := by unfold PP.roundV; rw [List.length_map, List.length_range]
theorem mem_roundV {P : PP} {has : List (List Int)} (hg : P.GoodS has) {n : Nat} (hn : n < has.length) {x : Int} : x ∈ (P.roundV has).getD n [] ↔ x ∈ has.getD n [] ∨ (∃ j, j < P.stmts.length ∧ P.baseAt j n x) ∨ ∃ (i : Nat) (e : Int × Int), i < (P.edgesL has).length ∧ (P.edgesL has)[i]? = some e ∧ e.2 = (n : Int) ∧ x ∈ has.getD e.1.toNat [] := by
  rw [roundV_getD hn, mem_sset (round_in hg n), List.mem_append, List.mem_append, mem_basesOf, mem_comesTo]
theorem roundV_at {P : PP} {has : List (List Int)} (hg : P.GoodS has) : RoundAt P has (P.edgesL has) P.stmts.length (P.edgesL has).length (P.roundV has) := by
  refine ⟨roundV_len P has, fun l hl => ?_, fun n x hn => mem_roundV hg hn⟩
  unfold PP.roundV at hl
  obtain ⟨n, _, e⟩ := List.mem_map.1 hl
  rw [← e]
  exact chkE_sset _
theorem roundV_good {P : PP} {has : List (List Int)} (hg : P.GoodS has) : P.GoodS (P.roundV has) := by
  refine ⟨hg.1, by rw [roundV_len]; exact hg.2.1, fun l hl => ?_⟩
  unfold PP.roundV at hl
  obtain ⟨n, _, e⟩ := List.mem_map.1 hl
  rw [← e]
  exact setE_of (chkE_sset _) fun x hx => (round_all_in hg n x (mem_sset0.1 hx).1).2
def PP.iterV (P : PP) : Nat → List (List Int)
  | 0 => List.replicate P.nodesV []
  | n + 1 => P.roundV (P.iterV n)
theorem iterV_good {P : PP} (hw : P.Well) : ∀ n, P.GoodS (P.iterV n)
  | 0 => ⟨hw, by simp [PP.iterV], fun l hl => by
    obtain rfl := List.eq_of_mem_replicate hl
    exact setE_of (by decide) fun x hx => by cases hx⟩
  | n + 1 => roundV_good (iterV_good hw n)
theorem roundV_sub {P : PP} {has : List (List Int)} (hg : P.GoodS has) : Sub has (P.roundV has) := fun i x hx => by
  by_cases hi : i < has.length
  · exact (mem_roundV hg hi).2 (.inl hx)
  · rw [List.getD_eq_getElem?_getD, List.getElem?_eq_none (by omega)] at hx
    cases hx
theorem closed_of_round {P : PP} {has : List (List Int)} (hg : P.GoodS has) (h : P.roundV has = has) : ClosedP P has := by
  refine ⟨fun k hk hb => ?_, fun e he hne n hn => ?_⟩
  · have ha := rule_a_in hg.1 hk
    have hnv := nodes_vars P
    have hl := hg.2.1
    have hm : (P.ruleV k (P.stAt k)).b ∈ (P.roundV has).getD (P.ruleV k (P.stAt k)).a.toNat [] := (mem_roundV hg (by omega)).2 (.inr (.inl ⟨k, hk, hb, by omega, rfl⟩))
    rwa [h] at hm
  · obtain ⟨h1, h2, h3, h4⟩ := edges0_in hg.1 hg.ok e he
    have hl := hg.2.1
    obtain ⟨i, hi⟩ := List.mem_iff_getElem?.1 (((edgesL_are hg).mem e).2 ⟨he, hne⟩)
    have hil : i < (P.edgesL has).length := by
      rcases Nat.lt_or_ge i (P.edgesL has).length with g | g
      · exact g
      · rw [List.getElem?_eq_none g] at hi; cases hi
    have hm : n ∈ (P.roundV has).getD e.2.toNat [] := (mem_roundV hg (by omega)).2 (.inr (.inr ⟨i, e, hil, hi, by omega, hn⟩))
    rwa [h] at hm
theorem round_within {P : PP} {has ans : List (List Int)} (hg : P.GoodS has) (ga : P.GoodS ans) (hc : ClosedP P ans) (hs : Sub has ans) : Sub (P.roundV has) ans := fun i x hx => by
  by_cases hi : i < has.length
  · rcases (mem_roundV hg hi).1 hx with h | ⟨j, hj, h1, h2, h3⟩ | ⟨q, e, _, he, h2, h3⟩
    · exact hs i x h
    · have := hc.base j hj h1
      rw [h2, h3, Int.toNat_natCast] at this
      exact this
    · have h0 := ((edgesL_are hg).mem e).1 (List.mem_of_getElem? he)
      have h5 := hc.edge e (edges0_mono hs e h0.1) h0.2 x (hs _ _ h3)
      rw [h2, Int.toNat_natCast] at h5
      exact h5
  · rw [List.getD_eq_getElem?_getD, List.getElem?_eq_none (by rw [roundV_len]; omega)] at hx
    cases hx
theorem iter_within {P : PP} {ans : List (List Int)} (ga : P.GoodS ans) (hc : ClosedP P ans) : ∀ n, Sub (P.iterV n) ans
  | 0 => fun i x hx => by
    rw [List.getD_eq_getElem?_getD] at hx
    unfold PP.iterV at hx
    rw [List.getElem?_replicate] at hx
    split at hx <;> cases hx
  | n + 1 => round_within (iterV_good ga.1 n) ga hc (iter_within ga hc n)
def total (S : List (List Int)) : Nat := (S.map List.length).sum
theorem srt_len : ∀ {a b : List Int}, Srt a → Srt b → (∀ x, x ∈ a → x ∈ b) → a.length ≤ b.length ∧ (a.length = b.length → a = b)
  | [], b, _, _, _ => ⟨Nat.zero_le _, fun h => (List.eq_nil_of_length_eq_zero h.symm).symm⟩
  | x :: a, b, ha, hb, h => by
    obtain ⟨s, t, rfl⟩ := List.append_of_mem (h x List.mem_cons_self)
    have hb' := List.pairwise_append.1 hb
    have hbt := List.pairwise_cons.1 hb'.2.1
    have ih := srt_len ha.tail hbt.2 fun e he => by
      have hlt := ha.head e he
      rcases List.mem_append.1 (h e (List.mem_cons_of_mem _ he)) with g | g
      · have := hb'.2.2 e g x List.mem_cons_self
        omega
      · rcases List.mem_cons.1 g with g | g
        · omega
        · exact g
    rw [List.length_append, List.length_cons, List.length_cons]
    refine ⟨by omega, fun hl => ?_⟩
    have hs : s = [] := List.eq_nil_of_length_eq_zero (by omega)
    subst hs
    rw [List.nil_append, ih.2 (by simp at hl; omega)]
theorem total_sub : ∀ {S T : List (List Int)}, S.length = T.length → (∀ l ∈ S, Srt l) → (∀ l ∈ T, Srt l) → (∀ i x, x ∈ S.getD i [] → x ∈ T.getD i []) → total S ≤ total T ∧ (total S = total T → S = T)
  | [], [], _, _, _, _ => ⟨Nat.le_refl _, fun _ => rfl⟩
  | [], _ :: _, h, _, _, _ => by simp at h
  | _ :: _, [], h, _, _, _ => by simp at h
  | a :: S, b :: T, h, hs, ht, hm => by
    have h1 := srt_len (hs a List.mem_cons_self) (ht b List.mem_cons_self) fun x hx => by simpa using hm 0 x (by simpa using hx)
    have h2 := total_sub (S := S) (T := T) (by simpa using h) (fun l hl => hs l (List.mem_cons_of_mem _ hl)) (fun l hl => ht l (List.mem_cons_of_mem _ hl)) fun i x hx => by simpa using hm (i + 1) x (by simpa using hx)
    have e1 : total (a :: S) = a.length + total S := by unfold total; simp
    have e2 : total (b :: T) = b.length + total T := by unfold total; simp
    rw [e1, e2]
    refine ⟨by omega, fun he => ?_⟩
    rw [h1.2 (by omega), h2.2 (by omega)]
theorem total_few : ∀ {S : List (List Int)}, (∀ l ∈ S, l.length ≤ 1000) → total S ≤ S.length * 1000
  | [], _ => Nat.le_refl _
  | a :: S, h => by
    have h1 := h a List.mem_cons_self
    have h2 := total_few (S := S) fun l hl => h l (List.mem_cons_of_mem _ hl)
    have e1 : total (a :: S) = a.length + total S := by unfold total; simp
    rw [e1, List.length_cons]
    omega
theorem good_srt {P : PP} {has : List (List Int)} (hg : P.GoodS has) : ∀ l ∈ has, Srt l := fun l hl => (chkE_zero.1 (hg.ok.ok l hl).1).2
theorem iter_grows {P : PP} (hw : P.Well) (n : Nat) (h : P.iterV (n + 1) ≠ P.iterV n) : total (P.iterV n) + 1 ≤ total (P.iterV (n + 1)) := by
  have hg := iterV_good hw n
  have hg' := iterV_good hw (n + 1)
  have h1 := total_sub (S := P.iterV n) (T := P.iterV (n + 1)) (roundV_len P _).symm (good_srt hg) (good_srt hg') (roundV_sub hg)
  rcases Nat.lt_or_ge (total (P.iterV n)) (total (P.iterV (n + 1))) with g | g
  · exact g
  · exact absurd (h1.2 (by omega)).symm h
theorem iter_few {P : PP} (hw : P.Well) (n : Nat) : total (P.iterV n) ≤ 120000 := by
  have hg := iterV_good hw n
  have h1 := total_few (S := P.iterV n) fun l hl => srt_few (hg.ok.ok l hl).1
  have h2 := hg.2.1
  have h3 := nodesV_le P hw
  omega
structure LeastAt (P : PP) (n : Nat) (S : List (List Int)) : Prop where
  eq : S = P.iterV n
  fix : P.roundV S = S
  first : ∀ m, m < n → P.roundV (P.iterV m) ≠ P.iterV m
theorem LeastAt.uniq {P : PP} {n m : Nat} {S T : List (List Int)} (h : LeastAt P n S) (g : LeastAt P m T) : n = m ∧ S = T := by
  have hnm : n = m := by
    rcases Nat.lt_trichotomy n m with k | k | k
    · exact absurd (by rw [← h.eq]; exact h.fix) (g.first n k)
    · exact k
    · exact absurd (by rw [← g.eq]; exact g.fix) (h.first m k)
  subst hnm
  exact ⟨rfl, h.eq.trans g.eq.symm⟩
theorem LeastAt.good {P : PP} (hw : P.Well) {n : Nat} {S : List (List Int)} (h : LeastAt P n S) : P.GoodS S := by rw [h.eq]; exact iterV_good hw n
theorem LeastAt.closed {P : PP} (hw : P.Well) {n : Nat} {S : List (List Int)} (h : LeastAt P n S) : ClosedP P S := closed_of_round (h.good hw) h.fix
theorem LeastAt.within {P : PP} {n : Nat} {S ans : List (List Int)} (h : LeastAt P n S) (ga : P.GoodS ans) (hc : ClosedP P ans) : Sub S ans := by rw [h.eq]; exact iter_within ga hc n
structure SV where
  has : List (List Bool)
  edges : List (Int × Int)
  rules : List RV
  wait : List (Int × Int)
def SV.bit (s : SV) (f : Int × Int) : Bool := (s.has.getD f.1.toNat []).getD f.2.toNat false
def SV.objs (s : SV) (n : Int) : List Int := ((List.range (s.has.getD n.toNat []).length).filter fun o => (s.has.getD n.toNat []).getD o false).map fun o : Nat => (o : Int)
def SV.succ (s : SV) (n : Int) : List Int := (s.edges.filter fun e => decide (e.1 = n)).map (·.2)
def SV.edge (s : SV) (e : Int × Int) : SV := if e.1 = e.2 ∨ e ∈ s.edges then s else { s with edges := s.edges ++ [e], wait := s.wait ++ (s.objs e.1).map fun o => (e.2, o) }
def PP.fires (P : PP) (r : RV) (o : Int) : List (Int × Int) :=
  bif r.kind.toList == kCall then P.callsOf r o else
  if (P.nodesV : Int) ≤ o then [] else bif r.kind.toList == kLoad then [(o, r.b)] else [(r.a, o)]
def RV.pivot (r : RV) : Int := bif r.kind.toList == kStore then r.b else r.a
def RV.fired (r : RV) : Bool := (r.kind.toList == kLoad) || (r.kind.toList == kStore) || (r.kind.toList == kCall)
def SV.fire (P : PP) (s : SV) (r : RV) (o : Int) : SV := (P.fires r o).foldl SV.edge s
def SV.add (P : PP) (s : SV) (r : RV) : SV :=
  bif r.kind.toList == bBase.toList then { s with rules := s.rules ++ [r], wait := s.wait ++ [(r.a, r.b)] } else
  bif r.kind.toList == kCopy then SV.edge { s with rules := s.rules ++ [r] } (r.a, r.b) else
  (s.objs r.pivot).foldl (fun s o => s.fire P r o) { s with rules := s.rules ++ [r] }
def SV.mark (s : SV) (f : Int × Int) : SV := { s with has := s.has.set f.1.toNat ((s.has.getD f.1.toNat []).set f.2.toNat true) }
def SV.came (P : PP) (s : SV) (f : Int × Int) : SV :=
  s.rules.foldl (fun s r => bif r.fired && decide (r.pivot = f.1) then s.fire P r f.2 else s) { s with wait := s.wait ++ (s.succ f.1).map fun t => (t, f.2) }
def SV.clean (s : SV) : SV := { s with wait := s.wait.dropWhile s.bit }
structure Core (P : PP) (S : List (List Int)) (s : SV) : Prop where
  len : s.has.length = P.nodesV
  row : ∀ l ∈ s.has, l.length = P.objectsV
  wait : ∀ f ∈ s.wait, (0 ≤ f.1 ∧ f.1 < P.nodesV) ∧ f.2 ∈ S.getD f.1.toNat []
  bit : ∀ f : Int × Int, s.bit f = true → 0 ≤ f.2 → f.2 ∈ S.getD f.1.toNat []
  edge : ∀ e ∈ s.edges, (0 ≤ e.1 ∧ e.1 < P.nodesV) ∧ (0 ≤ e.2 ∧ e.2 < P.nodesV) ∧ ∀ o ∈ S.getD e.1.toNat [], o ∈ S.getD e.2.toNat []
  along : ∀ e ∈ s.edges, ∀ o, 0 ≤ o → s.bit (e.1, o) = true → s.bit (e.2, o) = true ∨ (e.2, o) ∈ s.wait
  base : ∀ r ∈ s.rules, r.kind.toList = bBase.toList → s.bit (r.a, r.b) = true ∨ (r.a, r.b) ∈ s.wait
  copy : ∀ r ∈ s.rules, r.kind.toList = kCopy → r.a = r.b ∨ (r.a, r.b) ∈ s.edges
def SV.told (P : PP) (s : SV) (r : RV) (o : Int) : Prop := ∀ e ∈ P.fires r o, e.1 = e.2 ∨ e ∈ s.edges
def SndE (P : PP) (S : List (List Int)) (e : Int × Int) : Prop := (0 ≤ e.1 ∧ e.1 < P.nodesV) ∧ (0 ≤ e.2 ∧ e.2 < P.nodesV) ∧ ∀ o ∈ S.getD e.1.toNat [], o ∈ S.getD e.2.toNat []
theorem mem_objs {s : SV} {n o : Int} : o ∈ s.objs n ↔ 0 ≤ o ∧ s.bit (n, o) = true := by
  unfold SV.objs SV.bit
  rw [List.mem_map]
  constructor
  · rintro ⟨k, hk, rfl⟩
    obtain ⟨h1, h2⟩ := List.mem_filter.1 hk
    exact ⟨by omega, by simpa using h2⟩
  · rintro ⟨h0, h⟩
    obtain ⟨k, rfl⟩ := Int.eq_ofNat_of_zero_le h0
    refine ⟨k, List.mem_filter.2 ⟨List.mem_range.2 ?_, by simpa using h⟩, rfl⟩
    rcases Nat.lt_or_ge k (s.has.getD n.toNat []).length with g | g
    · exact g
    · have : (s.has.getD n.toNat []).getD k false = false := by rw [List.getD_eq_getElem?_getD, List.getElem?_eq_none g]; rfl
      simp only [Int.toNat_natCast] at h
      rw [this] at h; cases h
theorem edge_has (s : SV) (e : Int × Int) : (s.edge e).has = s.has := by unfold SV.edge; split <;> rfl
theorem edge_rules (s : SV) (e : Int × Int) : (s.edge e).rules = s.rules := by unfold SV.edge; split <;> rfl
theorem edge_bit (s : SV) (e f : Int × Int) : (s.edge e).bit f = s.bit f := by unfold SV.bit; rw [edge_has]
theorem edge_more {s : SV} {e g : Int × Int} (h : g ∈ s.edges) : g ∈ (s.edge e).edges := by
  unfold SV.edge
  split
  · exact h
  · exact List.mem_append_left _ h
theorem edge_in (s : SV) (e : Int × Int) : e.1 = e.2 ∨ e ∈ (s.edge e).edges := by
  unfold SV.edge
  split
  · assumption
  · exact .inr (List.mem_append_right _ (List.mem_singleton.2 rfl))
theorem Core.edgeTo {P : PP} {S : List (List Int)} {s : SV} (h : Core P S s) {e : Int × Int} (he : SndE P S e) : Core P S (s.edge e) := by
  unfold SV.edge
  by_cases hc : e.1 = e.2 ∨ e ∈ s.edges
  · rw [if_pos hc]; exact h
  · rw [if_neg hc]
    refine ⟨h.len, h.row, fun f hf => ?_, h.bit, fun g hg => ?_, fun g hg o h0 hb => ?_, fun r hr hk => ?_, fun r hr hk => ?_⟩
    · rcases List.mem_append.1 hf with hf | hf
      · exact h.wait f hf
      · obtain ⟨o, ho, rfl⟩ := List.mem_map.1 hf
        obtain ⟨h0, hb⟩ := mem_objs.1 ho
        exact ⟨he.2.1, he.2.2 o (h.bit (e.1, o) hb h0)⟩
    · rcases List.mem_append.1 hg with hg | hg
      · exact h.edge g hg
      · obtain rfl := List.mem_singleton.1 hg
        exact he
    · have hb : s.bit (g.1, o) = true := hb
      show s.bit (g.2, o) = true ∨ (g.2, o) ∈ s.wait ++ _
      rcases List.mem_append.1 hg with hg | hg
      · exact (h.along g hg o h0 hb).imp id fun k => List.mem_append_left _ k
      · obtain rfl := List.mem_singleton.1 hg
        exact .inr (List.mem_append_right _ (List.mem_map.2 ⟨o, mem_objs.2 ⟨h0, hb⟩, rfl⟩))
    · exact (h.base r hr hk).imp id fun k => List.mem_append_left _ k
    · exact (h.copy r hr hk).imp id fun k => List.mem_append_left _ k
theorem edges_fold {P : PP} {S : List (List Int)} : ∀ (l : List (Int × Int)) {s : SV}, Core P S s → (∀ e ∈ l, SndE P S e) →
    Core P S (l.foldl SV.edge s) ∧ (l.foldl SV.edge s).has = s.has ∧ (l.foldl SV.edge s).rules = s.rules ∧ (∀ g ∈ s.edges, g ∈ (l.foldl SV.edge s).edges) ∧ ∀ e ∈ l, e.1 = e.2 ∨ e ∈ (l.foldl SV.edge s).edges
  | [], s, h, _ => ⟨h, rfl, rfl, fun _ hg => hg, fun _ he => by cases he⟩
  | e :: l, s, h, hs => by
    obtain ⟨k1, k2, k3, k4, k5⟩ := edges_fold l (h.edgeTo (hs e List.mem_cons_self)) fun g hg => hs g (List.mem_cons_of_mem _ hg)
    refine ⟨k1, k2.trans (edge_has s e), k3.trans (edge_rules s e), fun g hg => k4 g (edge_more hg), fun g hg => ?_⟩
    rcases List.mem_cons.1 hg with rfl | hg
    · exact (edge_in s g).imp id fun k => k4 _ k
    · exact k5 g hg
theorem fires_in {P : PP} {S : List (List Int)} {r : RV} {o : Int} (hf : r.fired = true) (ho : o ∈ S.getD r.pivot.toNat []) {e : Int × Int} (he : e ∈ P.fires r o) : e ∈ P.redges r S := by
  unfold PP.fires at he
  unfold RV.pivot at ho
  unfold RV.fired at hf
  unfold PP.redges
  cases h3 : (r.kind.toList == kCall) with
  | true =>
    have e1 := eq_of_beq h3
    have h0 : (r.kind.toList == kCopy) = false := by rw [e1]; decide
    have h1 : (r.kind.toList == kLoad) = false := by rw [e1]; decide
    have h2 : (r.kind.toList == kStore) = false := by rw [e1]; decide
    rw [h3, cond_true] at he
    rw [h2, cond_false] at ho
    rw [h0, h1, h2, cond_false, cond_false, cond_false, cond_true]
    exact List.mem_flatMap.2 ⟨o, ho, he⟩
  | false =>
    rw [h3, cond_false] at he
    have hn : o < P.nodesV := by
      by_cases g : (P.nodesV : Int) ≤ o
      · rw [if_pos g] at he; cases he
      · omega
    rw [if_neg (by omega)] at he
    have hno : o ∈ S.getD r.pivot.toNat [] := ho
    cases h1 : (r.kind.toList == kLoad) with
    | true =>
      have e1 := eq_of_beq h1
      have h0 : (r.kind.toList == kCopy) = false := by rw [e1]; decide
      have h2 : (r.kind.toList == kStore) = false := by rw [e1]; decide
      rw [h1, cond_true] at he
      rw [h2, cond_false] at ho
      rw [h0, cond_false, cond_true]
      refine List.mem_map.2 ⟨o, List.mem_filter.2 ⟨ho, by rw [decide_eq_false (by omega)]; rfl⟩, (List.mem_singleton.1 he).symm⟩
    | false =>
      rw [h1, h3] at hf
      cases h2 : (r.kind.toList == kStore) with
      | false => rw [h2] at hf; cases hf
      | true =>
        have e1 := eq_of_beq h2
        have h0 : (r.kind.toList == kCopy) = false := by rw [e1]; decide
        rw [h1, cond_false] at he
        rw [h2, cond_true] at ho
        rw [h0, cond_false, cond_false, cond_true]
        exact List.mem_map.2 ⟨o, List.mem_filter.2 ⟨ho, by rw [decide_eq_false (by omega)]; rfl⟩, (List.mem_singleton.1 he).symm⟩
theorem sndE_of {P : PP} {S : List (List Int)} (hg : P.GoodS S) (hc : ClosedP P S) {r : RV} (hr : r ∈ P.rulesV) {e : Int × Int} (he : e ∈ P.redges r S) : SndE P S e := by
  have h0 : e ∈ P.edges0 S := List.mem_flatMap.2 ⟨r, hr, he⟩
  obtain ⟨h1, h2, h3, h4⟩ := edges0_in hg.1 hg.ok e h0
  have hl := hg.2.1
  refine ⟨⟨by omega, by omega⟩, ⟨by omega, by omega⟩, ?_⟩
  by_cases k : e.1 = e.2
  · rw [k]; exact fun _ h => h
  · exact hc.edge e h0 k
structure Full (P : PP) (S : List (List Int)) (s : SV) : Prop where
  core : Core P S s
  of : ∀ r ∈ s.rules, r ∈ P.rulesV
  told : ∀ r ∈ s.rules, r.fired = true → ∀ o, 0 ≤ o → s.bit (r.pivot, o) = true → s.told P r o
theorem Core.fire {P : PP} {S : List (List Int)} {s : SV} (hg : P.GoodS S) (hc : ClosedP P S) (h : Core P S s) {r : RV} (hr : r ∈ P.rulesV) (hf : r.fired = true) {o : Int} (ho : o ∈ S.getD r.pivot.toNat []) :
    Core P S (s.fire P r o) ∧ (s.fire P r o).has = s.has ∧ (s.fire P r o).rules = s.rules ∧ (∀ g ∈ s.edges, g ∈ (s.fire P r o).edges) ∧ (s.fire P r o).told P r o :=
  edges_fold _ h fun _ he => sndE_of hg hc hr (fires_in hf ho he)
theorem told_more {P : PP} {s t : SV} (hm : ∀ g ∈ s.edges, g ∈ t.edges) {r : RV} {o : Int} (h : s.told P r o) : t.told P r o := fun e he => (h e he).imp id fun k => hm e k
theorem bit_has {s t : SV} (h : t.has = s.has) (f : Int × Int) : t.bit f = s.bit f := by unfold SV.bit; rw [h]
theorem objs_has {s t : SV} (h : t.has = s.has) (n : Int) : t.objs n = s.objs n := by unfold SV.objs; rw [h]
theorem fires_fold {P : PP} {S : List (List Int)} (hg : P.GoodS S) (hc : ClosedP P S) {f : Int × Int} (hf : f.2 ∈ S.getD f.1.toNat []) : ∀ (l : List RV) {s : SV}, Core P S s → (∀ r ∈ l, r ∈ P.rulesV) →
    let t := l.foldl (fun s r => bif r.fired && decide (r.pivot = f.1) then s.fire P r f.2 else s) s
    Core P S t ∧ t.has = s.has ∧ t.rules = s.rules ∧ (∀ g ∈ s.edges, g ∈ t.edges) ∧ ∀ r ∈ l, r.fired = true → r.pivot = f.1 → t.told P r f.2
  | [], s, h, _ => ⟨h, rfl, rfl, fun _ hg => hg, fun _ he => by cases he⟩
  | r :: l, s, h, hs => by
    have step : Core P S (bif r.fired && decide (r.pivot = f.1) then s.fire P r f.2 else s) ∧ (bif r.fired && decide (r.pivot = f.1) then s.fire P r f.2 else s).has = s.has ∧ (bif r.fired && decide (r.pivot = f.1) then s.fire P r f.2 else s).rules = s.rules ∧ (∀ g ∈ s.edges, g ∈ (bif r.fired && decide (r.pivot = f.1) then s.fire P r f.2 else s).edges) ∧ (r.fired = true → r.pivot = f.1 → (bif r.fired && decide (r.pivot = f.1) then s.fire P r f.2 else s).told P r f.2) := by
      cases h1 : (r.fired && decide (r.pivot = f.1)) with
      | false =>
        refine ⟨h, rfl, rfl, fun _ k => k, fun k1 k2 => ?_⟩
        rw [k1, decide_eq_true k2] at h1; cases h1
      | true =>
        rw [Bool.and_eq_true] at h1
        have hp := of_decide_eq_true h1.2
        obtain ⟨k1, k2, k3, k4, k5⟩ := h.fire hg hc (hs r List.mem_cons_self) h1.1 (o := f.2) (by rw [hp]; exact hf)
        exact ⟨k1, k2, k3, k4, fun _ _ => k5⟩
    obtain ⟨k1, k2, k3, k4, k5⟩ := step
    obtain ⟨j1, j2, j3, j4, j5⟩ := fires_fold hg hc hf l k1 fun g hg => hs g (List.mem_cons_of_mem _ hg)
    refine ⟨j1, j2.trans k2, j3.trans k3, fun g hg => j4 g (k4 g hg), fun q hq h1 h2 => ?_⟩
    rcases List.mem_cons.1 hq with rfl | hq
    · exact told_more j4 (k5 h1 h2)
    · exact j5 q hq h1 h2
theorem getD_set2 (l : List (List Bool)) (i n : Nat) (v : List Bool) (hn : n < l.length) : (l.set n v).getD i [] = if n = i then v else l.getD i [] := by
  rw [List.getD_eq_getElem?_getD, List.getElem?_set]
  by_cases h : n = i
  · subst h; rw [if_pos rfl, if_pos hn, if_pos rfl]; rfl
  · rw [if_neg h, if_neg h, List.getD_eq_getElem?_getD]
theorem mark_bit {s : SV} {f g : Int × Int} (hf : 0 ≤ f.1 ∧ f.1.toNat < s.has.length) (h2 : 0 ≤ f.2 ∧ f.2.toNat < (s.has.getD f.1.toNat []).length) (hg1 : 0 ≤ g.1) (hg2 : 0 ≤ g.2) : (s.mark f).bit g = true ↔ g = f ∨ s.bit g = true := by
  unfold SV.bit SV.mark
  rw [getD_set2 _ _ _ _ hf.2]
  by_cases h1 : f.1.toNat = g.1.toNat
  · have e1 : f.1 = g.1 := by omega
    rw [if_pos h1, List.getD_eq_getElem?_getD, List.getElem?_set]
    by_cases h3 : f.2.toNat = g.2.toNat
    · have e2 : f.2 = g.2 := by omega
      rw [if_pos h3, if_pos h2.2]
      exact ⟨fun _ => .inl (Prod.ext e1.symm e2.symm), fun _ => rfl⟩
    · rw [if_neg h3, h1]
      refine ⟨fun h => .inr (by rw [List.getD_eq_getElem?_getD]; exact h), fun h => ?_⟩
      rcases h with rfl | h
      · exact absurd rfl h3
      · rw [List.getD_eq_getElem?_getD] at h; exact h
  · rw [if_neg h1]
    refine ⟨.inr, fun h => ?_⟩
    rcases h with rfl | h
    · exact absurd rfl h1
    · exact h
theorem pivot_in {P : PP} (hw : P.Well) {k : Nat} (hk : k < P.stmts.length) (hf : (P.ruleV k (P.stAt k)).fired = true) : 0 ≤ (P.ruleV k (P.stAt k)).pivot := by
  have hgd := PP.good (hw.2 k (P.stAt k) hk (stAt_some hk))
  have ha := rule_a_in hw hk
  unfold RV.pivot
  cases h : ((P.ruleV k (P.stAt k)).kind.toList == kStore) with
  | false => exact ha.1
  | true =>
    rw [cond_true]
    have hb := eq_of_beq bBase_list
    have hk1 := eq_of_beq h
    unfold PP.ruleV at hk1 ⊢
    cases h1 : (P.stAt k).isK kAddr with
    | true => rw [h1, cond_true] at hk1; rw [show (bBase.toList = kStore) = False from by rw [hb]; exact eq_false (by decide)] at hk1; exact hk1.elim
    | false =>
    cases h2 : (P.stAt k).isK kNew with
    | true => rw [h1, h2, cond_false, cond_true] at hk1; rw [show (bBase.toList = kStore) = False from by rw [hb]; exact eq_false (by decide)] at hk1; exact hk1.elim
    | false =>
    cases h3 : (P.stAt k).isK kFun with
    | true => rw [h1, h2, h3, cond_false, cond_false, cond_true] at hk1; rw [show (bBase.toList = kStore) = False from by rw [hb]; exact eq_false (by decide)] at hk1; exact hk1.elim
    | false =>
    cases h4 : (P.stAt k).isK kCall with
    | true => exact hgd.gx.1
    | false => exact hgd.gx.1
theorem Full.marked {P : PP} {S : List (List Int)} {s : SV} (hg : P.GoodS S) (h : Full P S s) {f : Int × Int} (hf : (0 ≤ f.1 ∧ f.1 < P.nodesV) ∧ f.2 ∈ S.getD f.1.toNat []) (h2 : 0 ≤ f.2 ∧ f.2 < P.objectsV) :
    Core P S ({ s.mark f with wait := (s.mark f).wait ++ ((s.mark f).succ f.1).map fun t => (t, f.2) } : SV) := by
  have hl1 : f.1.toNat < s.has.length := by rw [h.core.len]; omega
  have hrow : (s.has.getD f.1.toNat []).length = P.objectsV := by
    rw [List.getD_eq_getElem?_getD, List.getElem?_eq_getElem hl1]
    exact h.core.row _ (List.getElem_mem hl1)
  have hmb := fun (g : Int × Int) (g1 : 0 ≤ g.1) (g2 : 0 ≤ g.2) => mark_bit (s := s) (f := f) (g := g) ⟨hf.1.1, hl1⟩ ⟨h2.1, by rw [hrow]; omega⟩ g1 g2
  obtain ⟨t, ht⟩ : ∃ t, t = ({ s.mark f with wait := (s.mark f).wait ++ ((s.mark f).succ f.1).map fun t => (t, f.2) } : SV) := ⟨_, rfl⟩
  have hth : t.has = (s.mark f).has := by rw [ht]
  have hte : t.edges = s.edges := by rw [ht]; rfl
  have htr : t.rules = s.rules := by rw [ht]; rfl
  have htw : t.wait = s.wait ++ (s.succ f.1).map fun t => (t, f.2) := by rw [ht]; rfl
  have htb : ∀ g : Int × Int, t.bit g = (s.mark f).bit g := bit_has hth
  rw [← ht]
  refine ⟨?_, fun l hl => ?_, fun g hw => ?_, fun g hb g0 => ?_, fun e he => ?_, fun e he o h0 hb => ?_, fun r hr hk => ?_, fun r hr hk => ?_⟩
  · rw [hth]; unfold SV.mark; rw [List.length_set]; exact h.core.len
  · rw [hth] at hl
    rcases List.mem_or_eq_of_mem_set hl with hl | rfl
    · exact h.core.row l hl
    · rw [List.length_set]; exact hrow
  · rw [htw] at hw
    rcases List.mem_append.1 hw with hw | hw
    · exact h.core.wait g hw
    · obtain ⟨q, hq, rfl⟩ := List.mem_map.1 hw
      unfold SV.succ at hq
      obtain ⟨e, he, rfl⟩ := List.mem_map.1 hq
      obtain ⟨he, h1⟩ := List.mem_filter.1 he
      have h1 := of_decide_eq_true h1
      obtain ⟨_, k2, k3⟩ := h.core.edge e he
      rw [h1] at k3
      exact ⟨k2, k3 f.2 hf.2⟩
  · rw [htb] at hb
    by_cases g1 : 0 ≤ g.1
    · rcases (hmb g g1 g0).1 hb with rfl | hb
      · exact hf.2
      · exact h.core.bit g hb g0
    · -- a negative node: its place is the first one's
      have e : g.1.toNat = (0 : Int).toNat := by omega
      have hb' : (s.mark f).bit (0, g.2) = true := by unfold SV.bit at hb ⊢; rw [e] at hb; exact hb
      rw [e]
      rcases (hmb (0, g.2) (Int.le_refl 0) g0).1 hb' with k | k
      · have := hf.2; rw [← k] at this; exact this
      · exact h.core.bit (0, g.2) k g0
  · rw [hte] at he; exact h.core.edge e he
  · rw [hte] at he
    obtain ⟨k1, k2, _⟩ := h.core.edge e he
    rw [htb] at hb ⊢
    rw [htw]
    rcases (hmb (e.1, o) k1.1 h0).1 hb with k | k
    · refine .inr (List.mem_append_right _ (List.mem_map.2 ⟨e.2, ?_, by rw [← k]⟩))
      unfold SV.succ
      refine List.mem_map.2 ⟨e, List.mem_filter.2 ⟨he, decide_eq_true ?_⟩, rfl⟩
      rw [← k]
    · rcases h.core.along e he o h0 k with k | k
      · exact .inl ((hmb (e.2, o) k2.1 h0).2 (.inr k))
      · exact .inr (List.mem_append_left _ k)
  · rw [htr] at hr
    rw [htb, htw]
    have hrv := h.of r hr
    rcases h.core.base r hr hk with k | k
    · refine .inl ?_
      obtain ⟨i, hi, rfl⟩ := List.mem_map.1 hrv
      have hi := List.mem_range.1 hi
      exact (hmb _ (rule_a_in hg.1 hi).1 (base_b_in hg.1 hi hk).1).2 (.inr k)
    · exact .inr (List.mem_append_left _ k)
  · rw [htr] at hr; rw [hte]; exact h.core.copy r hr hk
theorem Full.came {P : PP} {S : List (List Int)} {s : SV} (hg : P.GoodS S) (hc : ClosedP P S) (h : Full P S s) {f : Int × Int} (hf : (0 ≤ f.1 ∧ f.1 < P.nodesV) ∧ f.2 ∈ S.getD f.1.toNat []) (h2 : 0 ≤ f.2 ∧ f.2 < P.objectsV) :
    Full P S ((s.mark f).came P f) ∧ ((s.mark f).came P f).has = (s.mark f).has ∧ ((s.mark f).came P f).rules = s.rules := by
  have hl1 : f.1.toNat < s.has.length := by rw [h.core.len]; omega
  have hrow : (s.has.getD f.1.toNat []).length = P.objectsV := by
    rw [List.getD_eq_getElem?_getD, List.getElem?_eq_getElem hl1]
    exact h.core.row _ (List.getElem_mem hl1)
  have hmb := fun (g : Int × Int) (g1 : 0 ≤ g.1) (g2 : 0 ≤ g.2) => mark_bit (s := s) (f := f) (g := g) ⟨hf.1.1, hl1⟩ ⟨h2.1, by rw [hrow]; omega⟩ g1 g2
  obtain ⟨t, ht⟩ : ∃ t, t = ({ s.mark f with wait := (s.mark f).wait ++ ((s.mark f).succ f.1).map fun t => (t, f.2) } : SV) := ⟨_, rfl⟩
  have hth : t.has = (s.mark f).has := by rw [ht]
  have hte : t.edges = s.edges := by rw [ht]; rfl
  have htr : t.rules = s.rules := by rw [ht]; rfl
  have htw : t.wait = s.wait ++ (s.succ f.1).map fun t => (t, f.2) := by rw [ht]; rfl
  have htb : ∀ g : Int × Int, t.bit g = (s.mark f).bit g := bit_has hth
  have hcore : Core P S t := by rw [ht]; exact h.marked hg hf h2
  obtain ⟨k1, k2, k3, k4, k5⟩ := fires_fold hg hc hf.2 t.rules hcore fun r hr => by rw [htr] at hr; exact h.of r hr
  have hce : (s.mark f).came P f = t.rules.foldl (fun s r => bif r.fired && decide (r.pivot = f.1) then s.fire P r f.2 else s) t := by rw [ht]; rfl
  rw [hce]
  refine ⟨⟨k1, fun r hr => by rw [k3, htr] at hr; exact h.of r hr, fun r hr hfd o h0 hb => ?_⟩, k2.trans hth, k3.trans htr⟩
  rw [k3] at hr
  rw [bit_has k2, htb] at hb
  have hr' := hr
  rw [htr] at hr'
  have hp0 : 0 ≤ r.pivot := by
    obtain ⟨i, hi, rfl⟩ := List.mem_map.1 (h.of r hr')
    exact pivot_in hg.1 (List.mem_range.1 hi) hfd
  rcases (hmb (r.pivot, o) hp0 h0).1 hb with k | k
  · have e1 : r.pivot = f.1 := by rw [← k]
    have e2 : o = f.2 := by rw [← k]
    rw [e2]
    exact k5 r hr hfd e1
  · exact told_more (fun g hg => k4 g (by rw [hte]; exact hg)) (h.told r hr' hfd o h0 k)
theorem mem_dropWhile_or {α : Type} {p : α → Bool} : ∀ {l : List α} {x : α}, x ∈ l → x ∈ l.dropWhile p ∨ p x = true
  | y :: l, x, h => by
    cases hy : p y with
    | false => rw [List.dropWhile_cons, hy]; exact .inl h
    | true =>
      rw [List.dropWhile_cons, hy]
      rcases List.mem_cons.1 h with rfl | h
      · exact .inr hy
      · exact mem_dropWhile_or h
theorem mem_of_dropWhile {α : Type} {p : α → Bool} : ∀ {l : List α} {x : α}, x ∈ l.dropWhile p → x ∈ l
  | y :: l, x, h => by
    rw [List.dropWhile_cons] at h
    split at h
    · exact List.mem_cons_of_mem _ (mem_of_dropWhile h)
    · exact h
theorem dropWhile_head {α : Type} {p : α → Bool} : ∀ {l : List α} {x : α} {r : List α}, l.dropWhile p = x :: r → p x = false
  | y :: l, x, r, h => by
    rw [List.dropWhile_cons] at h
    split at h
    · exact dropWhile_head h
    · next hy =>
      obtain ⟨rfl, _⟩ := List.cons.inj h
      exact eq_false_of_ne_true hy
theorem Full.cleaned {P : PP} {S : List (List Int)} {s : SV} (h : Full P S s) : Full P S s.clean := by
  have k := h.core
  refine ⟨⟨k.len, k.row, fun f hf => k.wait f (mem_of_dropWhile hf), k.bit, k.edge, fun e he o h0 hb => ?_, fun r hr hk => ?_, k.copy⟩, h.of, h.told⟩
  · rcases k.along e he o h0 hb with g | g
    · exact .inl g
    · rcases mem_dropWhile_or (p := s.bit) g with g | g
      · exact .inr g
      · exact .inl g
  · rcases k.base r hr hk with g | g
    · exact .inl g
    · rcases mem_dropWhile_or (p := s.bit) g with g | g
      · exact .inr g
      · exact .inl g
theorem fires_objs {P : PP} {S : List (List Int)} (hg : P.GoodS S) (hc : ClosedP P S) {r : RV} (hr : r ∈ P.rulesV) (hf : r.fired = true) : ∀ (l : List Int) {s : SV}, Core P S s → (∀ o ∈ l, o ∈ S.getD r.pivot.toNat []) →
    let t := l.foldl (fun s o => s.fire P r o) s
    Core P S t ∧ t.has = s.has ∧ t.rules = s.rules ∧ (∀ g ∈ s.edges, g ∈ t.edges) ∧ ∀ o ∈ l, t.told P r o
  | [], s, h, _ => ⟨h, rfl, rfl, fun _ hg => hg, fun _ he => by cases he⟩
  | o :: l, s, h, hs => by
    obtain ⟨k1, k2, k3, k4, k5⟩ := h.fire hg hc hr hf (hs o List.mem_cons_self)
    obtain ⟨j1, j2, j3, j4, j5⟩ := fires_objs hg hc hr hf l k1 fun q hq => hs q (List.mem_cons_of_mem _ hq)
    refine ⟨j1, j2.trans k2, j3.trans k3, fun g hg => j4 g (k4 g hg), fun q hq => ?_⟩
    rcases List.mem_cons.1 hq with rfl | hq
    · exact told_more j4 k5
    · exact j5 q hq
theorem fired_kinds {r : RV} (h : r.fired = true) : r.kind.toList ≠ bBase.toList ∧ r.kind.toList ≠ kCopy := by
  have hb := eq_of_beq bBase_list
  rw [hb]
  unfold RV.fired at h
  rw [Bool.or_eq_true, Bool.or_eq_true] at h
  rcases h with (h | h) | h <;> rw [eq_of_beq h] <;> decide
theorem rule_kinds {P : PP} (hw : P.Well) {r : RV} (hr : r ∈ P.rulesV) : r.kind.toList = bBase.toList ∨ r.kind.toList = kCopy ∨ r.fired = true := by
  obtain ⟨k, hk, rfl⟩ := List.mem_map.1 hr
  have hk := List.mem_range.1 hk
  have h0 := hw.2 k (P.stAt k) hk (stAt_some hk)
  unfold PP.ruleV
  cases h1 : (P.stAt k).isK kAddr with
  | true => exact .inl rfl
  | false =>
  cases h2 : (P.stAt k).isK kNew with
  | true => exact .inl rfl
  | false =>
  cases h3 : (P.stAt k).isK kFun with
  | true => exact .inl rfl
  | false =>
  cases h4 : (P.stAt k).isK kCall with
  | true =>
    refine .inr (.inr ?_)
    show RV.fired ⟨bCall, _, _, _, _⟩ = true
    have hb : bCall.toList = kCall := by decide +kernel
    unfold RV.fired
    simp only [hb]
    decide
  | false =>
    show _ ∨ (P.stAt k).kind.toList = kCopy ∨ RV.fired ⟨(P.stAt k).kind, _, _, _, _⟩ = true
    rcases kind_cases h0 with h | h | h | h | h | h | h
    · rw [h1] at h; cases h
    · exact .inr (.inl (eq_of_beq h))
    · have h := eq_of_beq h
      exact .inr (.inr (by unfold RV.fired; simp only [h]; decide))
    · have h := eq_of_beq h
      exact .inr (.inr (by unfold RV.fired; simp only [h]; decide))
    · rw [h2] at h; cases h
    · rw [h3] at h; cases h
    · rw [h4] at h; cases h
theorem Full.added {P : PP} {S : List (List Int)} {s : SV} (hg : P.GoodS S) (hc : ClosedP P S) (h : Full P S s) {r : RV} (hr : r ∈ P.rulesV) : Full P S (s.add P r) ∧ (s.add P r).has = s.has ∧ (s.add P r).rules = s.rules ++ [r] := by
  have hcore0 : r.kind.toList ≠ bBase.toList → r.kind.toList ≠ kCopy → Core P S { s with rules := s.rules ++ [r] } := fun n1 n2 =>
    ⟨h.core.len, h.core.row, h.core.wait, h.core.bit, h.core.edge, h.core.along, fun q hq hk => by
      rcases List.mem_append.1 hq with hq | hq
      · exact h.core.base q hq hk
      · obtain rfl := List.mem_singleton.1 hq
        exact absurd hk n1, fun q hq hk => by
      rcases List.mem_append.1 hq with hq | hq
      · exact h.core.copy q hq hk
      · obtain rfl := List.mem_singleton.1 hq
        exact absurd hk n2⟩
  have hof : ∀ q ∈ s.rules ++ [r], q ∈ P.rulesV := fun q hq => by
    rcases List.mem_append.1 hq with hq | hq
    · exact h.of q hq
    · obtain rfl := List.mem_singleton.1 hq
      exact hr
  unfold SV.add
  cases h1 : (r.kind.toList == bBase.toList) with
  | true =>
    have hb := eq_of_beq h1
    obtain ⟨k, hk, hrk⟩ := List.mem_map.1 hr
    have hk := List.mem_range.1 hk
    have ha := rule_a_in hg.1 hk
    have hba := hc.base k hk (by rw [hrk]; exact hb)
    rw [hrk] at ha hba
    have hnv := nodes_vars P
    refine ⟨⟨⟨h.core.len, h.core.row, fun f hf => ?_, h.core.bit, h.core.edge, fun e he o h0 hbt => (h.core.along e he o h0 hbt).imp id fun g => List.mem_append_left _ g, fun q hq hqk => ?_, fun q hq hqk => ?_⟩, hof, fun q hq hqf o h0 hbt => ?_⟩, rfl, rfl⟩
    · rcases List.mem_append.1 hf with hf | hf
      · exact h.core.wait f hf
      · obtain rfl := List.mem_singleton.1 hf
        exact ⟨⟨ha.1, by omega⟩, hba⟩
    · rcases List.mem_append.1 hq with hq | hq
      · exact (h.core.base q hq hqk).imp id fun g => List.mem_append_left _ g
      · obtain rfl := List.mem_singleton.1 hq
        exact .inr (List.mem_append_right _ (List.mem_singleton.2 rfl))
    · rcases List.mem_append.1 hq with hq | hq
      · exact h.core.copy q hq hqk
      · obtain rfl := List.mem_singleton.1 hq
        rw [hb, eq_of_beq bBase_list] at hqk
        exact absurd hqk (by decide)
    · rcases List.mem_append.1 hq with hq | hq
      · exact h.told q hq hqf o h0 hbt
      · obtain rfl := List.mem_singleton.1 hq
        exact absurd hb (fired_kinds hqf).1
  | false =>
  have n1 : r.kind.toList ≠ bBase.toList := fun e => by rw [e] at h1; simp at h1
  cases h2 : (r.kind.toList == kCopy) with
  | true =>
    have hb := eq_of_beq h2
    have hsnd : SndE P S (r.a, r.b) := sndE_of hg hc hr (by unfold PP.redges; rw [h2, cond_true]; exact List.mem_singleton.2 rfl)
    obtain ⟨t, ht⟩ : ∃ t : SV, t = { s with rules := s.rules ++ [r] } := ⟨_, rfl⟩
    have hin := edge_in t (r.a, r.b)
    have hcore1 : Core P S ({ s with rules := s.rules }.edge (r.a, r.b)) := h.core.edgeTo hsnd
    have e1 : (t.edge (r.a, r.b)).edges = (s.edge (r.a, r.b)).edges := by rw [ht]; unfold SV.edge; split <;> rfl
    have e2 : (t.edge (r.a, r.b)).wait = (s.edge (r.a, r.b)).wait := by rw [ht]; unfold SV.edge; split <;> rfl
    have e3 : (t.edge (r.a, r.b)).has = s.has := by rw [edge_has, ht]
    have e4 : (t.edge (r.a, r.b)).rules = s.rules ++ [r] := by rw [edge_rules, ht]
    have e5 : ∀ f, (t.edge (r.a, r.b)).bit f = s.bit f := bit_has e3
    have k := h.core.edgeTo hsnd
    have hmore : ∀ g ∈ s.edges, g ∈ (t.edge (r.a, r.b)).edges := fun g hg => by rw [e1]; exact edge_more hg
    rw [cond_false, cond_true, ← ht]
    refine ⟨⟨⟨by rw [e3]; exact h.core.len, by rw [e3]; exact h.core.row, fun f hf => by rw [e2] at hf; exact k.wait f hf, fun f hf h0 => by rw [e5] at hf; exact h.core.bit f hf h0, fun e he => by rw [e1] at he; exact k.edge e he, fun e he o h0 hbt => ?_, fun q hq hqk => ?_, fun q hq hqk => ?_⟩, fun q hq => by rw [e4] at hq; exact hof q hq, fun q hq hqf o h0 hbt => ?_⟩, e3, e4⟩
    · rw [e1] at he
      rw [e5] at hbt ⊢
      rw [e2]
      have := k.along e he o h0 (by rw [edge_bit]; exact hbt)
      rwa [edge_bit] at this
    · rw [e4] at hq
      rw [e5, e2]
      rcases List.mem_append.1 hq with hq | hq
      · have := k.base q (by rw [edge_rules]; exact hq) hqk
        rwa [edge_bit] at this
      · obtain rfl := List.mem_singleton.1 hq
        exact absurd hqk n1
    · rw [e4] at hq
      rcases List.mem_append.1 hq with hq | hq
      · exact (h.core.copy q hq hqk).imp id fun g => hmore _ g
      · obtain rfl := List.mem_singleton.1 hq
        exact hin
    · rw [e4] at hq
      rw [e5] at hbt
      rcases List.mem_append.1 hq with hq | hq
      · exact told_more hmore (h.told q hq hqf o h0 hbt)
      · obtain rfl := List.mem_singleton.1 hq
        exact absurd hb (fired_kinds hqf).2
  | false =>
  have n2 : r.kind.toList ≠ kCopy := fun e => by rw [e] at h2; simp at h2
  have hf : r.fired = true := by
    rcases rule_kinds hg.1 hr with g | g | g
    · exact absurd g n1
    · exact absurd g n2
    · exact g
  obtain ⟨k1, k2, k3, k4, k5⟩ := fires_objs hg hc hr hf (s.objs r.pivot) (hcore0 n1 n2) fun o ho => by
    obtain ⟨h0, hb⟩ := mem_objs.1 ho
    exact h.core.bit (r.pivot, o) hb h0
  rw [cond_false, cond_false]
  refine ⟨⟨k1, fun q hq => by rw [k3] at hq; exact hof q hq, fun q hq hqf o h0 hbt => ?_⟩, k2, k3⟩
  rw [k3] at hq
  rw [bit_has k2] at hbt
  rcases List.mem_append.1 hq with hq | hq
  · exact told_more k4 (h.told q hq hqf o h0 hbt)
  · obtain rfl := List.mem_singleton.1 hq
    exact k5 o (mem_objs.2 ⟨h0, hbt⟩)
def SV.zero (P : PP) : SV := ⟨List.replicate P.nodesV (List.replicate P.objectsV false), [], [], []⟩
theorem zero_bit (P : PP) (f : Int × Int) : (SV.zero P).bit f = false := by
  unfold SV.bit SV.zero
  simp only [List.getD_eq_getElem?_getD, List.getElem?_replicate]
  split
  · simp only [Option.getD_some, List.getElem?_replicate]
    split <;> rfl
  · rfl
theorem Full.zero (P : PP) (S : List (List Int)) : Full P S (SV.zero P) := by
  refine ⟨⟨List.length_replicate, fun l hl => ?_, fun f hf => (by cases hf), fun f hb _ => ?_, fun e he => (by cases he), fun e he => (by cases he), fun r hr => (by cases hr), fun r hr => (by cases hr)⟩, fun r hr => (by cases hr), fun r hr => (by cases hr)⟩
  · obtain rfl := List.eq_of_mem_replicate hl
    exact List.length_replicate
  · rw [zero_bit] at hb; cases hb
theorem objs_srt (s : SV) (n : Int) : Srt (s.objs n) := by
  unfold SV.objs
  show List.Pairwise (· < ·) _
  rw [List.pairwise_map]
  exact List.Pairwise.imp (R := (· < ·)) (fun h => by omega) (List.Pairwise.sublist List.filter_sublist List.pairwise_lt_range)
theorem bit_few {P : PP} {S : List (List Int)} {s : SV} (h : Core P S s) {f : Int × Int} (h0 : 0 ≤ f.2) (hb : s.bit f = true) : f.2 < P.objectsV := by
  unfold SV.bit at hb
  rcases Nat.lt_or_ge f.1.toNat s.has.length with g | g
  · have hl : (s.has.getD f.1.toNat []).length = P.objectsV := by
      rw [List.getD_eq_getElem?_getD, List.getElem?_eq_getElem g]
      exact h.row _ (List.getElem_mem g)
    rcases Nat.lt_or_ge f.2.toNat P.objectsV with k | k
    · omega
    · rw [List.getD_eq_getElem?_getD (l := s.has.getD f.1.toNat []), List.getElem?_eq_none (by omega)] at hb; cases hb
  · rw [List.getD_eq_getElem?_getD (l := s.has), List.getElem?_eq_none g] at hb; cases hb
theorem redges_nil' {P : PP} {r : RV} {has : List (List Int)} (h : r.kind.toList = bBase.toList) : P.redges r has = [] := by
  have e := eq_of_beq bBase_list
  unfold PP.redges kCopy kLoad kStore kCall
  rw [h, e]; rfl
theorem redges_out {P : PP} {H : List (List Int)} {r : RV} (hf : r.fired = true) {e : Int × Int} (he : e ∈ P.redges r H) : ∃ o, o ∈ H.getD r.pivot.toNat [] ∧ e ∈ P.fires r o := by
  unfold PP.redges at he
  unfold PP.fires RV.pivot
  unfold RV.fired at hf
  cases h0 : (r.kind.toList == kCopy) with
  | true =>
    have e0 := eq_of_beq h0
    rw [e0] at hf
    exact absurd hf (by decide)
  | false =>
  rw [h0, cond_false] at he
  cases h1 : (r.kind.toList == kLoad) with
  | true =>
    have e1 := eq_of_beq h1
    have h2 : (r.kind.toList == kStore) = false := by rw [e1]; decide
    have h3 : (r.kind.toList == kCall) = false := by rw [e1]; decide
    rw [h1, cond_true] at he
    obtain ⟨o, ho, rfl⟩ := List.mem_map.1 he
    obtain ⟨k1, k2⟩ := List.mem_filter.1 ho
    have hn : ¬ (P.nodesV : Int) ≤ o := fun g => by rw [decide_eq_true g] at k2; cases k2
    rw [h2, h3, cond_false]
    refine ⟨o, k1, ?_⟩
    rw [cond_false, if_neg hn, cond_true]
    exact List.mem_singleton.2 rfl
  | false =>
  rw [h1, cond_false] at he
  cases h2 : (r.kind.toList == kStore) with
  | true =>
    have e1 := eq_of_beq h2
    have h3 : (r.kind.toList == kCall) = false := by rw [e1]; decide
    rw [h2, cond_true] at he
    obtain ⟨o, ho, rfl⟩ := List.mem_map.1 he
    obtain ⟨k1, k2⟩ := List.mem_filter.1 ho
    have hn : ¬ (P.nodesV : Int) ≤ o := fun g => by rw [decide_eq_true g] at k2; cases k2
    rw [h3, cond_true]
    refine ⟨o, k1, ?_⟩
    rw [cond_false, if_neg hn, cond_false]
    exact List.mem_singleton.2 rfl
  | false =>
  rw [h2, cond_false] at he
  cases h3 : (r.kind.toList == kCall) with
  | true =>
    rw [h3, cond_true] at he
    obtain ⟨o, ho, hc⟩ := List.mem_flatMap.1 he
    exact ⟨o, ho, hc⟩
  | false => rw [h3, cond_false] at he; cases he
def SV.sets (P : PP) (s : SV) : List (List Int) := (List.range P.nodesV).map fun n : Nat => s.objs (n : Int)
theorem sets_getD {P : PP} {s : SV} {n : Nat} (hn : n < P.nodesV) : (s.sets P).getD n [] = s.objs n := by
  unfold SV.sets
  rw [List.getD_eq_getElem?_getD, List.getElem?_map, List.getElem?_range hn]; rfl
theorem Core.sub {P : PP} {S : List (List Int)} {s : SV} (h : Core P S s) (n : Nat) : ∀ o ∈ s.objs n, o ∈ S.getD n [] := fun o ho => by
  obtain ⟨h0, hb⟩ := mem_objs.1 ho
  exact h.bit ((n : Int), o) hb h0
theorem Core.good {P : PP} {S : List (List Int)} {s : SV} (hw : P.Well) (h : Core P S s) : P.GoodS (s.sets P) := by
  have h126 := nodesV_le P hw
  have hf := hw.few
  refine ⟨hw, by unfold SV.sets; rw [List.length_map, List.length_range], fun l hl => ?_⟩
  obtain ⟨n, hn, rfl⟩ := List.mem_map.1 hl
  have hlt : ∀ x ∈ s.objs n, 0 ≤ x ∧ x < (P.objectsV : Int) := fun x hx => by
    obtain ⟨h0, hb⟩ := mem_objs.1 hx
    exact ⟨h0, bit_few h (f := ((n : Int), x)) h0 hb⟩
  refine setE_of (chkE_zero.2 ⟨fun x hx => ?_, objs_srt s n⟩) fun x hx => (hlt x hx).2
  have := hlt x hx
  unfold PP.objectsV at this
  omega
theorem Full.done {P : PP} {S : List (List Int)} {s : SV} {m : Nat} (hL : LeastAt P m S) (hw : P.Well) (h : Full P S s) (hr : ∀ r ∈ P.rulesV, r ∈ s.rules) (hwt : s.wait = []) {n : Nat} (hn : n < P.nodesV) : s.objs n = S.getD n [] := by
  have hg := hL.good hw
  have hgs := h.core.good hw
  have hcl : ClosedP P (s.sets P) := by
    refine ⟨fun k hk hb => ?_, fun e he hne q hq => ?_⟩
    · have hrk : P.ruleV k (P.stAt k) ∈ P.rulesV := List.mem_map.2 ⟨k, List.mem_range.2 hk, rfl⟩
      have ha := rule_a_in hw hk
      have hnv := nodes_vars P
      have hbi := base_b_in hw hk hb
      rcases h.core.base _ (hr _ hrk) hb with g | g
      · rw [sets_getD (by omega)]
        refine mem_objs.2 ⟨hbi.1, ?_⟩
        rw [show (((P.ruleV k (P.stAt k)).a.toNat : Nat) : Int) = (P.ruleV k (P.stAt k)).a by omega]
        exact g
      · rw [hwt] at g; cases g
    · obtain ⟨r, hrv, her⟩ := List.mem_flatMap.1 he
      obtain ⟨i1, i2, i3, i4⟩ := edges0_in hw hgs.ok e he
      have hin : e ∈ s.edges := by
        have hrs := hr r hrv
        cases hfd : r.fired with
        | false =>
          rcases rule_kinds hw hrv with g | g | g
          · rw [redges_nil' g] at her; cases her
          · have her2 : e = (r.a, r.b) := by
              unfold PP.redges at her
              rw [show (r.kind.toList == kCopy) = true from by rw [g]; decide, cond_true] at her
              exact List.mem_singleton.1 her
            rcases h.core.copy r hrs g with k | k
            · rw [her2] at hne; exact absurd k hne
            · rw [her2]; exact k
          · rw [hfd] at g; cases g
        | true =>
          obtain ⟨i, hi, hri⟩ := List.mem_map.1 hrv
          have hi := List.mem_range.1 hi
          have hp0 : 0 ≤ r.pivot := by rw [← hri]; exact pivot_in hw hi (by rw [hri]; exact hfd)
          obtain ⟨o, ho, hfo⟩ := redges_out hfd her
          have hpn : r.pivot.toNat < P.nodesV := by
            rcases Nat.lt_or_ge r.pivot.toNat P.nodesV with g | g
            · exact g
            · rw [List.getD_eq_getElem?_getD, List.getElem?_eq_none (by rw [hgs.2.1]; exact g)] at ho; cases ho
          rw [sets_getD hpn] at ho
          obtain ⟨o0, ob⟩ := mem_objs.1 ho
          rw [Int.toNat_of_nonneg hp0] at ob
          rcases h.told r hrs hfd o o0 ob e hfo with k | k
          · exact absurd k hne
          · exact k
      rw [sets_getD (by omega)] at hq ⊢
      obtain ⟨q0, qb⟩ := mem_objs.1 hq
      rw [Int.toNat_of_nonneg i1] at qb
      rcases h.core.along e hin q q0 qb with k | k
      · refine mem_objs.2 ⟨q0, ?_⟩
        rw [Int.toNat_of_nonneg i3]
        exact k
      · rw [hwt] at k; cases k
  have hsub := hL.within hgs hcl
  refine srt_uniq (objs_srt s n) ?_ fun o => ⟨h.core.sub n o, fun ho => ?_⟩
  · rw [List.getD_eq_getElem?_getD]
    cases hl : S[n]? with
    | none => exact List.Pairwise.nil
    | some l => exact (chkE_zero.1 (hg.ok.ok l (List.mem_of_getElem? hl)).1).2
  · have := hsub n o ho
    rwa [sets_getD hn] at this
theorem row_count (l : List Bool) : ((List.range l.length).filter fun o => l.getD o false).length = l.countP id := by
  have e : l = (List.range l.length).map fun o => l.getD o false := by
    refine List.ext_getElem (by simp) fun i h1 h2 => ?_
    rw [List.getElem_map, List.getElem_range, List.getD_eq_getElem?_getD, List.getElem?_eq_getElem h1]; rfl
  conv => rhs; rw [e]
  rw [List.countP_map, List.countP_eq_length_filter]
  rfl
theorem objs_len (s : SV) (n : Int) : (s.objs n).length = (s.has.getD n.toNat []).countP id := by
  unfold SV.objs
  rw [List.length_map]
  exact row_count _
theorem count_set : ∀ (l : List Bool) (k : Nat), k < l.length → l.getD k false = false → (l.set k true).countP id = l.countP id + 1
  | b :: l, 0, _, h => by
    have hb : b = false := h
    subst hb
    simp
  | b :: l, k + 1, hk, h => by
    have ih := count_set l k (by simpa using hk) (by simpa using h)
    rw [qS2, List.countP_cons, List.countP_cons, ih]
    omega
theorem sum_one (g g' : Nat → Nat) (i : Nat) (h : ∀ n, n ≠ i → g' n = g n) (hi : g' i = g i + 1) : ∀ N, ((List.range N).map g').sum = ((List.range N).map g).sum + if i < N then 1 else 0
  | 0 => by simp
  | N + 1 => by
    rw [List.range_succ, List.map_append, List.map_append, List.sum_append, List.sum_append, sum_one g g' i h hi N]
    simp only [List.map_cons, List.map_nil, List.sum_cons, List.sum_nil]
    by_cases e : N = i
    · subst e
      rw [hi, if_neg (Nat.lt_irrefl _), if_pos (Nat.lt_succ_self _)]
      omega
    · rw [h N e]
      by_cases k : i < N
      · rw [if_pos k, if_pos (by omega)]; omega
      · rw [if_neg k, if_neg (by omega)]; omega
theorem sum_le (g g' : Nat → Nat) : ∀ N, (∀ n, n < N → g n ≤ g' n) → ((List.range N).map g).sum ≤ ((List.range N).map g').sum ∧ (((List.range N).map g).sum = ((List.range N).map g').sum → ∀ n, n < N → g n = g' n)
  | 0, _ => ⟨Nat.le_refl _, fun _ n h => by omega⟩
  | N + 1, h => by
    obtain ⟨k1, k2⟩ := sum_le g g' N fun n hn => h n (by omega)
    have hN := h N (Nat.lt_succ_self _)
    rw [List.range_succ, List.map_append, List.map_append, List.sum_append, List.sum_append]
    simp only [List.map_cons, List.map_nil, List.sum_cons, List.sum_nil]
    refine ⟨by omega, fun e n hn => ?_⟩
    by_cases hc : n = N
    · subst hc; omega
    · exact k2 (by omega) n (by omega)
def SV.tot (P : PP) (s : SV) : Nat := ((List.range P.nodesV).map fun n : Nat => (s.objs (n : Int)).length).sum
def totS (P : PP) (S : List (List Int)) : Nat := ((List.range P.nodesV).map fun n : Nat => (S.getD n []).length).sum
theorem set_srt {P : PP} {S : List (List Int)} (hg : P.GoodS S) (n : Nat) : Srt (S.getD n []) := by
  rw [List.getD_eq_getElem?_getD]
  cases hl : S[n]? with
  | none => exact List.Pairwise.nil
  | some l => exact (chkE_zero.1 (hg.ok.ok l (List.mem_of_getElem? hl)).1).2
theorem tot_le {P : PP} {S : List (List Int)} {s : SV} (hg : P.GoodS S) (h : Core P S s) : s.tot P ≤ totS P S ∧ (s.tot P = totS P S → ∀ n, n < P.nodesV → s.objs (n : Int) = S.getD n []) := by
  obtain ⟨k1, k2⟩ := sum_le (fun n : Nat => (s.objs (n : Int)).length) (fun n => (S.getD n []).length) P.nodesV fun n _ => (srt_len (objs_srt s n) (set_srt hg n) (h.sub n)).1
  exact ⟨k1, fun e n hn => (srt_len (objs_srt s n) (set_srt hg n) (h.sub n)).2 (k2 e n hn)⟩
theorem tot_mark {P : PP} {s : SV} (hl : s.has.length = P.nodesV) {f : Int × Int} (h1 : 0 ≤ f.1 ∧ f.1 < P.nodesV) (h2 : 0 ≤ f.2 ∧ f.2.toNat < (s.has.getD f.1.toNat []).length) (hb : s.bit f = false) : (s.mark f).tot P = s.tot P + 1 := by
  unfold SV.tot
  have hn : f.1.toNat < s.has.length := by omega
  have h1' : ∀ n : Nat, n ≠ f.1.toNat → ((s.mark f).objs (n : Int)).length = (s.objs (n : Int)).length := fun n hne => by
    rw [objs_len, objs_len]
    unfold SV.mark
    rw [getD_set2 _ _ _ _ hn, if_neg (by omega)]
  have h2' : ((s.mark f).objs ((f.1.toNat : Nat) : Int)).length = (s.objs ((f.1.toNat : Nat) : Int)).length + 1 := by
    rw [objs_len, objs_len]
    unfold SV.mark
    rw [getD_set2 _ _ _ _ hn, if_pos (by omega), Int.toNat_natCast]
    exact count_set _ _ h2.2 hb
  have key := sum_one (fun n : Nat => (s.objs (n : Int)).length) (fun n : Nat => ((s.mark f).objs (n : Int)).length) f.1.toNat h1' h2' P.nodesV
  rw [if_pos (by omega)] at key
  exact key
def SV.one (P : PP) (s : SV) : SV := match s.wait with
  | [] => s
  | f :: _ => ((s.mark f).came P f).clean
def SV.ready (s : SV) : Prop := ∀ f r, s.wait = f :: r → s.bit f = false
theorem clean_ready (s : SV) : s.clean.ready := fun _ _ h => dropWhile_head h
theorem clean_has (s : SV) : s.clean.has = s.has := rfl
theorem tot_has {P : PP} {s t : SV} (h : t.has = s.has) : t.tot P = s.tot P := by unfold SV.tot; simp only [objs_has h]
theorem Full.one {P : PP} {S : List (List Int)} {s : SV} (hg : P.GoodS S) (hc : ClosedP P S) (h : Full P S s) (hr : s.ready) {f : Int × Int} {r : List (Int × Int)} (hw : s.wait = f :: r) :
    Full P S (s.one P) ∧ (s.one P).ready ∧ (s.one P).rules = s.rules ∧ (s.one P).tot P = s.tot P + 1 := by
  have hfw := h.core.wait f (by rw [hw]; exact List.mem_cons_self)
  have hlen := hg.2.1
  have hin : f.2 ∈ S.getD f.1.toNat [] := hfw.2
  have h2 : 0 ≤ f.2 ∧ f.2 < P.objectsV := by
    rw [List.getD_eq_getElem?_getD, List.getElem?_eq_getElem (show f.1.toNat < S.length by omega)] at hin
    have hk := hg.ok.ok _ (List.getElem_mem (show f.1.toNat < S.length by omega))
    exact ⟨((chkE_zero.1 hk.1).1 _ hin).1, hk.2 _ hin⟩
  obtain ⟨k1, k2, k3⟩ := h.came hg hc hfw h2
  have hrow : (s.has.getD f.1.toNat []).length = P.objectsV := by
    have hl1 : f.1.toNat < s.has.length := by rw [h.core.len]; omega
    rw [List.getD_eq_getElem?_getD, List.getElem?_eq_getElem hl1]
    exact h.core.row _ (List.getElem_mem hl1)
  have e : s.one P = ((s.mark f).came P f).clean := by unfold SV.one; rw [hw]
  rw [e]
  refine ⟨k1.cleaned, clean_ready _, k3, ?_⟩
  rw [tot_has (clean_has _), tot_has k2]
  exact tot_mark h.core.len hfw.1 ⟨h2.1, by rw [hrow]; omega⟩ (hr f r hw)
def SV.steps (P : PP) : Nat → SV → SV × Nat
  | 0, s => (s, 0)
  | k + 1, s => match s.wait with
    | [] => (s, 0)
    | _ :: _ => ((SV.steps P k (s.one P)).1, (SV.steps P k (s.one P)).2 + 1)
theorem steps_keep {P : PP} {S : List (List Int)} (hg : P.GoodS S) (hc : ClosedP P S) : ∀ (k : Nat) {s : SV}, Full P S s → s.ready →
    Full P S (s.steps P k).1 ∧ (s.steps P k).1.ready ∧ (s.steps P k).1.rules = s.rules ∧ (s.steps P k).1.tot P = s.tot P + (s.steps P k).2 ∧ (s.steps P k).2 ≤ k ∧ ((s.steps P k).2 < k → (s.steps P k).1.wait = [])
  | 0, s, h, hr => ⟨h, hr, rfl, rfl, Nat.le_refl _, fun g => absurd g (Nat.lt_irrefl _)⟩
  | k + 1, s, h, hr => by
    unfold SV.steps
    cases hw : s.wait with
    | nil => exact ⟨h, hr, rfl, rfl, Nat.zero_le _, fun _ => hw⟩
    | cons f r =>
      obtain ⟨k1, k2, k3, k4⟩ := h.one hg hc hr hw
      obtain ⟨j1, j2, j3, j4, j5, j6⟩ := steps_keep hg hc k k1 k2
      refine ⟨j1, j2, j3.trans k3, ?_, by simp only; omega, fun g => j6 (by simp only at g; omega)⟩
      simp only
      omega
theorem Full.all {P : PP} {S : List (List Int)} {s : SV} {m : Nat} (hL : LeastAt P m S) (hw : P.Well) (h : Full P S s) (hr : ∀ r ∈ P.rulesV, r ∈ s.rules) (hrd : s.ready) : s.wait = [] ↔ s.tot P = totS P S := by
  have hg := hL.good hw
  constructor
  · intro hwt
    unfold SV.tot totS
    congr 1
    refine List.map_congr_left fun n hn => ?_
    rw [h.done hL hw hr hwt (List.mem_range.1 hn)]
  · intro e
    cases hwt : s.wait with
    | nil => rfl
    | cons f r =>
      have hfw := h.core.wait f (by rw [hwt]; exact List.mem_cons_self)
      have hb := hrd f r hwt
      have heq := (tot_le hg h.core).2 e f.1.toNat (by omega)
      have hin := hfw.2
      rw [← heq] at hin
      obtain ⟨_, hb2⟩ := mem_objs.1 hin
      rw [Int.toNat_of_nonneg hfw.1.1] at hb2
      rw [hb] at hb2
      cases hb2
theorem nodup_le {α : Type} [BEq α] [LawfulBEq α] : ∀ (l L : List α), l.Nodup → (∀ x ∈ l, x ∈ L) → l.length ≤ L.length
  | [], _, _, _ => Nat.zero_le _
  | x :: l, L, h, hs => by
    rw [List.nodup_cons] at h
    have hx := hs x List.mem_cons_self
    have k := nodup_le l (L.erase x) h.2 fun y hy => (List.mem_erase_of_ne (show y ≠ x from fun e => h.1 (by rw [← e]; exact hy))).2 (hs y (List.mem_cons_of_mem _ hy))
    rw [List.length_erase_of_mem hx] at k
    have := List.length_pos_of_mem hx
    rw [List.length_cons]; omega
def allPairs (N : Nat) : List (Int × Int) := (List.range N).flatMap fun a : Nat => (List.range N).map fun b : Nat => ((a : Int), (b : Int))
theorem allPairs_len (N : Nat) : (allPairs N).length = N * N := by
  unfold allPairs
  rw [List.length_flatMap]
  have : (List.range N).map (fun a : Nat => ((List.range N).map fun b : Nat => ((a : Int), (b : Int))).length) = List.replicate N N := by
    refine List.eq_replicate_iff.2 ⟨by simp, fun b hb => ?_⟩
    obtain ⟨a, _, rfl⟩ := List.mem_map.1 hb
    simp
  rw [this, List.sum_replicate_nat]
theorem mem_allPairs {N : Nat} {e : Int × Int} (h1 : 0 ≤ e.1 ∧ e.1 < N) (h2 : 0 ≤ e.2 ∧ e.2 < N) : e ∈ allPairs N :=
  List.mem_flatMap.2 ⟨e.1.toNat, List.mem_range.2 (by omega), List.mem_map.2 ⟨e.2.toNat, List.mem_range.2 (by omega), by
    rw [Int.toNat_of_nonneg h1.1, Int.toNat_of_nonneg h2.1]⟩⟩
structure SV.Bnd (P : PP) (s : SV) : Prop where
  nd : s.edges.Nodup
  ru : s.rules.length ≤ 80
  le : s.wait.length ≤ s.rules.length + s.edges.length * P.objectsV + s.tot P * 14400
theorem PP.Well.nodes {P : PP} (hw : P.Well) : P.nodesV ≤ 120 ∧ P.objectsV ≤ 126 := by
  obtain ⟨h1, h2, h3⟩ := hw.few
  have := P.nodesV_le2
  unfold PP.objectsV
  omega
section
variable {P : PP} {S : List (List Int)} {s : SV}
theorem Core.edges_few (hw : P.Well) (h : Core P S s) (hn : s.edges.Nodup) : s.edges.length ≤ 14400 := by
  have h1 := nodup_le s.edges (allPairs P.nodesV) hn fun e he => by
    obtain ⟨k1, k2, _⟩ := h.edge e he
    exact mem_allPairs k1 k2
  rw [allPairs_len] at h1
  have h2 : P.nodesV * P.nodesV ≤ 120 * 120 := Nat.mul_le_mul hw.nodes.1 hw.nodes.1
  omega
theorem objs_few (h : Core P S s) (n : Int) : (s.objs n).length ≤ P.objectsV := by
  unfold SV.objs
  rw [List.length_map]
  refine Nat.le_trans (List.length_filter_le _ _) ?_
  rw [List.length_range, List.getD_eq_getElem?_getD]
  rcases Nat.lt_or_ge n.toNat s.has.length with g | g
  · rw [List.getElem?_eq_getElem g]
    exact Nat.le_of_eq (h.row _ (List.getElem_mem g))
  · rw [List.getElem?_eq_none g]; exact Nat.zero_le _
theorem succ_few (s : SV) (n : Int) : (s.succ n).length ≤ s.edges.length := by
  unfold SV.succ
  rw [List.length_map]
  exact List.length_filter_le _ _
theorem SV.Bnd.edgeTo (h : Core P S s) (b : s.Bnd P) (e : Int × Int) : (s.edge e).Bnd P := by
  have ht : (s.edge e).tot P = s.tot P := tot_has (edge_has s e)
  refine ⟨?_, by rw [edge_rules]; exact b.ru, ?_⟩
  · unfold SV.edge
    split
    · exact b.nd
    · rename_i hc
      refine List.nodup_append.2 ⟨b.nd, by simp, fun a ha c hc' => ?_⟩
      rw [List.mem_singleton] at hc'
      rintro rfl
      exact hc (.inr (hc' ▸ ha))
  · rw [ht, edge_rules]
    have hle := b.le
    unfold SV.edge
    split
    · exact hle
    · simp only [List.length_append, List.length_map, List.length_singleton, Nat.add_mul, Nat.one_mul]
      have := objs_few h e.1
      omega
theorem bnd_edges : ∀ (l : List (Int × Int)) {s : SV}, Core P S s → (∀ e ∈ l, SndE P S e) → s.Bnd P → (l.foldl SV.edge s).Bnd P
  | [], _, _, _, b => b
  | e :: l, _, h, hs, b => bnd_edges l (h.edgeTo (hs e List.mem_cons_self)) (fun g hg => hs g (List.mem_cons_of_mem _ hg)) (b.edgeTo h e)
theorem bnd_fire (hg : P.GoodS S) (hc : ClosedP P S) (h : Core P S s) (b : s.Bnd P) {r : RV} (hr : r ∈ P.rulesV) (hf : r.fired = true) {o : Int} (ho : o ∈ S.getD r.pivot.toNat []) : (s.fire P r o).Bnd P :=
  bnd_edges _ h (fun _ he => sndE_of hg hc hr (fires_in hf ho he)) b
end
structure ST where
  node : Int
  obj : Int
  stmt : Int
  frm : Int
  via : Int
def ST.fact (s : ST) : Int × Int := (s.node, s.obj)
def facts (l : List ST) : List (Int × Int) := l.map ST.fact
def addS (l : List ST) (s : ST) : List ST := if s.fact ∈ facts l then l else l ++ [s]
def edgeUp (l0 : List ST) (e : Int × Int) (stmt via : Int) : Nat → List ST
  | 0 => l0
  | k + 1 => match l0[k]? with
    | some x => if x.node = e.1 then addS (edgeUp l0 e stmt via k) ⟨e.2, x.obj, stmt, k, via⟩ else edgeUp l0 e stmt via k
    | none => edgeUp l0 e stmt via k
def edgeS (l : List ST) (e : Int × Int) (stmt via : Int) : List ST := edgeUp l e stmt via l.length
def firesS (P : PP) (r : RV) (o : Int) (k : Nat) (l : List ST) : List ST := (P.fires r o).foldl (fun a e => edgeS a e r.k k) l
def ruleUp (P : PP) (l0 : List ST) (r : RV) : Nat → List ST
  | 0 => l0
  | k + 1 => match l0[k]? with
    | some x => if x.node = r.pivot then firesS P r x.obj k (ruleUp P l0 r k) else ruleUp P l0 r k
    | none => ruleUp P l0 r k
def ruleS (P : PP) (l : List ST) (r : RV) : List ST :=
  bif r.kind.toList == bBase.toList then addS l ⟨r.a, r.b, r.k, -1, -1⟩ else
  bif r.kind.toList == kCopy then edgeS l (r.a, r.b) r.k (-1) else ruleUp P l r l.length
def roundS (P : PP) (l : List ST) : List ST := P.rulesV.foldl (ruleS P) l
theorem addS_pre (l : List ST) (s : ST) : l <+: addS l s := by
  unfold addS
  split
  · exact List.prefix_refl l
  · exact List.prefix_append l [s]
theorem addS_fix {l : List ST} {s : ST} (h : addS l s = l) : s.fact ∈ facts l := by
  unfold addS at h
  split at h
  · assumption
  · have := congrArg List.length h
    rw [List.length_append] at this
    simp at this
theorem edgeUp_pre (l0 : List ST) (e : Int × Int) (stmt via : Int) (k : Nat) : edgeUp l0 e stmt via k <+: edgeUp l0 e stmt via (k + 1) := by
  conv => rhs; unfold edgeUp
  split
  · split
    · exact addS_pre _ _
    · exact List.prefix_refl _
  · exact List.prefix_refl _
theorem edgeUp_le (l0 : List ST) (e : Int × Int) (stmt via : Int) (k : Nat) : ∀ d, edgeUp l0 e stmt via k <+: edgeUp l0 e stmt via (k + d)
  | 0 => List.prefix_refl _
  | d + 1 => (edgeUp_le l0 e stmt via k d).trans (edgeUp_pre l0 e stmt via (k + d))
theorem edgeS_pre (l : List ST) (e : Int × Int) (stmt via : Int) : l <+: edgeS l e stmt via := by
  have := edgeUp_le l e stmt via 0 l.length
  rw [Nat.zero_add] at this
  exact this
theorem pre_same {a b : List ST} (h : a <+: b) (g : b <+: a) : a = b := h.eq_of_length (Nat.le_antisymm h.length_le g.length_le)
theorem edgeUp_at {l : List ST} {e : Int × Int} {stmt via : Int} (h : edgeS l e stmt via = l) {k : Nat} (hk : k ≤ l.length) : edgeUp l e stmt via k = l := by
  have h1 := edgeUp_le l e stmt via 0 k
  have h2 := edgeUp_le l e stmt via k (l.length - k)
  rw [Nat.zero_add] at h1
  rw [show k + (l.length - k) = l.length by omega] at h2
  unfold edgeS at h
  rw [h] at h2
  exact pre_same h2 h1
theorem edgeS_fix {l : List ST} {e : Int × Int} {stmt via : Int} (h : edgeS l e stmt via = l) {x : ST} (hx : x ∈ l) (hn : x.node = e.1) : (e.2, x.obj) ∈ facts l := by
  obtain ⟨k, hk⟩ := List.getElem?_of_mem hx
  have hkl : k < l.length := (List.getElem?_eq_some_iff.1 hk).1
  have h1 := edgeUp_at h (Nat.succ_le_of_lt hkl)
  have h0 := edgeUp_at h (Nat.le_of_lt hkl)
  unfold edgeUp at h1
  rw [hk] at h1
  simp only [hn, if_true, h0] at h1
  exact addS_fix h1
theorem fold_pre {β : Type} {f : List ST → β → List ST} (hf : ∀ a b, a <+: f a b) : ∀ (bs : List β) (l : List ST), l <+: bs.foldl f l
  | [], l => List.prefix_refl l
  | b :: bs, l => (hf l b).trans (fold_pre hf bs (f l b))
theorem fold_fix {β : Type} {f : List ST → β → List ST} (hf : ∀ a b, a <+: f a b) : ∀ (bs : List β) {l : List ST}, bs.foldl f l = l → ∀ b ∈ bs, f l b = l
  | [], _, _, _, hb => by cases hb
  | c :: bs, l, h, b, hb => by
    have h1 := hf l c
    have h2 := fold_pre hf bs (f l c)
    rw [List.foldl_cons] at h
    rw [h] at h2
    have e := pre_same h2 h1
    rcases List.mem_cons.1 hb with rfl | hb
    · exact e
    · rw [e] at h
      exact fold_fix hf bs h b hb
theorem firesS_pre (P : PP) (r : RV) (o : Int) (k : Nat) (l : List ST) : l <+: firesS P r o k l := fold_pre (fun a e => edgeS_pre a e r.k k) _ l
theorem ruleUp_pre (P : PP) (l0 : List ST) (r : RV) (k : Nat) : ruleUp P l0 r k <+: ruleUp P l0 r (k + 1) := by
  conv => rhs; unfold ruleUp
  split
  · split
    · exact firesS_pre P r _ _ _
    · exact List.prefix_refl _
  · exact List.prefix_refl _
theorem ruleUp_le (P : PP) (l0 : List ST) (r : RV) (k : Nat) : ∀ d, ruleUp P l0 r k <+: ruleUp P l0 r (k + d)
  | 0 => List.prefix_refl _
  | d + 1 => (ruleUp_le P l0 r k d).trans (ruleUp_pre P l0 r (k + d))
theorem ruleUp_zero (P : PP) (l : List ST) (r : RV) (k : Nat) : l <+: ruleUp P l r k := by
  have := ruleUp_le P l r 0 k
  rw [Nat.zero_add] at this
  exact this
theorem ruleUp_at {P : PP} {l : List ST} {r : RV} (h : ruleUp P l r l.length = l) {k : Nat} (hk : k ≤ l.length) : ruleUp P l r k = l := by
  have h2 := ruleUp_le P l r k (l.length - k)
  rw [show k + (l.length - k) = l.length by omega, h] at h2
  exact pre_same h2 (ruleUp_zero P l r k)
theorem ruleUp_fix {P : PP} {l : List ST} {r : RV} (h : ruleUp P l r l.length = l) {y : ST} (hy : y ∈ l) (hn : y.node = r.pivot) {e : Int × Int} (he : e ∈ P.fires r y.obj) {x : ST} (hx : x ∈ l) (hxn : x.node = e.1) : (e.2, x.obj) ∈ facts l := by
  obtain ⟨k, hk⟩ := List.getElem?_of_mem hy
  have hkl : k < l.length := (List.getElem?_eq_some_iff.1 hk).1
  have h1 := ruleUp_at h (Nat.succ_le_of_lt hkl)
  have h0 := ruleUp_at h (Nat.le_of_lt hkl)
  unfold ruleUp at h1
  rw [hk] at h1
  simp only [hn, if_true, h0] at h1
  exact edgeS_fix (fold_fix (fun a e => edgeS_pre a e r.k k) _ h1 e he) hx hxn
theorem ruleS_pre (P : PP) (l : List ST) (r : RV) : l <+: ruleS P l r := by
  unfold ruleS
  cases (r.kind.toList == bBase.toList) with
  | true => exact addS_pre _ _
  | false =>
    cases (r.kind.toList == kCopy) with
    | true => exact edgeS_pre _ _ _ _
    | false => exact ruleUp_zero P l r l.length
theorem roundS_pre (P : PP) (l : List ST) : l <+: roundS P l := fold_pre (ruleS_pre P) _ l
def FolS (P : PP) (l : List ST) (s : ST) (i : Nat) : Prop := ∃ k, s.stmt = ((k : Nat) : Int) ∧ k < P.stmts.length ∧
  (((P.ruleV k (P.stAt k)).kind.toList = bBase.toList ∧ s.fact = ((P.ruleV k (P.stAt k)).a, (P.ruleV k (P.stAt k)).b) ∧ s.frm = -1 ∧ s.via = -1) ∨
   ((P.ruleV k (P.stAt k)).kind.toList = kCopy ∧ s.via = -1 ∧ ∃ (f : Nat) (x : ST), s.frm = (f : Int) ∧ f < i ∧ l[f]? = some x ∧ x.fact = ((P.ruleV k (P.stAt k)).a, s.obj) ∧ s.node = (P.ruleV k (P.stAt k)).b) ∨
   ((P.ruleV k (P.stAt k)).fired = true ∧ ∃ (f : Nat) (x : ST) (v : Nat) (y : ST), s.frm = (f : Int) ∧ f < i ∧ l[f]? = some x ∧ x.obj = s.obj ∧ s.via = (v : Int) ∧ v < i ∧ l[v]? = some y ∧ y.node = (P.ruleV k (P.stAt k)).pivot ∧ (x.node, s.node) ∈ P.fires (P.ruleV k (P.stAt k)) y.obj))
theorem pre_at {a b : List ST} (h : a <+: b) {i : Nat} {x : ST} (hx : a[i]? = some x) : b[i]? = some x := by
  obtain ⟨t, rfl⟩ := h
  rw [List.getElem?_append_left (List.getElem?_eq_some_iff.1 hx).1]
  exact hx
theorem FolS.more {P : PP} {a b : List ST} {s : ST} {i j : Nat} (h : FolS P a s i) (hp : a <+: b) (hij : i ≤ j) : FolS P b s j := by
  obtain ⟨k, h1, h2, h3⟩ := h
  refine ⟨k, h1, h2, ?_⟩
  rcases h3 with h3 | ⟨g1, g2, f, x, g3, g4, g5, g6⟩ | ⟨g1, f, x, v, y, g2, g3, g4, g5, g6, g7, g8, g9⟩
  · exact .inl h3
  · exact .inr (.inl ⟨g1, g2, f, x, g3, by omega, pre_at hp g5, g6⟩)
  · exact .inr (.inr ⟨g1, f, x, v, y, g2, by omega, pre_at hp g4, g5, g6, by omega, pre_at hp g8, g9⟩)
structure WhyOk (P : PP) (S : List (List Int)) (l : List ST) : Prop where
  nd : (facts l).Nodup
  fol : ∀ i s, l[i]? = some s → FolS P l s i
  snd : ∀ s ∈ l, (0 ≤ s.node ∧ s.node < P.nodesV) ∧ s.obj ∈ S.getD s.node.toNat []
theorem WhyOk.nil (P : PP) (S : List (List Int)) : WhyOk P S [] := ⟨List.nodup_nil, fun _ _ h => by simp at h, fun _ h => by cases h⟩
section
variable {P : PP} {S : List (List Int)} {l : List ST}
theorem WhyOk.add (h : WhyOk P S l) {s : ST} (hf : FolS P l s l.length) (hs : (0 ≤ s.node ∧ s.node < P.nodesV) ∧ s.obj ∈ S.getD s.node.toNat []) : WhyOk P S (addS l s) := by
  unfold addS
  split
  · exact h
  · rename_i hn
    refine ⟨?_, fun i x hx => ?_, fun x hx => ?_⟩
    · unfold facts
      rw [List.map_append]
      refine List.nodup_append.2 ⟨h.nd, by simp, fun a ha c hc => ?_⟩
      simp only [List.map_cons, List.map_nil, List.mem_singleton] at hc
      rintro rfl
      exact hn (hc ▸ ha)
    · rcases Nat.lt_trichotomy i l.length with g | g | g
      · rw [List.getElem?_append_left g] at hx
        exact (h.fol i x hx).more (List.prefix_append _ _) (Nat.le_refl _)
      · subst g
        rw [List.getElem?_concat_length] at hx
        obtain rfl := Option.some.inj hx
        exact hf.more (List.prefix_append _ _) (Nat.le_refl _)
      · rw [List.getElem?_eq_none (by rw [List.length_append, List.length_singleton]; omega)] at hx; cases hx
    · rcases List.mem_append.1 hx with hx | hx
      · exact h.snd x hx
      · rw [List.mem_singleton.1 hx]; exact hs
theorem WhyOk.edgeUp (h : WhyOk P S l) {e : Int × Int} {stmt via : Int} (he : SndE P S e) (H : ∀ a, l <+: a → ∀ (k : Nat) x, l[k]? = some x → x.node = e.1 → FolS P a ⟨e.2, x.obj, stmt, k, via⟩ a.length) : ∀ k, WhyOk P S (edgeUp l e stmt via k)
  | 0 => h
  | k + 1 => by
    have ih := h.edgeUp he H k
    unfold Go.Proofs.YtngdpnlgnpdkcaaGreatDoor.edgeUp
    split
    · rename_i x hx
      split
      · rename_i hn
        have hp := edgeUp_le l e stmt via 0 k
        rw [Nat.zero_add] at hp
        refine ih.add (H _ hp k x hx hn) ⟨he.2.1, ?_⟩
        have hs := h.snd x (List.mem_of_getElem? hx)
        rw [hn] at hs
        exact he.2.2 _ hs.2
      · exact ih
    · exact ih
theorem rule_stmt {k : Nat} (x : PS) : (P.ruleV k x).k = k := by
  unfold PP.ruleV
  cases x.isK kAddr with
  | true => rfl
  | false =>
  cases x.isK kNew with
  | true => rfl
  | false =>
  cases x.isK kFun with
  | true => rfl
  | false =>
  cases x.isK kCall with
  | true => rfl
  | false => rfl
theorem WhyOk.fires (hg : P.GoodS S) (hc : ClosedP P S) {k : Nat} (hk : k < P.stmts.length) (hf : (P.ruleV k (P.stAt k)).fired = true) {v : Nat} {y : ST} (hn : y.node = (P.ruleV k (P.stAt k)).pivot) : ∀ (es : List (Int × Int)) {l : List ST}, WhyOk P S l → l[v]? = some y → (∀ e ∈ es, e ∈ P.fires (P.ruleV k (P.stAt k)) y.obj) →
    WhyOk P S (es.foldl (fun a e => edgeS a e (P.ruleV k (P.stAt k)).k v) l)
  | [], _, h, _, _ => h
  | e :: es, l, h, hv, hs => by
    have he := hs e List.mem_cons_self
    have hy := h.snd y (List.mem_of_getElem? hv)
    rw [hn] at hy
    have hrv : P.ruleV k (P.stAt k) ∈ P.rulesV := List.mem_map.2 ⟨k, List.mem_range.2 hk, rfl⟩
    have hsn := sndE_of hg hc hrv (fires_in hf hy.2 he)
    have hvl : v < l.length := (List.getElem?_eq_some_iff.1 hv).1
    have h1 : WhyOk P S (edgeS l e (P.ruleV k (P.stAt k)).k v) := h.edgeUp hsn (fun a hp j x hx hxn => by
      have hal := hp.length_le
      have hjl : j < l.length := (List.getElem?_eq_some_iff.1 hx).1
      refine ⟨k, rule_stmt _, hk, .inr (.inr ⟨hf, j, x, v, y, rfl, by omega, pre_at hp hx, rfl, rfl, by omega, pre_at hp hv, hn, ?_⟩)⟩
      rw [hxn]; exact he) l.length
    exact WhyOk.fires hg hc hk hf hn es h1 (pre_at (edgeS_pre _ _ _ _) hv) fun g hgm => hs g (List.mem_cons_of_mem _ hgm)
theorem WhyOk.ruleUp (hg : P.GoodS S) (hc : ClosedP P S) {k : Nat} (hk : k < P.stmts.length) (hf : (P.ruleV k (P.stAt k)).fired = true) (h : WhyOk P S l) : ∀ j, WhyOk P S (ruleUp P l (P.ruleV k (P.stAt k)) j)
  | 0 => h
  | j + 1 => by
    have ih := WhyOk.ruleUp hg hc hk hf h j
    unfold Go.Proofs.YtngdpnlgnpdkcaaGreatDoor.ruleUp
    split
    · rename_i x hx
      split
      · rename_i hn
        exact WhyOk.fires hg hc hk hf hn _ ih (pre_at (ruleUp_zero P l _ j) hx) fun e he => he
      · exact ih
    · exact ih
theorem WhyOk.rule (hg : P.GoodS S) (hc : ClosedP P S) (h : WhyOk P S l) {r : RV} (hr : r ∈ P.rulesV) : WhyOk P S (ruleS P l r) := by
  obtain ⟨k, hk, rfl⟩ := List.mem_map.1 hr
  have hk := List.mem_range.1 hk
  unfold ruleS
  cases h1 : ((P.ruleV k (P.stAt k)).kind.toList == bBase.toList) with
  | true =>
    have hb := eq_of_beq h1
    have ha := rule_a_in hg.1 hk
    have hnv := nodes_vars P
    exact h.add ⟨k, rule_stmt _, hk, .inl ⟨hb, rfl, rfl, rfl⟩⟩ ⟨⟨ha.1, by simp only; omega⟩, hc.base k hk hb⟩
  | false =>
  have n1 : (P.ruleV k (P.stAt k)).kind.toList ≠ bBase.toList := fun e => by rw [e] at h1; simp at h1
  cases h2 : ((P.ruleV k (P.stAt k)).kind.toList == kCopy) with
  | true =>
    have hb := eq_of_beq h2
    have hsn : SndE P S ((P.ruleV k (P.stAt k)).a, (P.ruleV k (P.stAt k)).b) := sndE_of hg hc hr (by unfold PP.redges; rw [h2, cond_true]; exact List.mem_singleton.2 rfl)
    exact h.edgeUp hsn (fun a hp j x hx hxn => by
      have hal := hp.length_le
      have hjl : j < l.length := (List.getElem?_eq_some_iff.1 hx).1
      refine ⟨k, rule_stmt _, hk, .inr (.inl ⟨hb, rfl, j, x, rfl, by omega, pre_at hp hx, ?_, rfl⟩)⟩
      unfold ST.fact; rw [hxn]) l.length
  | false =>
  have n2 : (P.ruleV k (P.stAt k)).kind.toList ≠ kCopy := fun e => by rw [e] at h2; simp at h2
  have hf : (P.ruleV k (P.stAt k)).fired = true := by
    rcases rule_kinds hg.1 hr with g | g | g
    · exact absurd g n1
    · exact absurd g n2
    · exact g
  exact WhyOk.ruleUp hg hc hk hf h l.length
theorem WhyOk.rules (hg : P.GoodS S) (hc : ClosedP P S) : ∀ (rs : List RV) {l : List ST}, WhyOk P S l → (∀ r ∈ rs, r ∈ P.rulesV) → WhyOk P S (rs.foldl (ruleS P) l)
  | [], _, h, _ => h
  | r :: rs, _, h, hr => WhyOk.rules hg hc rs (h.rule hg hc (hr r List.mem_cons_self)) fun q hq => hr q (List.mem_cons_of_mem _ hq)
theorem WhyOk.round (hg : P.GoodS S) (hc : ClosedP P S) (h : WhyOk P S l) : WhyOk P S (roundS P l) := WhyOk.rules hg hc _ h fun _ hr => hr
theorem objs_in {S : List (List Int)} (hg : P.GoodS S) {n : Int} (hn : 0 ≤ n ∧ n < P.nodesV) {o : Int} (ho : o ∈ S.getD n.toNat []) : 0 ≤ o ∧ o < P.objectsV := by
  have hlen := hg.2.1
  rw [List.getD_eq_getElem?_getD, List.getElem?_eq_getElem (show n.toNat < S.length by omega)] at ho
  have hk := hg.ok.ok _ (List.getElem_mem (show n.toNat < S.length by omega))
  exact ⟨((chkE_zero.1 hk.1).1 _ ho).1, hk.2 _ ho⟩
theorem WhyOk.few (hg : P.GoodS S) (h : WhyOk P S l) : l.length ≤ 15876 := by
  obtain ⟨h1, h2⟩ := hg.1.nodes
  have := nodup_le (facts l) (allPairs 126) h.nd fun x hx => by
    obtain ⟨s, hs, rfl⟩ := List.mem_map.1 hx
    obtain ⟨k1, k2⟩ := h.snd s hs
    have k3 := objs_in hg k1 k2
    exact mem_allPairs (by simp only [ST.fact]; omega) (by simp only [ST.fact]; omega)
  rw [allPairs_len] at this
  unfold facts at this
  rw [List.length_map] at this
  exact this
def tells (P : PP) (l : List ST) (n : Nat) : List Int := ((List.range P.objectsV).filter fun o : Nat => decide (((n : Int), (o : Int)) ∈ facts l)).map fun o : Nat => (o : Int)
def tellsV (P : PP) (l : List ST) : List (List Int) := (List.range P.nodesV).map (tells P l)
theorem tellsV_getD {n : Nat} (hn : n < P.nodesV) : (tellsV P l).getD n [] = tells P l n := by
  unfold tellsV
  rw [List.getD_eq_getElem?_getD, List.getElem?_map, List.getElem?_range hn]; rfl
theorem mem_tells {n : Nat} {o : Int} : o ∈ tells P l n ↔ (0 ≤ o ∧ o < P.objectsV) ∧ ((n : Int), o) ∈ facts l := by
  unfold tells
  rw [List.mem_map]
  constructor
  · rintro ⟨k, hk, rfl⟩
    obtain ⟨h1, h2⟩ := List.mem_filter.1 hk
    have := List.mem_range.1 h1
    exact ⟨by omega, of_decide_eq_true h2⟩
  · rintro ⟨h0, h⟩
    obtain ⟨k, rfl⟩ := Int.eq_ofNat_of_zero_le h0.1
    exact ⟨k, List.mem_filter.2 ⟨List.mem_range.2 (by omega), decide_eq_true h⟩, rfl⟩
theorem tells_srt (P : PP) (l : List ST) (n : Nat) : Srt (tells P l n) := by
  unfold tells
  show List.Pairwise (· < ·) _
  rw [List.pairwise_map]
  exact List.Pairwise.imp (R := (· < ·)) (fun h => by omega) (List.Pairwise.sublist List.filter_sublist List.pairwise_lt_range)
theorem tells_good (hw : P.Well) (l : List ST) : P.GoodS (tellsV P l) := by
  have h126 := nodesV_le P hw
  have hf := hw.few
  refine ⟨hw, by unfold tellsV; rw [List.length_map, List.length_range], fun q hq => ?_⟩
  obtain ⟨n, hn, rfl⟩ := List.mem_map.1 hq
  refine setE_of (chkE_zero.2 ⟨fun x hx => ?_, tells_srt P l n⟩) fun x hx => (mem_tells.1 hx).1.2
  have := (mem_tells.1 hx).1
  unfold PP.objectsV at this
  omega
theorem WhyOk.done {m : Nat} (hL : LeastAt P m S) (hw : P.Well) (h : WhyOk P S l) (hfix : roundS P l = l) {n : Nat} (hn : n < P.nodesV) {o : Int} (ho : o ∈ S.getD n []) : ((n : Int), o) ∈ facts l := by
  have hg := hL.good hw
  have hgs := tells_good hw l
  have hrf := fold_fix (ruleS_pre P) _ hfix
  have hin : ∀ {a : Int}, 0 ≤ a → ∀ {o : Int}, (a, o) ∈ facts l ↔ (((a.toNat : Nat) : Int), o) ∈ facts l := fun ha => by rw [Int.toNat_of_nonneg ha]
  have hofact : ∀ {a o : Int}, (a, o) ∈ facts l → 0 ≤ o ∧ o < P.objectsV := fun hf => by
    obtain ⟨s, hs, e⟩ := List.mem_map.1 hf
    obtain ⟨k1, k2⟩ := h.snd s hs
    have := objs_in hg k1 k2
    unfold ST.fact at e
    obtain ⟨_, rfl⟩ := Prod.mk.inj e
    exact this
  have hcl : ClosedP P (tellsV P l) := by
    refine ⟨fun k hk hb => ?_, fun e he hne q hq => ?_⟩
    · have hrk : P.ruleV k (P.stAt k) ∈ P.rulesV := List.mem_map.2 ⟨k, List.mem_range.2 hk, rfl⟩
      have ha := rule_a_in hw hk
      have hnv := nodes_vars P
      have hfx := hrf _ hrk
      unfold ruleS at hfx
      rw [hb, beq_self_eq_true, cond_true] at hfx
      have hf := addS_fix hfx
      rw [tellsV_getD (by omega)]
      exact mem_tells.2 ⟨hofact hf, (hin ha.1).1 hf⟩
    · obtain ⟨r, hrv, her⟩ := List.mem_flatMap.1 he
      obtain ⟨i1, i2, i3, i4⟩ := edges0_in hw hgs.ok e he
      have hfx := hrf r hrv
      rw [tellsV_getD (by omega)] at hq ⊢
      obtain ⟨q0, qf⟩ := mem_tells.1 hq
      have qf := (hin i1).2 qf
      obtain ⟨x, hx, hxe⟩ := List.mem_map.1 qf
      unfold ST.fact at hxe
      obtain ⟨x1, x2⟩ := Prod.mk.inj hxe
      have key : (e.2, x.obj) ∈ facts l := by
        unfold ruleS at hfx
        cases hfd : r.fired with
        | false =>
          rcases rule_kinds hw hrv with g | g | g
          · rw [redges_nil' g] at her; cases her
          · have n1 : (r.kind.toList == bBase.toList) = false := by rw [g, eq_of_beq bBase_list]; decide
            have n2 : (r.kind.toList == kCopy) = true := by rw [g]; decide
            rw [n1, n2, cond_false, cond_true] at hfx
            have her2 : e = (r.a, r.b) := by
              unfold PP.redges at her
              rw [n2, cond_true] at her
              exact List.mem_singleton.1 her
            rw [← her2] at hfx
            exact edgeS_fix hfx hx x1
          · rw [hfd] at g; cases g
        | true =>
          obtain ⟨k1, k2⟩ := fired_kinds hfd
          have n1 : (r.kind.toList == bBase.toList) = false := by
            cases g : (r.kind.toList == bBase.toList) with
            | false => rfl
            | true => exact absurd (eq_of_beq g) k1
          have n2 : (r.kind.toList == kCopy) = false := by
            cases g : (r.kind.toList == kCopy) with
            | false => rfl
            | true => exact absurd (eq_of_beq g) k2
          rw [n1, n2, cond_false, cond_false] at hfx
          obtain ⟨i, hi, hri⟩ := List.mem_map.1 hrv
          have hi := List.mem_range.1 hi
          have hp0 : 0 ≤ r.pivot := by rw [← hri]; exact pivot_in hw hi (by rw [hri]; exact hfd)
          obtain ⟨o, ho, hfo⟩ := redges_out hfd her
          have hpn : r.pivot.toNat < P.nodesV := by
            rcases Nat.lt_or_ge r.pivot.toNat P.nodesV with g | g
            · exact g
            · rw [List.getD_eq_getElem?_getD, List.getElem?_eq_none (by rw [hgs.2.1]; exact g)] at ho; cases ho
          rw [tellsV_getD hpn] at ho
          have hyf := (hin hp0).2 (mem_tells.1 ho).2
          obtain ⟨y, hy, hye⟩ := List.mem_map.1 hyf
          unfold ST.fact at hye
          obtain ⟨y1, y2⟩ := Prod.mk.inj hye
          exact ruleUp_fix hfx hy y1 (by rw [y2]; exact hfo) hx x1
      rw [x2] at key
      exact mem_tells.2 ⟨hofact key, (hin i3).1 key⟩
  have := hL.within hgs hcl n o ho
  rw [tellsV_getD hn] at this
  exact (mem_tells.1 this).2
end
def dST : ST := ⟨0, 0, 0, 0, 0⟩
def kept (M : List Int) (n : Nat) : List Nat := (List.range n).filter fun j : Nat => decide ((j : Int) ∈ M)
def rankI (M : List Int) (c : Int) : Int := if c < 0 then -1 else ((kept M c.toNat).length : Int)
def renum (M : List Int) (s : ST) : ST := ⟨s.node, s.obj, s.stmt, rankI M s.frm, rankI M s.via⟩
def neededUp (l : List ST) (M : List Int) (n : Nat) : List ST := (kept M n).map fun j => renum M (l.getD j dST)
structure Marked (l : List ST) (M : List Int) (last : Nat) : Prop where
  top : ((last : Nat) : Int) ∈ M
  le : ∀ j ∈ M, 0 ≤ j ∧ j ≤ last
  kid : ∀ (j : Nat) s, (j : Int) ∈ M → l[j]? = some s → (0 ≤ s.frm → s.frm ∈ M) ∧ (0 ≤ s.via → s.via ∈ M)
theorem kept_succ (M : List Int) (n : Nat) : kept M (n + 1) = kept M n ++ if (n : Int) ∈ M then [n] else [] := by
  unfold kept
  rw [List.range_succ, List.filter_append]
  congr 1
  by_cases h : (n : Int) ∈ M
  · rw [List.filter_cons, decide_eq_true h, if_pos h]; rfl
  · rw [List.filter_cons, decide_eq_false h, if_neg h]; rfl
theorem kept_at {M : List Int} {j : Nat} (hj : (j : Int) ∈ M) : ∀ d, (kept M (j + 1 + d))[(kept M j).length]? = some j
  | 0 => by rw [Nat.add_zero, kept_succ, if_pos hj, List.getElem?_concat_length]
  | d + 1 => by
    have ih := kept_at hj d
    rw [show j + 1 + (d + 1) = (j + 1 + d) + 1 by omega, kept_succ, List.getElem?_append_left (List.getElem?_eq_some_iff.1 ih).1]
    exact ih
theorem kept_lt {M : List Int} {n j : Nat} (hj : (j : Int) ∈ M) (hn : j < n) : (kept M n)[(kept M j).length]? = some j := by
  have := kept_at hj (n - (j + 1))
  rwa [show j + 1 + (n - (j + 1)) = n by omega] at this
theorem kept_nodup (M : List Int) (n : Nat) : (kept M n).Nodup := List.nodup_range.sublist List.filter_sublist
theorem mem_kept {M : List Int} {n j : Nat} : j ∈ kept M n ↔ j < n ∧ (j : Int) ∈ M := by
  unfold kept
  rw [List.mem_filter, List.mem_range]
  exact ⟨fun h => ⟨h.1, of_decide_eq_true h.2⟩, fun h => ⟨h.1, decide_eq_true h.2⟩⟩
theorem kept_rank {M : List Int} {n i j : Nat} (h : (kept M n)[i]? = some j) : j < n ∧ (j : Int) ∈ M ∧ (kept M j).length = i := by
  obtain ⟨hn, hj⟩ := mem_kept.1 (List.mem_of_getElem? h)
  have h2 := kept_lt hj hn
  obtain ⟨l1, e1⟩ := List.getElem?_eq_some_iff.1 h
  obtain ⟨l2, e2⟩ := List.getElem?_eq_some_iff.1 h2
  exact ⟨hn, hj, (List.getElem_inj (kept_nodup M n)).1 (e2.trans e1.symm)⟩
theorem kept_mono (M : List Int) (j : Nat) : ∀ d, (kept M j).length ≤ (kept M (j + d)).length
  | 0 => Nat.le_refl _
  | d + 1 => by
    rw [show j + (d + 1) = (j + d) + 1 by omega, kept_succ, List.length_append]
    have := kept_mono M j d
    omega
theorem rank_lt {M : List Int} {f j : Nat} (hf : (f : Int) ∈ M) (h : f < j) : (kept M f).length < (kept M j).length := by
  have := kept_mono M (f + 1) (j - (f + 1))
  rw [show f + 1 + (j - (f + 1)) = j by omega, kept_succ, if_pos hf, List.length_append, List.length_singleton] at this
  omega
theorem rankI_nat (M : List Int) (f : Nat) : rankI M (f : Int) = ((kept M f).length : Int) := by
  unfold rankI
  rw [if_neg (by omega), Int.toNat_natCast]
section
variable {P : PP} {S : List (List Int)} {l : List ST} {M : List Int}
theorem needed_get {i : Nat} {s : ST} (h : (neededUp l M l.length)[i]? = some s) : ∃ (j : Nat) (x : ST), l[j]? = some x ∧ (j : Int) ∈ M ∧ (kept M j).length = i ∧ s = renum M x := by
  unfold neededUp at h
  rw [List.getElem?_map] at h
  obtain ⟨j, hj, rfl⟩ := Option.map_eq_some_iff.1 h
  obtain ⟨h1, h2, h3⟩ := kept_rank hj
  refine ⟨j, l[j], List.getElem?_eq_getElem h1, h2, h3, ?_⟩
  rw [List.getD_eq_getElem?_getD, List.getElem?_eq_getElem h1]; rfl
theorem needed_put {j : Nat} {x : ST} (hx : l[j]? = some x) (hj : (j : Int) ∈ M) : (neededUp l M l.length)[(kept M j).length]? = some (renum M x) := by
  have hjl := (List.getElem?_eq_some_iff.1 hx).1
  unfold neededUp
  rw [List.getElem?_map, kept_lt hj hjl, Option.map_some, List.getD_eq_getElem?_getD, hx]; rfl
theorem needed_ok (h : WhyOk P S l) {last : Nat} (hm : Marked l M last) : WhyOk P S (neededUp l M l.length) := by
  refine ⟨?_, fun i s hs => ?_, fun s hs => ?_⟩
  · have e : facts (neededUp l M l.length) = (kept M l.length).map fun j => (l.getD j dST).fact := by
      unfold facts neededUp
      rw [List.map_map]; rfl
    have e2 : facts l = (List.range l.length).map fun j => (l.getD j dST).fact := by
      unfold facts
      refine List.ext_getElem (by simp) fun i h1 h2 => ?_
      rw [List.getElem_map, List.getElem_map, List.getElem_range, List.getD_eq_getElem?_getD, List.getElem?_eq_getElem (by simpa using h1)]; rfl
    rw [e]
    have hn := h.nd
    rw [e2] at hn
    exact hn.sublist (List.filter_sublist.map _)
  · obtain ⟨j, x, hx, hj, rfl, rfl⟩ := needed_get hs
    obtain ⟨k, h1, h2, h3⟩ := h.fol j x hx
    obtain ⟨hk1, hk2⟩ := hm.kid j x hj hx
    refine ⟨k, h1, h2, ?_⟩
    rcases h3 with ⟨g1, g2, g3, g4⟩ | ⟨g1, g2, f, y, g3, g4, g5, g6, g7⟩ | ⟨g1, f, y, v, z, g2, g3, g4, g5, g6, g7, g8, g9, g10⟩
    · exact .inl ⟨g1, g2, by simp only [renum]; rw [g3]; rfl, by simp only [renum]; rw [g4]; rfl⟩
    · have hf : (f : Int) ∈ M := by rw [← g3]; exact hk1 (by omega)
      exact .inr (.inl ⟨g1, by simp only [renum]; rw [g2]; rfl, (kept M f).length, renum M y, by simp only [renum]; rw [g3, rankI_nat], rank_lt hf g4, needed_put g5 hf, g6, g7⟩)
    · have hf : (f : Int) ∈ M := by rw [← g2]; exact hk1 (by omega)
      have hv : (v : Int) ∈ M := by rw [← g6]; exact hk2 (by omega)
      exact .inr (.inr ⟨g1, (kept M f).length, renum M y, (kept M v).length, renum M z, by simp only [renum]; rw [g2, rankI_nat], rank_lt hf g3, needed_put g4 hf, g5, by simp only [renum]; rw [g6, rankI_nat], rank_lt hv g7, needed_put g8 hv, g9, g10⟩)
  · obtain ⟨i, hi⟩ := List.getElem?_of_mem hs
    obtain ⟨j, x, hx, _, _, rfl⟩ := needed_get hi
    exact h.snd x (List.mem_of_getElem? hx)
theorem kept_stop {last : Nat} (h : ∀ j ∈ M, 0 ≤ j ∧ j ≤ (last : Int)) : ∀ d, kept M (last + 1 + d) = kept M (last + 1)
  | 0 => rfl
  | d + 1 => by
    rw [show last + 1 + (d + 1) = (last + 1 + d) + 1 by omega, kept_succ, if_neg fun g => by have := h _ g; omega, List.append_nil]
    exact kept_stop h d
theorem needed_last {last : Nat} (hm : Marked l M last) (hl : last < l.length) : ∃ m, neededUp l M l.length = m ++ [renum M (l.getD last dST)] := by
  have e : kept M l.length = kept M last ++ [last] := by
    have := kept_stop hm.le (l.length - (last + 1))
    rw [show last + 1 + (l.length - (last + 1)) = l.length by omega] at this
    rw [this, kept_succ, if_pos hm.top]
  unfold neededUp
  rw [e, List.map_append]
  exact ⟨_, rfl⟩
end
end Go.Proofs.YtngdpnlgnpdkcaaGreatDoor
namespace Go.Proofs.YtngdpnlgnpdkcaaGreatDoor
open Go Go.RowKit Go.MapKept
open Go.Maps (Keyed)
section
variable {κ : Type} [DecidableEq κ]
def kget (m : List (κ × Value)) (k : κ) : Option Value := (m.find? fun x => decide (x.1 = k)).map (·.2)
theorem kget_none {m : List (κ × Value)} {k : κ} (h : ∀ x ∈ m, x.1 ≠ k) : kget m k = none := by
  unfold kget
  rw [List.find?_eq_none.2 fun x hx => by simpa using h x hx]; rfl
theorem kget_at {m : List (κ × Value)} (hn : (m.map (·.1)).Nodup) {j : Nat} {k : κ} {v : Value} (h : m[j]? = some (k, v)) : kget m k = some v := by
  induction m generalizing j with
  | nil => simp at h
  | cons x r ih =>
    rw [List.map_cons, List.nodup_cons] at hn
    unfold kget
    rw [List.find?_cons]
    cases j with
    | zero =>
      rw [List.getElem?_cons_zero] at h
      obtain rfl := Option.some.inj h
      simp
    | succ j =>
      rw [List.getElem?_cons_succ] at h
      have hx : x.1 ≠ k := fun e => hn.1 (by rw [e]; exact List.mem_map.2 ⟨(k, v), List.mem_of_getElem? h, rfl⟩)
      rw [decide_eq_false hx]
      exact ih hn.2 h
def KMap (P : Program) (kt : TypeId) (enc : κ → Value) (w : World) (b : Nat) (f : κ → Option Value) : Prop :=
  ∃ es clock, ∃ m : List (κ × Value), w.heap[b]? = some (.map es clock) ∧ es.toList.map (fun x => (x.key, x.val)) = m.map (fun x => (enc x.1, x.2)) ∧ (m.map (·.1)).Nodup ∧ (∀ x ∈ m, ∃ l, keyOf P kt (enc x.1) = some l) ∧ ∀ k, kget m k = f k
variable {P : Program} {kt : TypeId} {enc : κ → Value} {w : World} {b : Nat} {f : κ → Option Value}
theorem KMap.keep {X : Nat → Prop} {w' : World} (h : KMap P kt enc w b f) (x : Keep X w w') (hx : ¬ X b) : KMap P kt enc w' b f := by
  obtain ⟨es, c, m, hb, he⟩ := h
  exact ⟨es, c, m, Keep.get x hb hx, he⟩
theorem KMap.ext {w' : World} (h : KMap P kt enc w b f) (x : Ext w w') : KMap P kt enc w' b f := by
  obtain ⟨es, c, m, hb, he⟩ := h
  exact ⟨es, c, m, Ext.get x hb, he⟩
theorem KMap.lt (h : KMap P kt enc w b f) : b < w.heap.size := by
  obtain ⟨es, c, m, hb, he⟩ := h
  exact (Array.getElem?_eq_some_iff.1 hb).1
theorem KMap.ne {g : Nat} (h : KMap P kt enc w b f) {c : Array Value} {e : TypeId} (hb : Blk w g c e) : g ≠ b := by
  rintro rfl
  obtain ⟨es, c, m, h1, _⟩ := h
  have := h1.symm.trans hb
  cases this
theorem KMap.eq {g : κ → Option Value} (h : KMap P kt enc w b f) (e : ∀ k, f k = g k) : KMap P kt enc w b g := by
  obtain ⟨es, c, m, h1, h2, h3, h4, h5⟩ := h
  exact ⟨es, c, m, h1, h2, h3, h4, fun k => (h5 k).trans (e k)⟩
theorem KMap.new (P : Program) (kt : TypeId) (enc : κ → Value) (w : World) : KMap P kt enc (w.alloc (.map #[] 0)) w.heap.size (fun _ => none) := ⟨#[], 0, [], heap_alloc_new w _, rfl, List.nodup_nil, fun _ h => by simp at h, fun _ => rfl⟩
omit [DecidableEq κ] in
theorem KMap.found (K : Keyed P kt) (hinj : ∀ a c : κ, enc a = enc c → a = c) {es : Array MapEntry} {m : List (κ × Value)} (he : es.toList.map (fun x => (x.key, x.val)) = m.map (fun x => (enc x.1, x.2))) (hn : (m.map (·.1)).Nodup) (hk : ∀ x ∈ m, ∃ l, keyOf P kt (enc x.1) = some l)
    {k : κ} {l : Lit} (hl : keyOf P kt (enc k) = some l) : ((Instr.findKey kt (enc k) es.toList).run P w = .ok none w ∧ ∀ x ∈ m, x.1 ≠ k) ∨ ∃ j e v, (Instr.findKey kt (enc k) es.toList).run P w = .ok (some (j, v)) w ∧ m[j]? = some (k, v) ∧ es[j]? = some e ∧ e.key = enc k := by
  have hall : ∀ e ∈ es.toList, ∃ l, keyOf P kt e.key = some l := fun e h => by
    have : (e.key, e.val) ∈ m.map (fun x => (enc x.1, x.2)) := by rw [← he]; exact List.mem_map.2 ⟨e, h, rfl⟩
    obtain ⟨x, hx, h2⟩ := List.mem_map.1 this
    obtain ⟨l, hl⟩ := hk x hx
    exact ⟨l, by rw [← (Prod.mk.inj h2).1]; exact hl⟩
  rcases K.find w hl es.toList hall with ⟨h1, h2⟩ | ⟨j, e, h1, h2, h3⟩
  · refine .inl ⟨h1, fun x hx hxk => ?_⟩
    have : (enc x.1, x.2) ∈ es.toList.map (fun x => (x.key, x.val)) := by rw [he]; exact List.mem_map.2 ⟨x, hx, rfl⟩
    obtain ⟨e, he1, he2⟩ := List.mem_map.1 this
    exact h2 e he1 (by rw [(Prod.mk.inj he2).1, hxk])
  · have h2' : es.toList[j]? = some e := by simpa using h2
    have h4 : (es.toList.map (fun x => (x.key, x.val)))[j]? = some (e.key, e.val) := by rw [List.getElem?_map, h2']; rfl
    rw [he, List.getElem?_map] at h4
    obtain ⟨x, hx⟩ : ∃ x, m[j]? = some x := by
      cases hx : m[j]? with
      | none => rw [hx] at h4; simp at h4
      | some x => exact ⟨x, rfl⟩
    rw [hx] at h4
    obtain ⟨q1, q2⟩ := Prod.mk.inj (Option.some.inj h4)
    refine .inr ⟨j, e, e.val, h1, ?_, by simpa using h2', h3⟩
    rw [hx]
    have : x.1 = k := hinj _ _ (by rw [q1, h3])
    rw [← this, ← q2]
theorem run_kmap_lookup (K : Keyed P kt) (hinj : ∀ a c : κ, enc a = enc c → a = c) {t et : TypeId} (ht : P.underlying t = some (.map kt et)) (h : KMap P kt enc w b f) {k : κ} {l : Lit} (hl : keyOf P kt (enc k) = some l) {z : Value} (hz : (zeroValue et).run P w = .ok z w) (c : Bool) :
    (Instr.lookup t (.map (some b)) (enc k) c).run P w = .ok (if c then .tuple #[(f k).getD z, .bool (f k).isSome] else (f k).getD z) w := by
  obtain ⟨es, cl, m, hb, he, hn, hk, hf⟩ := h
  unfold Instr.lookup
  rcases KMap.found (w := w) K hinj he hn hk hl with ⟨h1, h2⟩ | ⟨j, e, v, h1, h2, h3, h4⟩
  · rw [← hf k, kget_none h2]
    cases c <;> simp [run_underlying ht, Go.MapKept.run_getObj_map hb, K.check w _ hl, h1, hz, Result.andThen]
  · rw [← hf k, kget_at hn h2]
    cases c <;> simp [run_underlying ht, Go.MapKept.run_getObj_map hb, K.check w _ hl, h1, Result.andThen]
theorem run_kmap_put (K : Keyed P kt) (hinj : ∀ a c : κ, enc a = enc c → a = c) {t et : TypeId} (ht : P.underlying t = some (.map kt et)) (h : KMap P kt enc w b f) {k : κ} {l : Lit} (hl : keyOf P kt (enc k) = some l) (v : Value) :
    ∃ w', (Instr.mapUpdate t (.map (some b)) (enc k) v).run P w = .ok () w' ∧ KMap P kt enc w' b (fun q => if q = k then some v else f q) ∧ Keep (fun q => q = b) w w' := by
  obtain ⟨es, cl, m, hb, he, hn, hk, hf⟩ := h
  rcases KMap.found (w := w) K hinj he hn hk hl with ⟨h1, h2⟩ | ⟨j, e, u, h1, h2, h3, h4⟩
  · refine ⟨_, ?_, ⟨es.push { key := enc k, val := v, born := cl }, cl + 1, m ++ [(k, v)], (heap_set hb).1, ?_, ?_, ?_, fun q => ?_⟩, map_setBlock hb _⟩
    · unfold Instr.mapUpdate
      simp [run_underlying ht, Go.MapKept.run_getObj_map hb, K.check w _ hl, h1, Go.MapKept.run_setObj_map _ hb, Result.andThen]
    · simp [he]
    · rw [List.map_append, List.nodup_append]
      refine ⟨hn, by simp, fun a ha c hc => ?_⟩
      obtain ⟨x, hx, rfl⟩ := List.mem_map.1 ha
      simp at hc
      rw [hc]; exact h2 x hx
    · intro x hx
      rcases List.mem_append.1 hx with hx | hx
      · exact hk x hx
      · rw [List.mem_singleton.1 hx]; exact ⟨l, hl⟩
    · show _ = if q = k then some v else f q
      rw [← hf q]
      unfold kget
      rw [List.find?_append]
      by_cases hq : q = k
      · subst hq
        rw [if_pos rfl, List.find?_eq_none.2 fun x hx => by simpa using h2 x hx]
        simp
      · rw [if_neg hq]
        have : List.find? (fun x : κ × Value => decide (x.1 = q)) [(k, v)] = none := by
          rw [List.find?_eq_none]
          intro x hx
          rw [List.mem_singleton.1 hx]
          simpa using fun e => hq e.symm
        rw [this]
        cases List.find? (fun x : κ × Value => decide (x.1 = q)) m <;> rfl
  · have hj : j < m.length := by
      rcases Nat.lt_or_ge j m.length with g | g
      · exact g
      · rw [List.getElem?_eq_none g] at h2; cases h2
    have hkeys : (m.set j (k, v)).map (·.1) = m.map (·.1) := by
      rw [List.map_set]
      refine List.ext_getElem? fun i => ?_
      rw [List.getElem?_set]
      by_cases hi : j = i
      · subst hi
        rw [if_pos rfl, List.getElem?_map, h2]; simp [hj]
      · rw [if_neg hi]
    refine ⟨_, ?_, ⟨es.modify j fun e => { e with key := enc k, val := v }, cl, m.set j (k, v), (heap_set hb).1, ?_, ?_, ?_, fun q => ?_⟩, map_setBlock hb _⟩
    · unfold Instr.mapUpdate
      simp [run_underlying ht, Go.MapKept.run_getObj_map hb, K.check w _ hl, h1, h3, h4, K.stays w hl, Go.MapKept.run_setObj_map _ hb, Result.andThen]
    · have e1 : (es.modify j fun e => { e with key := enc k, val := v }).toList.map (fun x => (x.key, x.val)) = (es.toList.map (fun x => (x.key, x.val))).set j (enc k, v) := by
        refine List.ext_getElem? fun i => ?_
        rw [List.getElem?_map, List.getElem?_set, Array.getElem?_toList, Array.getElem?_modify]
        have hjs : j < (es.toList.map (fun x => (x.key, x.val))).length := by rw [he, List.length_map]; exact hj
        by_cases hi : j = i
        · subst hi
          rw [if_pos rfl, if_pos rfl, if_pos hjs, h3]; rfl
        · rw [if_neg hi, if_neg hi, List.getElem?_map, Array.getElem?_toList]
      rw [e1, he, List.map_set]
    · rw [hkeys]; exact hn
    · intro x hx
      rcases List.mem_or_eq_of_mem_set hx with hx | rfl
      · exact hk x hx
      · exact ⟨l, hl⟩
    · show _ = if q = k then some v else f q
      by_cases hq : q = k
      · subst hq
        rw [if_pos rfl]
        exact kget_at (by rw [hkeys]; exact hn) (j := j) (by rw [List.getElem?_set_self hj])
      · rw [if_neg hq, ← hf q]
        cases hg : kget m q with
        | none =>
          refine kget_none fun x hx => ?_
          rcases List.mem_or_eq_of_mem_set hx with hx | rfl
          · intro e
            unfold kget at hg
            have := List.find?_eq_none.1 (Option.map_eq_none_iff.1 hg) x hx
            simp [e] at this
          · exact fun e => hq e.symm
        | some u2 =>
          unfold kget at hg
          obtain ⟨x, hx, hx2⟩ := Option.map_eq_some_iff.1 hg
          have hxq : x.1 = q := by simpa using List.find?_some hx
          obtain ⟨i, hi⟩ := List.getElem?_of_mem (List.mem_of_find?_eq_some hx)
          have hij : j ≠ i := by
            rintro rfl
            rw [h2] at hi
            obtain rfl := Option.some.inj hi
            exact hq hxq.symm
          refine kget_at (by rw [hkeys]; exact hn) (j := i) ?_
          rw [List.getElem?_set_ne hij, hi, ← hxq, ← hx2]
variable {ops : Array Oper} {Q : Exit → Act → World → Prop} {rest : List Oper} {o : Oper} {a : Act}
theorem does_kmap_put (hg : o.guard = none) (mo x vo : Operand) (t et : TypeId) (hop : o.op = Op.mapUpdate t mo x vo) (K : Keyed P kt) (hinj : ∀ a c : κ, enc a = enc c → a = c) (ht : P.underlying t = some (.map kt et)) (h : KMap P kt enc w b f)
    (hm : a.eval mo = .map (some b)) (k : κ) (hx : a.eval x = enc k) {l : Lit} (hl : keyOf P kt (enc k) = some l) (v : Value) (hv : a.eval vo = v) {R : Value → World → Prop}
    (hK : ∀ w', KMap P kt enc w' b (fun q => if q = k then some v else f q) → Keep (fun q => q = b) w w' → R undef w') : does P ops o a w R := by
  obtain ⟨w', hrun, r1, r2⟩ := run_kmap_put K hinj ht h hl v
  unfold does
  rw [if_pos (by simp [Region.wanted, hg])]
  simp [execOp, hop, hm, hx, hv, hrun, Result.andThen]
  exact hK w' r1 r2
end
end Go.Proofs.YtngdpnlgnpdkcaaGreatDoor
namespace Go.Proofs.YtngdpnlgnpdkcaaGreatDoor
open Go Go.RowKit
open Go.Maps (Keyed)
def twoV (e : Int × Int) : Value := .agg #[.int .i64 e.1, .int .i64 e.2]
theorem twoV_inj (a c : Int × Int) (h : twoV a = twoV c) : a = c := by
  unfold twoV at h
  injection h with h
  simp at h
  exact Prod.ext h.1 h.2
theorem intV_inj (a c : Int) (h : Value.int .i64 a = Value.int .i64 c) : a = c := by injection h
theorem keyOf_two {P : Program} {k ti : TypeId} {f g : Field} (hu : P.underlying k = some (.struct #[f, g])) (hf1 : f.type = ti) (hf2 : f.offset = 0) (hg1 : g.type = ti) (hg2 : g.offset = 1) (hfn : (f.name != "_") = true) (hgn : (g.name != "_") = true)
    (hc : P.cellsOf k = 2) (hci : P.cellsOf ti = 1) (hti : P.underlying ti = some (.int .i64)) (hkt : P.keyType k = true) {m : Nat} (hsz : P.types.size = m + 1) {a b : Int} (wa : (Lit.int .i64 a).wf = true) (wb : (Lit.int .i64 b).wf = true) :
    keyOf P k (twoV (a, b)) = some (.string (keyBytes [.int .i64 a, .int .i64 b])) := by
  have e1 : (twoV (a, b)).formed P k = true := by simp [twoV, Value.formed, hu, hc]
  have e2 : ∀ n (c : Int), (Lit.int .i64 c).wf = true → P.keyLits (n + 1) ti [.int .i64 c] = some [.int .i64 c] := fun n c hw => by simp [Program.keyLits, hti, hw]
  have e3 : P.keyLits (m + 1 + 1) k [.int .i64 a, .int .i64 b] = some [.int .i64 a, .int .i64 b] := by
    have h1 := e2 m a wa
    have h2 := e2 m b wb
    unfold Program.keyLits
    simp only [hu]
    simp at hfn hgn
    simp [hc, hf1, hf2, hg1, hg2, hci, hfn, hgn, h1, h2]
  unfold keyOf
  simp only [hu, hkt, e1, Bool.true_and, if_true, hsz]
  show Option.map _ (P.keyLits (m + 1 + 1) k (twoV (a, b)).cells.toList) = _
  rw [show (twoV (a, b)).cells.toList = [Value.int .i64 a, Value.int .i64 b] by simp [twoV, Value.cells]]
  rw [e3]; rfl
theorem wf_small {a : Int} (h : 0 ≤ a ∧ a < 1000000) : (Lit.int .i64 a).wf = true := by
  simp [Lit.wf, IntKind.min, IntKind.max, IntKind.signed, IntKind.bits]
  omega
theorem int_keyed64 : Keyed Tryz.prog 3 := Go.Maps.int_keyed Tryz.underlying3
theorem key_int {a : Int} (h : 0 ≤ a ∧ a < 1000000) : ∃ l, keyOf Tryz.prog 3 (Value.int .i64 a) = some l := by
  refine ⟨.int .i64 a, ?_⟩
  simp [keyOf, mapKey, Tryz.underlying3, wf_small h]
end Go.Proofs.YtngdpnlgnpdkcaaGreatDoor
namespace Go.Proofs.YtngdpnlgnpdkcaaGreatDoor
open Go Go.RowKit
structure ElF (F : Nat → Prop) (v : Value) (n : Nat) (E : Nat → Addr → Prop) : Prop where
  form : ∃ a cap, v = .slice a n cap ∧ n ≤ cap ∧ (cap : Int) ≤ 9223372036854775807 ∧ (0 < n → ∃ y, a = some y) ∧ ∀ y, a = some y → 0 < n → F y.block ∧ ∀ i, i < n → E i y
section
variable {F G X : Nat → Prop} {w w' : World} {n0 n : Nat} {v v1 v2 v3 : Value} {E E' : Nat → Addr → Prop}
theorem ElF.mono (h : ElF F v n E) (hF : ∀ b, F b → G b) (hE : ∀ i y, i < n → F y.block → E i y → E' i y) : ElF G v n E' := by
  obtain ⟨a, cap, h1, h2, h3, h4, h5⟩ := h
  exact ⟨a, cap, h1, h2, h3, h4, fun y hy h0 => ⟨hF _ (h5 y hy h0).1, fun i hi => hE i y hi (h5 y hy h0).1 ((h5 y hy h0).2 i hi)⟩⟩
theorem ElF.toR (h : ElF F v n E) (hF : ∀ b, F b → b < n0) (hE : ∀ i y, i < n → F y.block → E i y → E' i y) : ElR n0 v n E' := by
  obtain ⟨a, cap, h1, h2, h3, h4, h5⟩ := h
  exact ⟨a, cap, h1, h2, h3, h4, fun y hy h0 => ⟨hF _ (h5 y hy h0).1, fun i hi => hE i y hi (h5 y hy h0).1 ((h5 y hy h0).2 i hi)⟩⟩
theorem ElF.ofR (h : ElR n0 v n E) (hF : ∀ b, b < n0 → F b) (hE : ∀ i y, i < n → y.block < n0 → E i y → E' i y) : ElF F v n E' := by
  obtain ⟨a, cap, h1, h2, h3, h4, h5⟩ := h
  exact ⟨a, cap, h1, h2, h3, h4, fun y hy h0 => ⟨hF _ (h5 y hy h0).1, fun i hi => hE i y hi (h5 y hy h0).1 ((h5 y hy h0).2 i hi)⟩⟩
def StrsF (w : World) (F : Nat → Prop) (v : Value) (l : List ByteArray) : Prop := ElF F v l.length fun i y => ∀ s, l[i]? = some s → w.cell? (y.add i) = some (.string s)
def IntsF (w : World) (F : Nat → Prop) (v : Value) (l : List Int) : Prop := ElF F v l.length fun i y => ∀ s, l[i]? = some s → w.cell? (y.add i) = some (.int .i64 s)
def FunsF (w : World) (F : Nat → Prop) (v : Value) (l : List PF) : Prop := ElF F v l.length fun i y => ∀ f, l[i]? = some f → ∃ pv, w.cell? (y.add (i * 3)) = some (.string f.name) ∧ w.cell? ((y.add (i * 3)).add 1) = some pv ∧ w.cell? ((y.add (i * 3)).add 2) = some (.int .i64 f.ret) ∧ IntsF w F pv f.params
def StmtsF (w : World) (F : Nat → Prop) (v : Value) (l : List PS) : Prop := ElF F v l.length fun i y => ∀ s, l[i]? = some s → ∃ av, w.cell? (y.add (i * 4)) = some (.string s.kind) ∧ w.cell? ((y.add (i * 4)).add 1) = some (.int .i64 s.x) ∧ w.cell? ((y.add (i * 4)).add 2) = some (.int .i64 s.y) ∧ w.cell? ((y.add (i * 4)).add 3) = some av ∧ IntsF w F av s.args
structure ProgF (w : World) (F : Nat → Prop) (v1 v2 v3 : Value) (P : PP) : Prop where
  vars : StrsF w F v1 P.vars
  funs : FunsF w F v2 P.funs
  stmts : StmtsF w F v3 P.stmts
theorem StrsF.keep {l : List ByteArray} (h : StrsF w F v l) (k : Keep X w w') (hX : ∀ b, F b → ¬ X b) (hG : ∀ b, F b → G b) : StrsF w' G v l :=
  ElF.mono h hG fun i y _ hy hE s hs => k.cellx (hE s hs) (by rw [add_block]; exact hX _ hy)
theorem IntsF.keep {l : List Int} (h : IntsF w F v l) (k : Keep X w w') (hX : ∀ b, F b → ¬ X b) (hG : ∀ b, F b → G b) : IntsF w' G v l :=
  ElF.mono h hG fun i y _ hy hE s hs => k.cellx (hE s hs) (by rw [add_block]; exact hX _ hy)
theorem FunsF.keep {l : List PF} (h : FunsF w F v l) (k : Keep X w w') (hX : ∀ b, F b → ¬ X b) (hG : ∀ b, F b → G b) : FunsF w' G v l :=
  ElF.mono h hG fun i y _ hy hE s hs => by
    obtain ⟨pv, h1, h2, h3, h4⟩ := hE s hs
    exact ⟨pv, k.cellx h1 (by rw [add_block]; exact hX _ hy), k.cellx h2 (by rw [add_block, add_block]; exact hX _ hy), k.cellx h3 (by rw [add_block, add_block]; exact hX _ hy), h4.keep k hX hG⟩
theorem StmtsF.keep {l : List PS} (h : StmtsF w F v l) (k : Keep X w w') (hX : ∀ b, F b → ¬ X b) (hG : ∀ b, F b → G b) : StmtsF w' G v l :=
  ElF.mono h hG fun i y _ hy hE s hs => by
    obtain ⟨pv, h1, h2, h3, h4, h5⟩ := hE s hs
    exact ⟨pv, k.cellx h1 (by rw [add_block]; exact hX _ hy), k.cellx h2 (by rw [add_block, add_block]; exact hX _ hy), k.cellx h3 (by rw [add_block, add_block]; exact hX _ hy), k.cellx h4 (by rw [add_block, add_block]; exact hX _ hy), h5.keep k hX hG⟩
theorem ProgF.keep {P : PP} (h : ProgF w F v1 v2 v3 P) (k : Keep X w w') (hX : ∀ b, F b → ¬ X b) (hG : ∀ b, F b → G b) : ProgF w' G v1 v2 v3 P := ⟨h.vars.keep k hX hG, h.funs.keep k hX hG, h.stmts.keep k hX hG⟩
theorem IntsF.toR {l : List Int} (h : IntsF w F v l) (hF : ∀ b, F b → b < n0) : IntsR w n0 v l := ElF.toR h hF fun _ _ _ _ h => h
theorem IntsF.ofR {l : List Int} (h : IntsR w n0 v l) (hF : ∀ b, b < n0 → F b) : IntsF w F v l := ElF.ofR h hF fun _ _ _ _ h => h
theorem ProgF.toR {P : PP} (h : ProgF w F v1 v2 v3 P) (hF : ∀ b, F b → b < n0) : ProgR w n0 v1 v2 v3 P :=
  ⟨ElF.toR h.vars hF fun _ _ _ _ h => h,
   ElF.toR h.funs hF fun i y _ _ hE s hs => (let ⟨pv, h1, h2, h3, h4⟩ := hE s hs; ⟨pv, h1, h2, h3, h4.toR hF⟩),
   ElF.toR h.stmts hF fun i y _ _ hE s hs => (let ⟨pv, h1, h2, h3, h4, h5⟩ := hE s hs; ⟨pv, h1, h2, h3, h4, h5.toR hF⟩)⟩
theorem ProgF.ofR {P : PP} (h : ProgR w n0 v1 v2 v3 P) (hF : ∀ b, b < n0 → F b) : ProgF w F v1 v2 v3 P :=
  ⟨ElF.ofR h.vars hF fun _ _ _ _ h => h,
   ElF.ofR h.funs hF fun i y _ _ hE s hs => (let ⟨pv, h1, h2, h3, h4⟩ := hE s hs; ⟨pv, h1, h2, h3, IntsF.ofR h4 hF⟩),
   ElF.ofR h.stmts hF fun i y _ _ hE s hs => (let ⟨pv, h1, h2, h3, h4, h5⟩ := hE s hs; ⟨pv, h1, h2, h3, h4, IntsF.ofR h5 hF⟩)⟩
def ErrB (ad : Nat → Addr) (b : Nat) : Prop := b = 3 ∨ b = 4 ∨ b = 5 ∨ b = 6 ∨ b = 7 ∨ b = 1 ∨ b = 8 ∨ b = (ad 5).block ∨ b = (ad 7).block
theorem ErrsP.keep {ad : Nat → Addr} (h : ErrsP w ad) (k : Keep X w w') (hX : ∀ b, ErrB ad b → ¬ X b) : ErrsP w' ad :=
  ⟨k.cellx h.at2 (hX _ (.inl rfl)), k.cellx h.at3 (hX _ (.inr (.inl rfl))), k.cellx h.at4 (hX _ (.inr (.inr (.inl rfl)))), k.cellx h.at5 (hX _ (.inr (.inr (.inr (.inl rfl))))), k.cellx h.at7 (hX _ (.inr (.inr (.inr (.inr (.inl rfl)))))), k.cellx h.at8 (hX _ (.inr (.inr (.inr (.inr (.inr (.inl rfl))))))), k.cellx h.at9 (hX _ (.inr (.inr (.inr (.inr (.inr (.inr (.inl rfl)))))))), h.ne57,
   (let ⟨cs, t, e⟩ := h.row5; ⟨cs, t, k.get e (hX _ (.inr (.inr (.inr (.inr (.inr (.inr (.inr (.inl rfl)))))))))⟩), (let ⟨cs, t, e⟩ := h.row7; ⟨cs, t, k.get e (hX _ (.inr (.inr (.inr (.inr (.inr (.inr (.inr (.inr rfl)))))))))⟩)⟩
theorem ErrsP.lt {ad : Nat → Addr} (h : ErrsP w ad) {b : Nat} (hb : ErrB ad b) : b < w.heap.size := by
  rcases hb with rfl | rfl | rfl | rfl | rfl | rfl | rfl | rfl | rfl
  · exact cell_lt h.at2
  · exact cell_lt h.at3
  · exact cell_lt h.at4
  · exact cell_lt h.at5
  · exact cell_lt h.at7
  · exact cell_lt h.at8
  · exact cell_lt h.at9
  · obtain ⟨cs, t, e⟩ := h.row5; exact (Array.getElem?_eq_some_iff.1 e).1
  · obtain ⟨cs, t, e⟩ := h.row7; exact (Array.getElem?_eq_some_iff.1 e).1
structure PWF (w : World) (F : Nat → Prop) (ad : Nat → Addr) (a1 a2 a3 : Option Addr) (c1 c2 c3 : Nat) (P : PP) : Prop where
  lt : ∀ b, F b → b < w.heap.size
  ef : ∀ b, ErrB ad b → F b
  errs : ErrsP w ad
  prog : ProgF w F (.slice a1 P.vars.length c1) (.slice a2 P.funs.length c2) (.slice a3 P.stmts.length c3) P
  z1 : ∀ s ∈ P.vars, s.size ≤ 1000000
  z2 : ∀ s ∈ P.names, s.size ≤ 1000000
  well : P.Well
variable {ad : Nat → Addr} {a1 a2 a3 : Option Addr} {c1 c2 c3 : Nat} {P : PP}
theorem PWF.pw (h : PWF w F ad a1 a2 a3 c1 c2 c3 P) : PW w w.heap.size ad a1 a2 a3 c1 c2 c3 P := ⟨h.errs, h.prog.toR h.lt, h.z1, h.z2, h.well⟩
theorem PWF.keep (h : PWF w F ad a1 a2 a3 c1 c2 c3 P) (k : Keep X w w') (hX : ∀ b, F b → ¬ X b) : PWF w' F ad a1 a2 a3 c1 c2 c3 P :=
  ⟨fun b hb => Nat.lt_of_lt_of_le (h.lt b hb) k.size, h.ef, h.errs.keep k fun b hb => hX b (h.ef b hb), h.prog.keep k hX fun _ h => h, h.z1, h.z2, h.well⟩
theorem PWF.ext (h : PWF w F ad a1 a2 a3 c1 c2 c3 P) (x : Ext w w') : PWF w' F ad a1 a2 a3 c1 c2 c3 P := h.keep (x.keep fun _ => False) fun _ _ h => h
theorem PWF.more (h : PWF w F ad a1 a2 a3 c1 c2 c3 P) (hF : ∀ b, F b → G b) (hG : ∀ b, G b → b < w.heap.size) : PWF w G ad a1 a2 a3 c1 c2 c3 P :=
  ⟨hG, fun b hb => hF b (h.ef b hb), h.errs, h.prog.keep (Keep.refl (fun _ => False) w) (fun _ _ h => h) hF, h.z1, h.z2, h.well⟩
theorem PWF.of (h : PW w n0 ad a1 a2 a3 c1 c2 c3 P) (hn : n0 ≤ w.heap.size) : PWF w (fun b => b < w.heap.size) ad a1 a2 a3 c1 c2 c3 P :=
  ⟨fun _ h => h, fun b hb => h.errs.lt hb, h.errs, ProgF.ofR h.prog fun b hb => Nat.lt_of_lt_of_le hb hn, h.z1, h.z2, h.well⟩
end
def OwnsQ (w : World) (base : Nat) (e : TypeId) (size : Nat) (v : Value) (n : Nat) (xs : List Value) : Prop :=
  xs.length = n * size ∧ ((v = .slice none 0 0 ∧ n = 0) ∨ ∃ g off cap cur, v = .slice (some ⟨g, off, none⟩) n cap ∧ base ≤ g ∧ Blk w g cur e ∧ n ≤ cap ∧ off + cap * size ≤ cur.size ∧ (cur.toList.drop off).take (n * size) = xs)
section
variable {w w' : World} {base : Nat} {e : TypeId} {size n : Nat} {v : Value} {xs : List Value}
theorem OwnsQ.ofRow (h : w.ownsRow base e size v n xs) : OwnsQ w base e size v n xs := by
  refine ⟨h.1, h.2.imp id ?_⟩
  rintro ⟨g, cap, cur, h1, h2, h3, h4, h5, h6, h7⟩
  exact ⟨g, 0, cap, cur, h1, h2, h3, h4, by omega, h7⟩
theorem OwnsQ.nil (w : World) (base : Nat) (e : TypeId) (size : Nat) : OwnsQ w base e size (.slice none 0 0) 0 [] := .ofRow (World.ownsRow_nil _ _ _ _)
theorem OwnsQ.form (h : OwnsQ w base e size v n xs) : ∃ a c, v = .slice a n c := by
  rcases h.2 with ⟨h1, h2⟩ | ⟨g, off, cap, cur, h1, _⟩
  · exact ⟨none, 0, by rw [h1, h2]⟩
  · exact ⟨_, _, h1⟩
theorem OwnsQ.keep {X : Nat → Prop} (h : OwnsQ w base e size v n xs) (k : Keep X w w') (hx : ∀ i, v.ownBlock = some i → ¬ X i) : OwnsQ w' base e size v n xs := by
  refine ⟨h.1, h.2.imp id ?_⟩
  rintro ⟨g, off, cap, cur, rfl, h2, h3, h4⟩
  exact ⟨g, off, cap, cur, rfl, h2, h3.keep k (hx g rfl), h4⟩
theorem OwnsQ.ext (h : OwnsQ w base e size v n xs) (x : Ext w w') : OwnsQ w' base e size v n xs := h.keep (x.keep fun _ => False) fun _ _ h => h
theorem OwnsQ.ty (h : OwnsQ w base e size v n xs) {k : Nat} (hk : v.ownBlock = some k) : base ≤ k ∧ ∃ c, Blk w k c e := by
  rcases h.2 with ⟨rfl, _⟩ | ⟨g, off, cap, cur, rfl, h2, h3, _⟩
  · cases hk
  · obtain rfl := Option.some.inj hk
    exact ⟨h2, cur, h3⟩
theorem OwnsQ.get {g off cap : Nat} (h : OwnsQ w base e size (.slice (some ⟨g, off, none⟩) n cap) n xs) (i : Nat) {u : Value} (hu : xs[i]? = some u) : w.cell? ⟨g, off + i, none⟩ = some u := by
  rcases h.2 with ⟨h1, _⟩ | ⟨g', off', cap', cur, h1, h2, h3, h4, h5, h6⟩
  · cases h1
  · simp only [Value.slice.injEq, Option.some.injEq, Addr.mk.injEq, and_true, true_and] at h1
    obtain ⟨⟨rfl, rfl⟩, rfl⟩ := h1
    rw [h3.cell, ← Array.getElem?_toList]
    rw [← h6, List.getElem?_take] at hu
    split at hu
    · rwa [List.getElem?_drop] at hu
    · cases hu
theorem OwnsQ.tail {g off cap : Nat} (h : OwnsQ w base e size (.slice (some ⟨g, off, none⟩) n cap) n xs) (hn : 0 < n) : OwnsQ w base e size (.slice (some (if cap = 1 then ⟨g, off, none⟩ else ⟨g, off + size, none⟩)) (n - 1) (cap - 1)) (n - 1) (xs.drop size) := by
  rcases h.2 with ⟨h1, _⟩ | ⟨g', off', cap', cur, h1, h2, h3, h4, h5, h6⟩
  · cases h1
  · simp only [Value.slice.injEq, Option.some.injEq, Addr.mk.injEq, and_true, true_and] at h1
    obtain ⟨⟨rfl, rfl⟩, rfl⟩ := h1
    obtain ⟨m, rfl⟩ : ∃ m, n = m + 1 := ⟨n - 1, by omega⟩
    obtain ⟨c, rfl⟩ : ∃ c, cap = c + 1 := ⟨cap - 1, by omega⟩
    have e1 : (m + 1) * size = m * size + size := by rw [Nat.add_mul, Nat.one_mul]
    have e2 : (c + 1) * size = c * size + size := by rw [Nat.add_mul, Nat.one_mul]
    refine ⟨by rw [List.length_drop, h.1, e1]; simp, .inr ?_⟩
    by_cases hc : c = 0
    · subst hc
      obtain rfl : m = 0 := by omega
      refine ⟨g, off, 0, cur, by simp, h2, h3, Nat.le_refl _, by omega, ?_⟩
      have := h.1
      simp at this ⊢
      omega
    · refine ⟨g, off + size, c, cur, by rw [if_neg (by omega)]; simp, h2, h3, by omega, by omega, ?_⟩
      rw [← h6, List.drop_take, List.drop_drop, e1]
      congr 1
      · simp
end
def cntE (EL : List (Int × Int)) (m n : Nat) : Nat := ((EL.take m).filter fun e => decide (e.2 = (n : Int))).length
theorem cntE_zero (EL : List (Int × Int)) (n : Nat) : cntE EL 0 n = 0 := rfl
theorem cntE_succ {EL : List (Int × Int)} {m n : Nat} {e : Int × Int} (he : EL[m]? = some e) : cntE EL (m + 1) n = cntE EL m n + if e.2 = (n : Int) then 1 else 0 := by
  unfold cntE
  rw [List.take_add_one, he, List.filter_append, List.length_append]
  congr 1
  show (List.filter _ [e]).length = _
  rw [List.filter_cons]
  by_cases h : e.2 = (n : Int)
  · rw [if_pos (decide_eq_true h), if_pos h]; rfl
  · rw [if_neg (by simpa using h), if_neg h]; rfl
theorem srt_below : ∀ {l : List Int} {lo hi : Int}, Srt l → (∀ x ∈ l, lo ≤ x ∧ x < hi) → l.length ≤ (hi - lo).toNat
  | [], _, _, _, _ => Nat.zero_le _
  | a :: t, lo, hi, hs, hb => by
    have h1 := List.pairwise_cons.1 hs
    have h2 := srt_below (lo := a + 1) (hi := hi) h1.2 fun x hx => ⟨by have := h1.1 x hx; omega, (hb x (List.mem_cons_of_mem _ hx)).2⟩
    have h3 := hb a (List.mem_cons_self ..)
    rw [List.length_cons]
    omega
theorem cntE_few {EL : List (Int × Int)} {N : Nat} (hs : SrtP EL) (hin : ∀ e ∈ EL, 0 ≤ e.1 ∧ e.1 < (N : Int)) (m n : Nat) : cntE EL m n ≤ N := by
  unfold cntE
  rw [← List.length_map (f := Prod.fst)]
  have h := srt_below (l := ((EL.take m).filter fun e => decide (e.2 = (n : Int))).map Prod.fst) (lo := 0) (hi := (N : Int)) ?_ fun x hx => ?_
  · simpa using h
  · refine List.pairwise_map.2 ?_
    have h1 : SrtP ((EL.take m).filter fun e => decide (e.2 = (n : Int))) := (hs.sublist (List.take_sublist m EL)).sublist List.filter_sublist
    refine h1.imp_of_mem fun {a b} ha hb hab => ?_
    have e1 : a.2 = (n : Int) := by simpa using (List.mem_filter.1 ha).2
    have e2 : b.2 = (n : Int) := by simpa using (List.mem_filter.1 hb).2
    unfold lexLt at hab
    omega
  · obtain ⟨e, he, rfl⟩ := List.mem_map.1 hx
    exact hin e (List.mem_of_mem_take (List.mem_filter.1 he).1)
structure BagAt (P : PP) (has : List (List Int)) (EL : List (Int × Int)) (k m : Nat) (B : List (List Int)) : Prop where
  set : ∃ S, RoundAt P has EL k m S ∧ B.length = S.length ∧ ∀ n x, x ∈ B.getD n [] ↔ x ∈ S.getD n []
  few : ∀ n, (B.getD n []).length ≤ 1000 + k + 1000 * cntE EL m n
theorem BagAt.len {P : PP} {has : List (List Int)} {EL : List (Int × Int)} {k m : Nat} {B : List (List Int)} (h : BagAt P has EL k m B) : B.length = has.length := by
  obtain ⟨S, h1, h2, _⟩ := h.set
  exact h2.trans h1.len
theorem BagAt.start {P : PP} {has : List (List Int)} (hg : P.GoodS has) (EL : List (Int × Int)) : BagAt P has EL 0 0 has :=
  ⟨⟨has, RoundAt.start hg EL, rfl, fun _ _ => Iff.rfl⟩, fun n => by
    by_cases hn : n < has.length
    · have := srt_few (hg.ok.ok _ (getD_mem hn)).1
      omega
    · rw [List.getD_eq_getElem?_getD, List.getElem?_eq_none (by omega)]
      show (0 : Nat) ≤ _
      omega⟩
theorem BagAt.skip {P : PP} {has : List (List Int)} {EL : List (Int × Int)} {k : Nat} {B : List (List Int)} (h : BagAt P has EL k 0 B) (hb : (P.ruleV k (P.stAt k)).kind.toList ≠ bBase.toList) : BagAt P has EL (k + 1) 0 B := by
  obtain ⟨S, h1, h2, h3⟩ := h.set
  exact ⟨⟨S, h1.skip hb, h2, h3⟩, fun n => by have := h.few n; omega⟩
theorem BagAt.base {P : PP} {has : List (List Int)} {EL : List (Int × Int)} {k : Nat} {B : List (List Int)} (h : BagAt P has EL k 0 B) (hb : (P.ruleV k (P.stAt k)).kind.toList = bBase.toList) {a : Nat} {b : Int} (ha : (P.ruleV k (P.stAt k)).a = (a : Int)) (hbb : (P.ruleV k (P.stAt k)).b = b) (hb1 : 0 ≤ b ∧ b < 1000) (hal : a < has.length) :
    BagAt P has EL (k + 1) 0 (B.set a (B.getD a [] ++ [b])) := by
  obtain ⟨S, h1, h2, h3⟩ := h.set
  have hS : a < S.length := by rw [h1.len]; exact hal
  have hB : a < B.length := by rw [h2]; exact hS
  have hin : InR (S.getD a [] ++ [b]) := (chkE_zero.1 (h1.ok _ (getD_mem hS))).1.app fun x hx => by obtain rfl := List.mem_singleton.1 hx; exact hb1
  refine ⟨⟨_, h1.base hb ha hbb hb1 hal, by rw [List.length_set, List.length_set, h2], fun n x => ?_⟩, fun n => ?_⟩
  · rw [set_getD hB, set_getD hS]
    by_cases han : a = n
    · rw [if_pos han, if_pos han, mem_sset hin, List.mem_append, List.mem_append, h3]
    · rw [if_neg han, if_neg han, h3]
  · rw [set_getD hB]
    have := h.few n
    by_cases han : a = n
    · subst han
      rw [if_pos rfl, List.length_append, List.length_singleton]
      omega
    · rw [if_neg han]
      omega
theorem BagAt.edge {P : PP} {has : List (List Int)} {EL : List (Int × Int)} {k m : Nat} {B : List (List Int)} (h : BagAt P has EL k m B) {a b : Nat} (he : EL[m]? = some ((a : Int), (b : Int))) (hok : ∀ l ∈ has, chkE l = 0) (hal : a < has.length) (hbl : b < has.length) :
    BagAt P has EL k (m + 1) (B.set b (B.getD b [] ++ has.getD a [])) := by
  obtain ⟨S, h1, h2, h3⟩ := h.set
  have hS : b < S.length := by rw [h1.len]; exact hbl
  have hB : b < B.length := by rw [h2]; exact hS
  have hin : InR (S.getD b [] ++ has.getD a []) := (chkE_zero.1 (h1.ok _ (getD_mem hS))).1.app (chkE_zero.1 (hok _ (getD_mem hal))).1
  refine ⟨⟨_, h1.edge he hok hal hbl, by rw [List.length_set, List.length_set, h2], fun n x => ?_⟩, fun n => ?_⟩
  · rw [set_getD hB, set_getD hS]
    by_cases han : b = n
    · rw [if_pos han, if_pos han, mem_sset hin, List.mem_append, List.mem_append, h3]
    · rw [if_neg han, if_neg han, h3]
  · rw [set_getD hB, cntE_succ he]
    have h4 := h.few n
    have h5 := srt_few (hok _ (getD_mem hal))
    by_cases han : b = n
    · subst han
      rw [if_pos rfl, if_pos rfl, List.length_append]
      omega
    · rw [if_neg han, if_neg (fun e => han (Int.ofNat_inj.1 e))]
      omega
theorem BagAt.done {P : PP} {has : List (List Int)} (hg : P.GoodS has) {B : List (List Int)} (h : BagAt P has (P.edgesL has) P.stmts.length (P.edgesL has).length B) : B.map sset = P.roundV has := by
  obtain ⟨S, h1, h2, h3⟩ := h.set
  obtain rfl := h1.uniq (roundV_at hg)
  refine List.ext_getElem? fun n => ?_
  rw [List.getElem?_map]
  by_cases hn : n < B.length
  · have hs : n < (P.roundV has).length := by rw [← h2]; exact hn
    have ht := chkE_zero.1 (h1.ok _ (getD_mem hs))
    have e : sset (B.getD n []) = (P.roundV has).getD n [] := srt_uniq (sset_srt _) ht.2 fun x => (mem_sset (fun x hx => ht.1 x ((h3 n x).1 hx))).trans (h3 n x)
    rw [List.getD_eq_getElem?_getD, List.getD_eq_getElem?_getD, List.getElem?_eq_getElem hn, List.getElem?_eq_getElem hs] at e
    rw [List.getElem?_eq_getElem hn, List.getElem?_eq_getElem hs]
    exact congrArg some e
  · rw [List.getElem?_eq_none (by omega), List.getElem?_eq_none (by rw [← h2]; omega)]
    rfl
theorem StmtsR.own2 {w : World} {base : Nat} {v : Value} {ss : List S2} {l : List PS} (h : w.ownsRow base 76 4 v ss.length (ss.flatMap S2.cells)) (hl : ss.map S2.s = l) (hn : ∀ x ∈ ss, IntsR w w.heap.size x.v x.s.args) : StmtsR w w.heap.size v l := by
  have hll : l.length = ss.length := by rw [← hl, List.length_map]
  unfold StmtsR
  rw [hll]
  refine ElR.own h (Nat.le_refl _) fun g hc i hi f hf => ?_
  rw [← hl, List.getElem?_map] at hf
  obtain ⟨x, hx, rfl⟩ := Option.map_eq_some_iff.1 hf
  have c : ∀ j u, x.cells[j]? = some u → j < 4 → w.cell? (((⟨g, 0, none⟩ : Addr).add (i * 4)).add j) = some u := fun j u hu hj => by
    rw [add_add]
    exact hc _ _ ((fm_get S2.cells 4 S2.cells_len ss i j x hx hj).trans hu)
  exact ⟨x.v, by simpa [Addr.add] using c 0 _ rfl (by omega), c 1 _ rfl (by omega), c 2 _ rfl (by omega), c 3 _ rfl (by omega), hn x (List.mem_of_getElem? hx)⟩
structure OwnR (w : World) (n1 : Nat) (vv fv sv : Value) (P : PP) (fs : List F2) (ss : List S2) : Prop where
  vars : w.ownsRow 0 9 1 vv P.vars.length (P.vars.map .string)
  funs : w.ownsRow n1 78 3 fv P.funs.length (fs.flatMap F2.cells)
  stmts : w.ownsRow n1 76 4 sv P.stmts.length (ss.flatMap S2.cells)
  fm : fs.map F2.f = P.funs
  sm : ss.map S2.s = P.stmts
  fi : ∀ x ∈ fs, IntsT w x.v x.f.params
  si : ∀ x ∈ ss, IntsT w x.v x.s.args
theorem OwnR.ext {w w' : World} {n1 : Nat} {vv fv sv : Value} {P : PP} {fs : List F2} {ss : List S2} (h : OwnR w n1 vv fv sv P fs ss) (x : Ext w w') : OwnR w' n1 vv fv sv P fs ss :=
  ⟨own_ext h.vars x, own_ext h.funs x, own_ext h.stmts x, h.fm, h.sm, fun y hy => (h.fi y hy).ext x, fun y hy => (h.si y hy).ext x⟩
theorem OwnR.prog {w : World} {n1 : Nat} {vv fv sv : Value} {P : PP} {fs : List F2} {ss : List S2} (h : OwnR w n1 vv fv sv P fs ss) : ProgR w w.heap.size vv fv sv P := by
  have hfl : fs.length = P.funs.length := by rw [← h.fm, List.length_map]
  have hsl : ss.length = P.stmts.length := by rw [← h.sm, List.length_map]
  exact ⟨StrsR.own h.vars (Nat.le_refl _), FunsR.own (by rw [hfl]; exact h.funs) h.fm h.fi, StmtsR.own (by rw [hsl]; exact h.stmts) h.sm h.si⟩
theorem OwnR.more {w w' : World} {n1 : Nat} {vv fv sv sv' : Value} {P : PP} {fs : List F2} {ss : List S2} (h : OwnR w n1 vv fv sv P fs ss) (x : S2) (hx : IntsR w' w'.heap.size x.v x.s.args)
    (ho : w'.ownsRow n1 76 4 sv' (P.stmts.length + 1) (ss.flatMap S2.cells ++ S2.cells x)) {X : Nat → Prop} (k : Keep X w w') (hX : ∀ q, X q → ∃ c t, Blk w q c t ∧ t ≠ 9 ∧ t ≠ 78 ∧ t ≠ 3) :
    ProgR w' w'.heap.size vv fv sv' ⟨P.vars, P.funs, P.stmts ++ [x.s]⟩ := by
  have hfl : fs.length = P.funs.length := by rw [← h.fm, List.length_map]
  have hsl : ss.length = P.stmts.length := by rw [← h.sm, List.length_map]
  have hni : ∀ b, X b → ¬ IsInt w b := fun b e => by
    obtain ⟨c, t, hc, _, _, h3⟩ := hX b e
    exact notInt hc h3
  have hrk : ∀ {base : Nat} {e : TypeId} {size : Nat} {v : Value} {n : Nat} {xs : List Value}, w.ownsRow base e size v n xs → (e = 9 ∨ e = 78) → w'.ownsRow base e size v n xs := fun hr hne => row_keep hr k fun i hi e => by
    obtain ⟨c, hc⟩ := own_ty hr hi
    obtain ⟨c', t, hc', h1, h2, _⟩ := hX i e
    refine Blk.ty_ne hc hc' (fun e => ?_) rfl
    rcases hne with h | h
    · exact h1 (e.symm.trans h)
    · exact h2 (e.symm.trans h)
  refine ⟨StrsR.own (hrk h.vars (.inl rfl)) (Nat.le_refl _), FunsR.own (by rw [hfl]; exact hrk h.funs (.inr rfl)) h.fm fun x hx => (h.fi x hx).keep k hni, ?_⟩
  refine StmtsR.own2 (base := n1) (ss := ss ++ [x]) ?_ ?_ ?_
  · rw [List.flatMap_append, List.length_append, List.length_singleton, hsl]
    simpa using ho
  · rw [List.map_append, h.sm]; rfl
  · intro y hy
    rcases List.mem_append.1 hy with hy | hy
    · exact ((h.si y hy).keep k hni).1
    · obtain rfl := List.mem_singleton.1 hy
      exact hx
structure Bags (w : World) (base : Nat) (vs : List Value) (B : List (List Int)) : Prop where
  len : vs.length = B.length
  row : ∀ (i : Nat) v l, vs[i]? = some v → B[i]? = some l → IRow base w v l
  apart : ∀ (i j : Nat) v u b, i ≠ j → vs[i]? = some v → vs[j]? = some u → v.ownBlock = some b → ¬ u.ownBlock = some b
theorem Bags.nil (w : World) (base : Nat) : Bags w base [] [] := ⟨rfl, fun _ _ _ h => by simp at h, fun _ _ _ _ _ _ h => by simp at h⟩
theorem Bags.made {w : World} {base : Nat} {vs : List Value} {B : List (List Int)} (h : Bags w base vs B) : Made w vs B := ⟨h.len, fun i v l h1 h2 => IntsT.of_row (h.row i v l h1 h2)⟩
theorem Bags.keep {X : Nat → Prop} {w w' : World} {base : Nat} {vs : List Value} {B : List (List Int)} (h : Bags w base vs B) (k : Keep X w w') (hX : ∀ b, X b → ¬ IsInt w b) : Bags w' base vs B :=
  ⟨h.len, fun i v l h1 h2 => row_keep (h.row i v l h1 h2) k fun b hb hx => hX b hx (by
    obtain ⟨c, hc⟩ := own_ty (h.row i v l h1 h2) hb
    exact ⟨c, _, hc⟩), h.apart⟩
theorem Bags.ext {w w' : World} {base : Nat} {vs : List Value} {B : List (List Int)} (h : Bags w base vs B) (x : Ext w w') : Bags w' base vs B := h.keep (x.keep fun _ => False) fun _ h => h.elim
theorem Bags.push {w w' : World} {base : Nat} {vs : List Value} {B : List (List Int)} (h : Bags w base vs B) (x : Ext w w') {v : Value} {l : List Int} (hr : IRow base w' v l) (hn : ∀ b, v.ownBlock = some b → w.heap.size ≤ b) : Bags w' base (vs ++ [v]) (B ++ [l]) := by
  have hlt : ∀ (i : Nat) u b, vs[i]? = some u → u.ownBlock = some b → b < w.heap.size := fun i u b hu hb => by
    have hi : i < vs.length := by
      rcases Nat.lt_or_ge i vs.length with g | g
      · exact g
      · rw [List.getElem?_eq_none g] at hu; cases hu
    obtain ⟨m, hm⟩ : ∃ m, B[i]? = some m := ⟨_, List.getElem?_eq_getElem (by rw [← h.len]; exact hi)⟩
    exact (World.ownsRow.lt (h.row i u m hu hm) b hb).2
  have hat : ∀ (i : Nat) u, (vs ++ [v])[i]? = some u → (i < vs.length ∧ vs[i]? = some u) ∨ (i = vs.length ∧ u = v) := fun i u hu => by
    rcases Nat.lt_trichotomy i vs.length with g | g | g
    · rw [List.getElem?_append_left g] at hu
      exact .inl ⟨g, hu⟩
    · subst g
      rw [List.getElem?_concat_length] at hu
      exact .inr ⟨rfl, (Option.some.inj hu).symm⟩
    · rw [List.getElem?_eq_none (by rw [List.length_append, List.length_singleton]; omega)] at hu
      cases hu
  refine ⟨by rw [List.length_append, List.length_append, h.len]; rfl, fun i u m hu hm => ?_, fun i j u z b hij hu hz hb hz' => ?_⟩
  · rcases hat i u hu with ⟨hi, hu'⟩ | ⟨rfl, rfl⟩
    · rw [List.getElem?_append_left (by rw [← h.len]; exact hi)] at hm
      exact (h.ext x).row i u m hu' hm
    · rw [h.len, List.getElem?_concat_length] at hm
      obtain rfl := Option.some.inj hm
      exact hr
  · rcases hat i u hu with ⟨hi, hu'⟩ | ⟨hi, rfl⟩ <;> rcases hat j z hz with ⟨hj, hz''⟩ | ⟨hj, rfl⟩
    · exact h.apart i j u z b hij hu' hz'' hb hz'
    · have := hlt i u b hu' hb
      have := hn b hz'
      omega
    · have := hlt j z b hz'' hz'
      have := hn b hb
      omega
    · omega
theorem Bags.app {w w' : World} {base i : Nat} {vs : List Value} {B : List (List Int)} (h : Bags w base vs B) (hi : i < vs.length) {v v' : Value} {l' : List Int} (hv : vs[i]? = some v) (hr : IRow base w' v' l') (k : Keep (fun q => v.ownBlock = some q) w w') (hb : ∀ b, v'.ownBlock = some b → v.ownBlock = some b ∨ w.heap.size ≤ b) :
    Bags w' base (vs.set i v') (B.set i l') := by
  have hlt : ∀ (j : Nat) u b, vs[j]? = some u → u.ownBlock = some b → b < w.heap.size := fun j u b hu hb => by
    have hj : j < vs.length := by
      rcases Nat.lt_or_ge j vs.length with g | g
      · exact g
      · rw [List.getElem?_eq_none g] at hu; cases hu
    obtain ⟨m, hm⟩ : ∃ m, B[j]? = some m := ⟨_, List.getElem?_eq_getElem (by rw [← h.len]; exact hj)⟩
    exact (World.ownsRow.lt (h.row j u m hu hm) b hb).2
  have hoff : ∀ (j : Nat) u b, j ≠ i → vs[j]? = some u → v'.ownBlock = some b → ¬ u.ownBlock = some b := fun j u b hj hu hb' hu' => by
    rcases hb b hb' with g | g
    · exact h.apart i j v u b (fun e => hj e.symm) hv hu g hu'
    · have := hlt j u b hu hu'
      omega
  refine ⟨by rw [List.length_set, List.length_set, h.len], fun j u m hu hm => ?_, fun p q u z b hpq hu hz hb' hz' => ?_⟩
  · by_cases hj : i = j
    · subst hj
      rw [List.getElem?_set_self hi] at hu
      rw [List.getElem?_set_self (by rw [← h.len]; exact hi)] at hm
      obtain rfl := Option.some.inj hu
      obtain rfl := Option.some.inj hm
      exact hr
    · rw [List.getElem?_set_ne hj] at hu hm
      exact row_keep (h.row j u m hu hm) k fun b hb1 hb2 => h.apart i j v u b hj hv hu hb2 hb1
  · by_cases hp : i = p
    · subst hp
      rw [List.getElem?_set_self hi] at hu
      obtain rfl := Option.some.inj hu
      rw [List.getElem?_set_ne hpq] at hz
      exact hoff q z b (fun e => hpq e.symm) hz hb' hz'
    · rw [List.getElem?_set_ne hp] at hu
      by_cases hq : i = q
      · subst hq
        rw [List.getElem?_set_self hi] at hz
        obtain rfl := Option.some.inj hz
        exact hoff p u b hpq hu hz' hb'
      · rw [List.getElem?_set_ne hq] at hz
        exact h.apart p q u z b hpq hu hz hb' hz'
def trCells (l : List Bool) : List Value := l.map Value.bool
def TrRow (base : Nat) (w : World) (v : Value) (l : List Bool) : Prop := w.ownsRow base 4 1 v l.length (trCells l)
def IsB (w : World) (b : Nat) : Prop := ∃ c, Blk w b c 4
structure BBags (w : World) (base : Nat) (vs : List Value) (B : List (List Bool)) : Prop where
  len : vs.length = B.length
  row : ∀ (i : Nat) v l, vs[i]? = some v → B[i]? = some l → TrRow base w v l
  apart : ∀ (i j : Nat) v u b, i ≠ j → vs[i]? = some v → vs[j]? = some u → v.ownBlock = some b → ¬ u.ownBlock = some b
section
variable {w w' : World} {base : Nat} {vs : List Value} {B : List (List Bool)}
theorem BBags.nil (w : World) (base : Nat) : BBags w base [] [] := ⟨rfl, fun _ _ _ h => by simp at h, fun _ _ _ _ _ _ h => by simp at h⟩
theorem BBags.keep {X : Nat → Prop} (h : BBags w base vs B) (k : Keep X w w') (hX : ∀ b, X b → ¬ IsB w b) : BBags w' base vs B :=
  ⟨h.len, fun i v l h1 h2 => row_keep (h.row i v l h1 h2) k fun b hb hx => hX b hx (own_ty (h.row i v l h1 h2) hb), h.apart⟩
theorem BBags.ext (h : BBags w base vs B) (x : Ext w w') : BBags w' base vs B := h.keep (x.keep fun _ => False) fun _ h => h.elim
theorem BBags.at (h : BBags w base vs B) {i : Nat} (hi : i < B.length) : ∃ v l, vs[i]? = some v ∧ B[i]? = some l ∧ TrRow base w v l :=
  ⟨vs[i]'(by rw [h.len]; exact hi), B[i], List.getElem?_eq_getElem _, List.getElem?_eq_getElem _, h.row i _ _ (List.getElem?_eq_getElem _) (List.getElem?_eq_getElem _)⟩
theorem BBags.push (h : BBags w base vs B) (x : Ext w w') {v : Value} {l : List Bool} (hr : TrRow base w' v l) (hn : ∀ b, v.ownBlock = some b → w.heap.size ≤ b) : BBags w' base (vs ++ [v]) (B ++ [l]) := by
  have hlt : ∀ (i : Nat) u b, vs[i]? = some u → u.ownBlock = some b → b < w.heap.size := fun i u b hu hb => by
    have hi : i < vs.length := by
      rcases Nat.lt_or_ge i vs.length with g | g
      · exact g
      · rw [List.getElem?_eq_none g] at hu; cases hu
    obtain ⟨m, hm⟩ : ∃ m, B[i]? = some m := ⟨_, List.getElem?_eq_getElem (by rw [← h.len]; exact hi)⟩
    exact (World.ownsRow.lt (h.row i u m hu hm) b hb).2
  have hat : ∀ (i : Nat) u, (vs ++ [v])[i]? = some u → (i < vs.length ∧ vs[i]? = some u) ∨ (i = vs.length ∧ u = v) := fun i u hu => by
    rcases Nat.lt_trichotomy i vs.length with g | g | g
    · rw [List.getElem?_append_left g] at hu
      exact .inl ⟨g, hu⟩
    · subst g
      rw [List.getElem?_concat_length] at hu
      exact .inr ⟨rfl, (Option.some.inj hu).symm⟩
    · rw [List.getElem?_eq_none (by rw [List.length_append, List.length_singleton]; omega)] at hu
      cases hu
  refine ⟨by rw [List.length_append, List.length_append, h.len]; rfl, fun i u m hu hm => ?_, fun i j u z b hij hu hz hb hz' => ?_⟩
  · rcases hat i u hu with ⟨hi, hu'⟩ | ⟨rfl, rfl⟩
    · rw [List.getElem?_append_left (by rw [← h.len]; exact hi)] at hm
      exact (h.ext x).row i u m hu' hm
    · rw [h.len, List.getElem?_concat_length] at hm
      obtain rfl := Option.some.inj hm
      exact hr
  · rcases hat i u hu with ⟨hi, hu'⟩ | ⟨hi, rfl⟩ <;> rcases hat j z hz with ⟨hj, hz''⟩ | ⟨hj, rfl⟩
    · exact h.apart i j u z b hij hu' hz'' hb hz'
    · have := hlt i u b hu' hb
      have := hn b hz'
      omega
    · have := hlt j z b hz'' hz'
      have := hn b hb
      omega
    · omega
theorem BBags.set {i j g cap n : Nat} {l : List Bool} (h : BBags w base vs B) (hv : vs[i]? = some (.slice (some ⟨g, 0, none⟩) n cap)) (hl : B[i]? = some l) (hj : j < l.length) (x : Bool) :
    BBags (w.setCell ⟨g, j, none⟩ (.bool x)) base vs (B.set i (l.set j x)) := by
  have hi : i < B.length := by
    rcases Nat.lt_or_ge i B.length with k | k
    · exact k
    · rw [List.getElem?_eq_none k] at hl; cases hl
  have hk : Keep (fun q => q = g) w (w.setCell ⟨g, j, none⟩ (.bool x)) := (Keep.refl (fun q => q = g) w).set rfl _
  refine ⟨by rw [List.length_set]; exact h.len, fun p u m hu hm => ?_, h.apart⟩
  by_cases hp : i = p
  · subst hp
    rw [List.getElem?_set_self hi] at hm
    obtain rfl := Option.some.inj hm
    obtain rfl := Option.some.inj (hv.symm.trans hu)
    have hr := h.row i _ l hv hl
    unfold TrRow at hr ⊢
    obtain ⟨a', c', e'⟩ := row_form hr
    simp only [Value.slice.injEq] at e'
    obtain ⟨rfl, rfl, rfl⟩ := e'
    rw [List.length_set, show trCells (l.set j x) = (trCells l).set j (.bool x) by unfold trCells; rw [List.map_set]]
    exact own_set hr j (by unfold trCells; rw [List.length_map]; exact hj) _
  · rw [List.getElem?_set_ne hp] at hm
    exact row_keep (h.row p u m hu hm) hk fun b hb1 hb2 => h.apart i p _ u b hp hv hu (by subst hb2; rfl) hb1
end
def fCells (f : Int × Int) : List Value := [.int .i64 f.1, .int .i64 f.2]
def rowOf (f1 : Int → Option Value) (n : Int) : Value := (f1 n).getD (.slice none 0 0)
def seenF (l : List (Int × Int)) (e : Int × Int) : Option Value := if e ∈ l then some (.bool true) else none
def solvCells (a1 a2 a3 : Option Addr) (c1 c2 c3 : Nat) (P : PP) (vr vh : Value) (m1 m2 : Nat) (vw : Value) : Array Value :=
  #[.slice a1 P.vars.length c1, .slice a2 P.funs.length c2, .slice a3 P.stmts.length c3, vr, vh, .map (some m1), .map (some m2), .slice none 0 0, vw]
theorem KMap.not_blk {κ : Type} [DecidableEq κ] {Q : Program} {kt : TypeId} {enc : κ → Value} {w : World} {b : Nat} {f : κ → Option Value} (h : KMap Q kt enc w b f) {c : Array Value} {e : TypeId} : ¬ Blk w b c e := fun hb => h.ne hb rfl
theorem own_off {w w' : World} {base : Nat} {e : TypeId} {size n : Nat} {v : Value} {xs : List Value} {X : Nat → Prop} (h : w.ownsRow base e size v n xs) (k : Keep X w w') (hX : ∀ b, X b → ¬ ∃ c, Blk w b c e) : w'.ownsRow base e size v n xs :=
  row_keep h k fun b hb hx => hX b hx (own_ty h hb)
theorem OwnsQ.off {w w' : World} {base : Nat} {e : TypeId} {size n : Nat} {v : Value} {xs : List Value} {X : Nat → Prop} (h : OwnsQ w base e size v n xs) (k : Keep X w w') (hX : ∀ b, X b → ¬ ∃ c, Blk w b c e) : OwnsQ w' base e size v n xs :=
  h.keep k fun b hb hx => hX b hx (h.ty hb).2
theorem off_of {w : World} {b : Nat} {c : Array Value} {e e' : TypeId} (h : Blk w b c e) (hne : e ≠ e') : ¬ ∃ c, Blk w b c e' := by
  rintro ⟨c', h'⟩
  have := h.symm.trans h'
  simp at this
  exact hne this.2
section
variable {w w' : World} {G F : Nat → Prop} {g : Nat} {ad : Nat → Addr} {a1 a2 a3 : Option Addr} {c1 c2 c3 : Nat} {P : PP} {vr : Value} {rs : List R2} {vh : Value} {hs : List Value} {m1 m2 : Nat} {f1 : Int → Option Value} {vw : Value} {s : SV}
end
def objsUp (l : List Bool) (k : Nat) : List Int := ((List.range k).filter fun o => l.getD o false).map fun o : Nat => (o : Int)
end Go.Proofs.YtngdpnlgnpdkcaaGreatDoor
