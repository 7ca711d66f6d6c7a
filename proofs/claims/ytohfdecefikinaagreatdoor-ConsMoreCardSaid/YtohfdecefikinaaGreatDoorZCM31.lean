/- Texts of one proof, put together: YH YK YL YR. -/
import Derived.Test.YtohfdecefikinaaGreatDoorZCM30
import Derived.Test.YtohfdecefikinaaGreatDoorProg
import Derived.Shelf.SlSortCmp.NoneTotal

/- How many edges a program has at most. -/
namespace Go.Proofs.YtohfdecefikinaaGreatDoor
set_option linter.unusedSimpArgs false
set_option linter.unusedVariables false
open Go Go.RowKit

theorem srt_lt {l : List Int} {M : Nat} (h : chkE l = 0) (hm : ∀ x ∈ l, x < (M : Int)) (hM : M ≤ 1000) : l.length ≤ M := by
  obtain ⟨h1, h2⟩ := chkE_zero.1 h
  rw [← sset_self h2 h1]
  unfold sset
  rw [List.length_map]
  have e : List.range 1000 = List.range M ++ (List.range (1000 - M)).map (M + ·) := by
    rw [← List.range_add]; congr 1; omega
  have e2 : ((List.range (1000 - M)).map (M + ·)).filter (fun n : Nat => decide ((n : Int) ∈ l)) = [] := by
    rw [List.filter_eq_nil_iff]
    intro n hn hd
    obtain ⟨j, _, rfl⟩ := List.mem_map.1 hn
    have := hm _ (of_decide_eq_true hd)
    omega
  rw [e, List.filter_append, e2, List.append_nil]
  have := List.length_filter_le (fun n : Nat => decide ((n : Int) ∈ l)) (List.range M)
  rw [List.length_range] at this
  exact this
theorem flatMap_len {α β : Type} (f : α → List β) (c : Nat) : ∀ l : List α, (∀ x ∈ l, (f x).length ≤ c) → (l.flatMap f).length ≤ l.length * c
  | [], _ => Nat.zero_le _
  | x :: r, h => by
    have h1 := h x List.mem_cons_self
    have h2 := flatMap_len f c r fun y hy => h y (List.mem_cons_of_mem _ hy)
    rw [List.flatMap_cons, List.length_append, List.length_cons, Nat.add_mul]
    omega
theorem calledV_len (f : PF) (r : RV) : (calledV f r).length ≤ r.args.length + 1 := by
  unfold calledV
  split
  · rw [List.length_cons, List.length_zip]; omega
  · exact Nat.zero_le _
theorem callsOf_len (P : PP) (r : RV) (o : Int) : (P.callsOf r o).length ≤ r.args.length + 1 := by
  unfold PP.callsOf
  split
  · exact calledV_len _ _
  · exact Nat.zero_le _
theorem getD_len {has : List (List Int)} {M : Nat} (h : ∀ l ∈ has, l.length ≤ M) (i : Nat) : (has.getD i []).length ≤ M := by
  rw [List.getD_eq_getElem?_getD]
  cases he : has[i]? with
  | none => exact Nat.zero_le _
  | some l => exact h l (List.mem_of_getElem? he)
theorem redges_len (P : PP) (r : RV) (has : List (List Int)) (M : Nat) (h : ∀ l ∈ has, l.length ≤ M) (ha : r.args.length ≤ 3) : (P.redges r has).length ≤ M * 4 + 1 := by
  unfold PP.redges
  cases r.kind.toList == kCopy
  · cases r.kind.toList == kLoad
    · cases r.kind.toList == kStore
      · cases r.kind.toList == kCall
        · exact Nat.zero_le _
        · simp only [cond_true, cond_false]
          have h1 := flatMap_len (P.callsOf r) 4 (has.getD r.a.toNat []) fun o _ => by have := callsOf_len P r o; omega
          have h2 := getD_len h r.a.toNat
          omega
      · simp only [cond_true, cond_false, List.length_map]
        have h1 := List.length_filter_le (fun x => !decide ((P.nodesV : Int) ≤ x)) (has.getD r.b.toNat [])
        have h2 := getD_len h r.b.toNat
        unfold PP.nodesOf
        omega
    · simp only [cond_true, cond_false, List.length_map]
      have h1 := List.length_filter_le (fun x => !decide ((P.nodesV : Int) ≤ x)) (has.getD r.a.toNat [])
      have h2 := getD_len h r.a.toNat
      unfold PP.nodesOf
      omega
  · simp only [cond_true, List.length_cons, List.length_nil]; omega
theorem ruleV_few {P : PP} (hw : P.Well) {k : Nat} (hk : k < P.stmts.length) : (P.ruleV k (P.stAt k)).args.length ≤ 3 := by
  have h0 := hw.2 k (P.stAt k) hk (stAt_some hk)
  unfold PP.ruleV
  cases (P.stAt k).isK kAddr
  · cases (P.stAt k).isK kNew
    · cases (P.stAt k).isK kFun
      · cases hc : (P.stAt k).isK kCall
        · exact Nat.zero_le _
        · exact call_few h0 hc
      · exact Nat.zero_le _
    · exact Nat.zero_le _
  · exact Nat.zero_le _
theorem rulesUp_len {P : PP} {has : List (List Int)} (hw : P.Well) (hs : SetsOk P has) (k : Nat) (hk : k ≤ P.stmts.length) : ((P.rulesUp k).flatMap fun r => P.redges r has).length ≤ 50000 := by
  obtain ⟨f1, f2, f3⟩ := hw.few
  have hn := P.newsN_le P.stmts.length
  have hM : ∀ l ∈ has, l.length ≤ 126 := fun l hl => by
    have := srt_lt (M := P.objectsV) (hs.ok l hl).1 (hs.ok l hl).2 (by unfold PP.objectsV PP.nodesV; omega)
    unfold PP.objectsV PP.nodesV at this
    omega
  have h1 := flatMap_len (fun r => P.redges r has) (126 * 4 + 1) (P.rulesUp k) fun r hr => by
    unfold PP.rulesUp at hr
    obtain ⟨j, hj, rfl⟩ := List.mem_map.1 hr
    exact redges_len P _ has 126 hM (ruleV_few hw (by have := List.mem_range.1 hj; omega))
  have h2 : (P.rulesUp k).length = k := by unfold PP.rulesUp; rw [List.length_map, List.length_range]
  rw [h2] at h1
  omega
theorem edges0_len {P : PP} {has : List (List Int)} (hw : P.Well) (hs : SetsOk P has) : (P.edges0 has).length ≤ 50000 := rulesUp_len hw hs _ (Nat.le_refl _)
end Go.Proofs.YtohfdecefikinaaGreatDoor


/- Edges of a well program are of its nodes. -/
namespace Go.Proofs.YtohfdecefikinaaGreatDoor
set_option linter.unusedSimpArgs false
set_option linter.unusedVariables false
open Go Go.RowKit

/-- Both ends are nodes. -/
def PP.InN (P : PP) (e : Int × Int) : Prop := 0 ≤ e.1 ∧ e.1 < P.nodesV ∧ 0 ≤ e.2 ∧ e.2 < P.nodesV
theorem nodes_in {P : PP} {has : List (List Int)} (hs : SetsOk P has) (i : Nat) (o : Int) (ho : o ∈ P.nodesOf (has.getD i [])) : 0 ≤ o ∧ o < (P.nodesV : Int) := by
  unfold PP.nodesOf at ho
  obtain ⟨h1, h2⟩ := List.mem_filter.1 ho
  have h3 : o < (P.nodesV : Int) := by simpa using h2
  rw [List.getD_eq_getElem?_getD] at h1
  cases he : has[i]? with
  | none => rw [he] at h1; cases h1
  | some l => rw [he] at h1; exact ⟨(hs.inr l (List.mem_of_getElem? he) o h1).1, h3⟩
theorem called_in {P : PP} (hw : P.Well) {f : PF} (hf : f ∈ P.funs) {r : RV} (hb : 0 ≤ r.b ∧ r.b < P.nodesV) (ha : ∀ a ∈ r.args, 0 ≤ a ∧ a < (P.nodesV : Int)) : ∀ e ∈ calledV f r, P.InN e := by
  intro e he
  have g := PP.goodF (PP.funs_ok hw.1) hf
  have hnv := nodes_vars P
  unfold calledV at he
  split at he
  · rcases List.mem_cons.1 he with rfl | he
    · have := g.ret
      exact ⟨this.1, by show f.ret < _; omega, hb.1, hb.2⟩
    · obtain ⟨a, b⟩ := e
      obtain ⟨h1, h2⟩ := List.of_mem_zip he
      have p1 := ha a h1
      have p2 := g.params b h2
      exact ⟨p1.1, p1.2, p2.1, by show b < _; omega⟩
  · cases he
set_option maxRecDepth 100000 in
theorem redges_in {P : PP} {has : List (List Int)} (hw : P.Well) (hs : SetsOk P has) {k : Nat} (hk : k < P.stmts.length) : ∀ e ∈ P.redges (P.ruleV k (P.stAt k)) has, P.InN e := by
  have h0 := hw.2 k (P.stAt k) hk (stAt_some hk)
  have hg := PP.good h0
  have hnv := nodes_vars P
  obtain ⟨x, hx⟩ : ∃ x, x = P.stAt k := ⟨_, rfl⟩
  rw [← hx] at h0 hg ⊢
  have hgx := hg.gx
  rcases kind_cases h0 with g | g | g | g | g | g | g
  · rw [redges_nil (by unfold PP.ruleV; rw [g]; rfl)]
    intro e he; cases he
  · have e : P.ruleV k x = ⟨x.kind, x.y, x.x, k, []⟩ := by unfold PP.ruleV; rw [isK_ne g (k' := kAddr) rfl, isK_ne g (k' := kNew) rfl, isK_ne g (k' := kFun) rfl, isK_ne g (k' := kCall) rfl]; rfl
    have hy := hg.yv (isK_ne g (k' := kFun) rfl) (isK_ne g (k' := kNew) rfl)
    have h2 : (x.kind.toList == kCopy) = true := g
    rw [e]
    unfold PP.redges
    dsimp only
    rw [h2, cond_true]
    intro e he
    obtain rfl := List.mem_singleton.1 he
    exact ⟨hy.1, by show x.y < _; omega, hgx.1, by show x.x < _; omega⟩
  · have e : P.ruleV k x = ⟨x.kind, x.y, x.x, k, []⟩ := by unfold PP.ruleV; rw [isK_ne g (k' := kAddr) rfl, isK_ne g (k' := kNew) rfl, isK_ne g (k' := kFun) rfl, isK_ne g (k' := kCall) rfl]; rfl
    have h1 : (x.kind.toList == kCopy) = false := isK_ne g (k' := kCopy) rfl
    have h2 : (x.kind.toList == kLoad) = true := g
    rw [e]
    unfold PP.redges
    dsimp only
    rw [h1, h2, cond_true, cond_false]
    intro e he
    obtain ⟨o, ho, rfl⟩ := List.mem_map.1 he
    have := nodes_in hs _ o ho
    exact ⟨this.1, this.2, hgx.1, by show x.x < _; omega⟩
  · have e : P.ruleV k x = ⟨x.kind, x.y, x.x, k, []⟩ := by unfold PP.ruleV; rw [isK_ne g (k' := kAddr) rfl, isK_ne g (k' := kNew) rfl, isK_ne g (k' := kFun) rfl, isK_ne g (k' := kCall) rfl]; rfl
    have hy := hg.yv (isK_ne g (k' := kFun) rfl) (isK_ne g (k' := kNew) rfl)
    have h1 : (x.kind.toList == kCopy) = false := isK_ne g (k' := kCopy) rfl
    have h3 : (x.kind.toList == kLoad) = false := isK_ne g (k' := kLoad) rfl
    have h2 : (x.kind.toList == kStore) = true := g
    rw [e]
    unfold PP.redges
    dsimp only
    rw [h1, h2, h3, cond_true, cond_false, cond_false]
    intro e he
    obtain ⟨o, ho, rfl⟩ := List.mem_map.1 he
    have := nodes_in hs _ o ho
    exact ⟨hy.1, by show x.y < _; omega, this.1, this.2⟩
  · rw [redges_nil (by unfold PP.ruleV; rw [isK_ne g (k' := kAddr) rfl, g]; rfl)]
    intro e he; cases he
  · rw [redges_nil (by unfold PP.ruleV; rw [isK_ne g (k' := kAddr) rfl, isK_ne g (k' := kNew) rfl, g]; rfl)]
    intro e he; cases he
  · have e : P.ruleV k x = ⟨bCall, x.y, x.x, k, x.args⟩ := by unfold PP.ruleV; rw [isK_ne g (k' := kAddr) rfl, isK_ne g (k' := kNew) rfl, isK_ne g (k' := kFun) rfl, g]; rfl
    have hkd := eq_of_beq bCall_list
    rw [e]
    unfold PP.redges kCopy kLoad kStore kCall
    dsimp only
    rw [hkd]
    intro e he
    obtain ⟨o, _, ho⟩ := List.mem_flatMap.1 (show e ∈ (has.getD x.y.toNat []).flatMap (P.callsOf ⟨bCall, x.y, x.x, k, x.args⟩) from he)
    unfold PP.callsOf at ho
    split at ho
    · rename_i hF
      have hlt := funV_lt hF
      have hn : (P.funV o).toNat < P.funs.length := by omega
      rw [List.getD_eq_getElem?_getD, List.getElem?_eq_getElem hn] at ho
      exact called_in hw (List.getElem_mem hn) (r := ⟨bCall, x.y, x.x, k, x.args⟩) ⟨hgx.1, by show x.x < _; omega⟩ (fun a ha => by have := hg.args a ha; omega) e ho
    · cases ho
theorem edges0_in {P : PP} {has : List (List Int)} (hw : P.Well) (hs : SetsOk P has) : ∀ e ∈ P.edges0 has, P.InN e := by
  intro e he
  unfold PP.edges0 PP.rulesV PP.rulesUp at he
  obtain ⟨r, hr, he⟩ := List.mem_flatMap.1 he
  obtain ⟨k, hk, rfl⟩ := List.mem_map.1 hr
  exact redges_in hw hs (List.mem_range.1 hk) e he
theorem nodesV_le (P : PP) (hw : P.Well) : P.nodesV ≤ 120 := by
  have := hw.few
  have := P.nodesV_le2
  omega
/-- The edges of a program: pairs of two, in order, each once. -/
structure EdgesAre (P : PP) (has : List (List Int)) (l : List (Int × Int)) : Prop where
  srt : SrtP l
  mem : ∀ e, e ∈ l ↔ e ∈ P.edges0 has ∧ e.1 ≠ e.2
theorem EdgesAre.uniq {P : PP} {has : List (List Int)} {a b : List (Int × Int)} (h : EdgesAre P has a) (k : EdgesAre P has b) : a = b :=
  srtP_uniq h.srt k.srt fun e => (h.mem e).trans (k.mem e).symm
end Go.Proofs.YtohfdecefikinaaGreatDoor


/- The contracts of slices.SortFunc, laid at the numbers of this seat (written by the shelf's tool). -/
namespace Go.Proofs
open Go.Shelf
def Tryz.sortE_ren : Go.Shelf.Ren := ⟨fun | 6 => 40 | 15 => 70 | 14 => 69 | 28 => 100 | 29 => 101 | 20 => 92 | 21 => 93 | 22 => 94 | 23 => 95 | 24 => 96 | 25 => 97 | 26 => 98 | 27 => 99 | 46 => 111 | 47 => 112 | 48 => 113 | 49 => 114 | 50 => 115 | 57 => 132 | n => n, fun | 22 => 49 | 24 => 58 | 25 => 87 | 3 => 3 | 39 => 113 | 0 => 0 | 53 => 146 | 55 => 148 | 4 => 4 | 46 => 139 | 45 => 138 | 50 => 143 | 5 => 5 | 9 => 9 | 66 => 170 | 70 => 174 | 76 => 189 | 77 => 78 | n => n, fun | n => n⟩
theorem Tryz.sortE : Go.Proofs.SlLaysF0.n6 Tryz.prog Tryz.sortE_ren := {
  mixed := by kernel_rfl
  f6 := ⟨Tryz.f40.name, by decide, Tryz.func40.trans (congrArg some (by kernel_rfl))⟩
  f14 := ⟨Tryz.f69.name, by decide, Tryz.func69.trans (congrArg some (by kernel_rfl))⟩
  f15 := Tryz.func70.trans (congrArg some (by kernel_rfl))
  f20 := ⟨Tryz.f92.name, by decide, Tryz.func92.trans (congrArg some (by kernel_rfl))⟩
  f21 := ⟨Tryz.f93.name, by decide, Tryz.func93.trans (congrArg some (by kernel_rfl))⟩
  f22 := ⟨Tryz.f94.name, by decide, Tryz.func94.trans (congrArg some (by kernel_rfl))⟩
  f23 := ⟨Tryz.f95.name, by decide, Tryz.func95.trans (congrArg some (by kernel_rfl))⟩
  f24 := ⟨Tryz.f96.name, by decide, Tryz.func96.trans (congrArg some (by kernel_rfl))⟩
  f25 := ⟨Tryz.f97.name, by decide, Tryz.func97.trans (congrArg some (by kernel_rfl))⟩
  f26 := ⟨Tryz.f98.name, by decide, Tryz.func98.trans (congrArg some (by kernel_rfl))⟩
  f27 := ⟨Tryz.f99.name, by decide, Tryz.func99.trans (congrArg some (by kernel_rfl))⟩
  f28 := Tryz.func100.trans (congrArg some (by kernel_rfl))
  f29 := Tryz.func101.trans (congrArg some (by kernel_rfl))
  f46 := ⟨Tryz.f111.name, by decide, Tryz.func111.trans (congrArg some (by kernel_rfl))⟩
  f47 := Tryz.func112.trans (congrArg some (by kernel_rfl))
  f48 := Tryz.func113.trans (congrArg some (by kernel_rfl))
  f49 := ⟨Tryz.f114.name, by decide, Tryz.func114.trans (congrArg some (by kernel_rfl))⟩
  f50 := ⟨Tryz.f115.name, by decide, Tryz.func115.trans (congrArg some (by kernel_rfl))⟩
  f57 := ⟨Tryz.f132.name, by decide, Tryz.func132.trans (congrArg some (by kernel_rfl))⟩
  t0 := Tryz.underlying0
  a0 := Tryz.isAgg0
  z0 := Tryz.sizeOf0
  v0 := Tryz.zeroValue0
  t3 := Tryz.underlying3
  a3 := Tryz.isAgg3
  z3 := Tryz.sizeOf3
  v3 := Tryz.zeroValue3
  t4 := Tryz.underlying4
  a4 := Tryz.isAgg4
  z4 := Tryz.sizeOf4
  v4 := Tryz.zeroValue4
  t5 := Tryz.underlying5
  a5 := Tryz.isAgg5
  z5 := Tryz.sizeOf5
  v5 := Tryz.zeroValue5
  t9 := Tryz.underlying9
  a9 := Tryz.isAgg9
  z9 := Tryz.sizeOf9
  v9 := Tryz.zeroValue9
  t22 := Tryz.underlying49
  a22 := Tryz.isAgg49
  z22 := Tryz.sizeOf49
  v22 := Tryz.zeroValue49
  t25 := Tryz.underlying87
  a25 := Tryz.isAgg87
  z25 := Tryz.sizeOf87
  v25 := Tryz.zeroValue87
  t39 := Tryz.underlying113
  a39 := Tryz.isAgg113
  z39 := Tryz.sizeOf113
  v39 := Tryz.zeroValue113
  t45 := Tryz.underlying138
  a45 := Tryz.isAgg138
  z45 := Tryz.sizeOf138
  v45 := Tryz.zeroValue138
  t46 := Tryz.underlying139
  a46 := Tryz.isAgg139
  z46 := Tryz.sizeOf139
  v46 := Tryz.zeroValue139
  t50 := Tryz.underlying143
  a50 := Tryz.isAgg143
  z50 := Tryz.sizeOf143
  v50 := Tryz.zeroValue143
  t53 := Tryz.underlying146
  a53 := Tryz.isAgg146
  z53 := Tryz.sizeOf146
  v53 := Tryz.zeroValue146
  t55 := Tryz.underlying148
  a55 := Tryz.isAgg148
  z55 := Tryz.sizeOf148
  v55 := Tryz.zeroValue148
  t66 := Tryz.underlying170
  a66 := Tryz.isAgg170
  z66 := Tryz.sizeOf170
  v66 := Tryz.zeroValue170
  t70 := Tryz.underlying174
  a70 := Tryz.isAgg174
  z70 := Tryz.sizeOf174
  v70 := Tryz.zeroValue174
  t76 := Tryz.underlying189
  a76 := Tryz.isAgg189
  z76 := Tryz.sizeOf189
  v76 := Tryz.zeroValue189
  t77 := Tryz.underlying78
  a77 := Tryz.isAgg78
  z77 := Tryz.sizeOf78
  v77 := Tryz.zeroValue78 }
end Go.Proofs


/- slices.SortFunc over edges, in order of both numbers. -/
namespace Go.Proofs.YtohfdecefikinaaGreatDoor
set_option linter.unusedSimpArgs false
set_option linter.unusedVariables false
open Go Go.RowKit Go.Sort

/-- An edge of numbers from 0 to below 1000. -/
def InE (e : Int × Int) : Prop := 0 ≤ e.1 ∧ e.1 < 1000 ∧ 0 ≤ e.2 ∧ e.2 < 1000
abbrev SE := { e : Int × Int // InE e }
instance : Inhabited SE := ⟨⟨(0, 0), by unfold InE; omega⟩⟩
def seCells (x : SE) : List Value := eCells x.1
def seCmp (x y : SE) : Int := eCmp x.1 y.1
theorem eCmp_lt (a b : Int × Int) : eCmp a b < 0 ↔ lexLt a b := by
  unfold eCmp lexLt
  split <;> omega
theorem ltOf_se (x y : SE) : ltOf seCmp x y = true ↔ lexLt x.1 y.1 := by
  unfold ltOf seCmp
  rw [decide_eq_true_iff, eCmp_lt]
theorem ltOf_se_no (x y : SE) : ltOf seCmp x y = false ↔ ¬ lexLt x.1 y.1 := by
  rw [← ltOf_se, Bool.not_eq_true]
theorem se_swo : SWO (ltOf seCmp) where
  irrefl x := (ltOf_se_no x x).2 (lexLt.irr _)
  trans x y z h k := (ltOf_se x z).2 (((ltOf_se x y).1 h).trans ((ltOf_se y z).1 k))
  ntrans x y z h k := by
    rw [ltOf_se_no] at *
    unfold lexLt at *
    omega
theorem se_tot (x y : SE) (h : ltOf seCmp x y = false) (k : ltOf seCmp y x = false) : x = y := by
  rw [ltOf_se_no] at h k
  rcases lexLt.tri x.1 y.1 with g | g | g
  · exact absurd g h
  · exact Subtype.ext g
  · exact absurd g k
theorem se_of : ∀ l : List (Int × Int), (∀ e ∈ l, InE e) → ∃ d : List SE, d.map (·.1) = l
  | [], _ => ⟨[], rfl⟩
  | e :: l, h => by
    obtain ⟨d, hd⟩ := se_of l fun x hx => h x (List.mem_cons_of_mem _ hx)
    exact ⟨⟨e, h e List.mem_cons_self⟩ :: d, by rw [List.map_cons, hd]⟩
theorem flat_se (d : List SE) : (flatK seCells 2 d.toArray).toList = (d.map (·.1)).flatMap eCells := by
  apply List.ext_getElem?
  intro t
  have hlen : ((d.map (·.1)).flatMap eCells).length = d.length * 2 := by rw [fm_len eCells 2 eCells_len, List.length_map]
  by_cases ht : t < d.length * 2
  · have hi : t / 2 < d.length := by omega
    have e1 : ((d.map (·.1)).flatMap eCells)[t / 2 * 2 + t % 2]? = (eCells (d[t / 2]'hi).1)[t % 2]? := fm_get eCells 2 eCells_len _ _ _ _ (by rw [List.getElem?_map, List.getElem?_eq_getElem hi]; rfl) (by omega)
    rw [show t / 2 * 2 + t % 2 = t by omega] at e1
    rw [e1, Array.getElem?_toList]
    have e2 := get_flatK seCells 2 d.toArray t (by simpa using ht)
    rw [getElem!_pos (flatK seCells 2 d.toArray) t (by simpa using ht)] at e2
    rw [Array.getElem?_eq_getElem (by simpa using ht), e2]
    have e3 : d.toArray[t / 2]! = d[t / 2]'hi := by simp [getElem!_pos, hi]
    rw [e3]
    have hm : t % 2 < (seCells (d[t / 2]'hi)).length := by
      have : (seCells (d[t / 2]'hi)).length = 2 := rfl
      omega
    rw [getElem!_pos (seCells (d[t / 2]'hi)) (t % 2) hm]
    exact (List.getElem?_eq_getElem hm).symm
  · rw [List.getElem?_eq_none (by rw [Array.length_toList, size_flatK]; simp; omega), List.getElem?_eq_none (by rw [hlen]; omega)]
theorem putF_at {w : World} {g q : Nat} {cur : Array Value} {t : TypeId} {F : Array Value} {os : Array Obj} (hb : Blk w g cur t) :
    Blk (grow (putRow id (Sort.ahead w q) g 0 F) os) g (putCells id 0 F cur) t ∧ Keep (fun b => b = g) w (grow (putRow id (Sort.ahead w q) g 0 F) os) := by
  have hlt := hb.lt
  have hh : ∀ k, k < w.heap.size → (grow (putRow id (Sort.ahead w q) g 0 F) os).heap[k]? = (w.heap.modify g (onCells (putCells id 0 F)))[k]? := fun k hk => by
    unfold grow putRow mapBlock Sort.ahead
    simp only
    rw [Array.getElem?_append_left (by simpa using hk)]
  constructor
  · unfold Blk
    rw [hh g hlt, Array.getElem?_modify, if_pos rfl]
    have : w.heap[g]? = some (.cells cur t (0, 0)) := hb
    rw [this]
    rfl
  · refine ⟨rfl, rfl, rfl, ?_, fun k hk hx => ?_⟩
    · unfold grow putRow mapBlock Sort.ahead
      simp
    · rw [hh k hk, Array.getElem?_modify, if_neg (fun e => hx e.symm)]
theorem putF_cells (F cur : Array Value) (hc : F.size ≤ cur.size) : (putCells id 0 F cur).toList.take F.size = F.toList := by
  apply List.ext_getElem?
  intro i
  rw [List.getElem?_take]
  by_cases hi : i < F.size
  · rw [if_pos hi, Array.getElem?_toList, Array.getElem?_toList]
    unfold putCells
    rw [Array.getElem?_mapIdx, Array.getElem?_eq_getElem (by omega), Array.getElem?_eq_getElem hi]
    simp only [Option.map_some, Nat.zero_le, true_and, Nat.zero_add, Nat.sub_zero]
    rw [if_pos hi]
    simp [getElem!_pos, hi]
  · rw [if_neg hi, List.getElem?_eq_none (by rw [Array.length_toList]; omega)]
theorem esort_le (d : List SE) : ((d.mergeSort fun x y => !(ltOf seCmp) y x).map (·.1)).Pairwise lexLe := by
  have h := List.pairwise_mergeSort (le := fun x y : SE => !(ltOf seCmp) y x) (fun a b c h1 h2 => by
    simp only [Bool.not_eq_true', ltOf_se_no] at h1 h2 ⊢
    unfold lexLt at *
    omega) (fun a b => by
    simp only [Bool.or_eq_true, Bool.not_eq_true', ltOf_se_no]
    unfold lexLt
    omega) d
  rw [List.pairwise_map]
  refine h.imp fun {a b} g => ?_
  simp only [Bool.not_eq_true', ltOf_se_no] at g
  rcases lexLt.tri a.1 b.1 with k | k | k
  · exact .inl k
  · exact .inr k
  · exact absurd k g

set_option maxRecDepth 100000 in
set_option maxHeartbeats 1600000 in
theorem esort_any (lv : Value) (l : List (Int × Int)) (hin : ∀ e ∈ l, InE e) (w0 w : World) (n0 : Nat) (hx0 : Ext w0 w) (hb0 : w0.heap.size ≤ n0) (hr : ERow n0 w lv l) (hfew : l.length ≤ 100000) :
    Calls Tryz.prog 40 #[lv, .func (.func 41) #[] #[]] w fun e w' => e = .returned (.tuple #[]) ∧ ∃ l', ERow n0 w' lv l' ∧ l'.length = l.length ∧ (∀ x, x ∈ l' ↔ x ∈ l) ∧ l'.Pairwise lexLe ∧ Ext w0 w' := by
  by_cases h0 : l.length = 0
  · obtain rfl := List.eq_nil_of_length_eq_zero h0
    obtain ⟨a, c, rfl⟩ := row_form hr
    refine (AnyF.slices_SortFunc_none Tryz.sortE a c (.func (.func 41) #[] #[]) w).mono ?_
    rintro e w' ⟨rfl, rfl⟩
    exact ⟨rfl, [], hr, rfl, fun x => Iff.rfl, List.Pairwise.nil, hx0⟩
  · obtain ⟨g, cap, rfl⟩ := own_some hr (by omega)
    obtain ⟨d, rfl⟩ := se_of l hin
    obtain ⟨cur, hb, hbase, hcap, hmx, hcs, htk⟩ := own_blk hr
    have hH : HoldsK seCells 2 w g 0 d.toArray := fun j hj => by
      have hj2 : j < d.length * 2 := by simpa using hj
      rw [Nat.zero_add]
      refine ⟨own_get hr j ?_, own_free hr j⟩
      rw [← flat_se, Array.getElem?_toList, Array.getElem?_eq_getElem hj, getElem!_pos (flatK seCells 2 d.toArray) j hj]
      rfl
    have hC : CmpLays Tryz.prog 41 #[] seCells 2 seCmp g 0 d.toArray.size w := fun m os dk hs x y => by
      have h := consedgesc2_grow x.1 y.1 (sortWorldK seCells 2 w g 0 m dk os) x.2 y.2
      refine h.mono ?_
      rintro e w' ⟨rfl, os', rfl⟩
      exact ⟨rfl, 0, os', rfl⟩
    have hS := AnyQ.slices_SortFunc_total Tryz.sortE 2 Tryz.isAgg58 Tryz.sizeOf58 seCells (fun _ => rfl) (fun x v hv => eCells_one (E := [x.1]) v (by simpa [seCells] using hv)) seCmp se_swo 41 #[] g 0 cap d.toArray w (fun args w => by kernel_rfl) hC hH hb.lt (by simp at hfew ⊢; omega) se_tot
    have hsz : d.toArray.size = (d.map (·.1)).length := by simp
    rw [hsz] at hS
    refine hS.mono ?_
    rintro e w' ⟨rfl, q, os, rfl⟩
    obtain ⟨d', hd'⟩ : ∃ d', d' = d.mergeSort fun x y => !(ltOf seCmp) y x := ⟨_, rfl⟩
    have hp : d'.Perm d := by rw [hd']; exact List.mergeSort_perm _ _
    have hle := esort_le d
    rw [← hd'] at hle
    obtain ⟨p1, p2⟩ := putF_at (q := q) (F := flatK seCells 2 d'.toArray) (os := os) hb
    have hFs : (flatK seCells 2 d'.toArray).size = (d.map (·.1)).length * 2 := by rw [size_flatK]; simp [hp.length_eq]
    have hw : sortWorldK seCells 2 w g 0 q (d.toArray.toList.mergeSort fun x y => !(ltOf seCmp) y x).toArray os = grow (putRow id (Sort.ahead w q) g 0 (flatK seCells 2 d'.toArray)) os := by rw [hd']; rfl
    rw [hw]
    have hlen : (d'.map (·.1)).length = (d.map (·.1)).length := by simp [hp.length_eq]
    refine ⟨rfl, d'.map (·.1), ?_, hlen, fun x => (hp.map _).mem_iff, hle, Keep.new hx0 p2 fun b e => by rw [e]; exact Nat.le_trans hb0 hbase⟩
    unfold ERow
    rw [hlen]
    refine own_of_blk p1 hbase hcap hmx (by unfold putCells; rw [Array.size_mapIdx]; exact hcs) ?_
    rw [← hFs, putF_cells _ _ (by rw [hFs, hcs]; exact Nat.mul_le_mul_right _ hcap), flat_se]
end Go.Proofs.YtohfdecefikinaaGreatDoor
