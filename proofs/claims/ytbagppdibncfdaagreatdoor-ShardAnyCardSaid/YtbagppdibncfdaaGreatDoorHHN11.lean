/- Texts of one proof, put together: Y4 Y5 Y6 Y7 Y8 Y9 YA YP YQ YK S3 S4 YB YN YM YG YC YD YE YF YH YL YR YI S5 YW YJ Z1 Z2 Z3. -/
import Derived.Test.YtbagppdibncfdaaGreatDoorHHN04
import Derived.Test.YtbagppdibncfdaaGreatDoorHHN09
import Derived.Test.YtbagppdibncfdaaGreatDoorHHN10
import Derived.Lib.SlicesCompact
import Derived.Lib.AppendZeros
import Derived.Sort.Grow
import Derived.Deep.Draws
import Derived.Laws.StructEq
import Derived.Test.YtbagppdibncfdaaGreatDoorProg
import Derived.Shelf.SlSortCmp.NoneTotal
import Derived.Test.YtbagppdibncfdaaGreatDoorHHN01
set_option linter.unusedSimpArgs false
set_option linter.unusedVariables false
namespace Go.Proofs.YtbagppdibncfdaaGreatDoor
open Go Go.RowKit
structure R2 where
  r : RV
  v : Value
def R2.cells (x : R2) : List Value := [.string x.r.kind, .int .i64 x.r.a, .int .i64 x.r.b, .int .i64 x.r.k, x.v]
theorem R2.cells_len (x : R2) : x.cells.length = 5 := rfl
structure RulesT (w : World) (base : Nat) (v : Value) (L : List RV) (rs : List R2) : Prop where
  eq : rs.map R2.r = L
  row : w.ownsRow base 123 5 v L.length (rs.flatMap R2.cells)
  args : ∀ x ∈ rs, IntsT w x.v x.r.args
theorem RulesT.ext {w w' : World} {base : Nat} {v : Value} {L : List RV} {rs : List R2} (h : RulesT w base v L rs) (x : Ext w w') : RulesT w' base v L rs := ⟨h.eq, own_ext h.row x, fun y hy => (h.args y hy).ext x⟩
theorem RulesT.low {w : World} {base b2 : Nat} {v : Value} {L : List RV} {rs : List R2} (h : RulesT w base v L rs) (hb : b2 ≤ base) : RulesT w b2 v L rs := ⟨h.eq, own_low h.row hb, h.args⟩
def PP.stAt (P : PP) (k : Nat) : PS := P.stmts.getD k ⟨⟨#[]⟩, 0, 0, []⟩
def PP.rulesUp (P : PP) (n : Nat) : List RV := (List.range n).map fun k => P.ruleV k (P.stAt k)
def PP.rulesV (P : PP) : List RV := P.rulesUp P.stmts.length
theorem PP.rulesUp_succ (P : PP) (n : Nat) : P.rulesUp (n + 1) = P.rulesUp n ++ [P.ruleV n (P.stAt n)] := by
  unfold PP.rulesUp; rw [List.range_succ, List.map_append]; rfl
theorem PP.rulesUp_len (P : PP) (n : Nat) : (P.rulesUp n).length = n := by simp [PP.rulesUp]
theorem stAt_some {P : PP} {k : Nat} (h : k < P.stmts.length) : P.stmts[k]? = some (P.stAt k) := by
  unfold PP.stAt
  rw [List.getD_eq_getElem?_getD, List.getElem?_eq_getElem h]; rfl
theorem rule_info : (Tryz.prog.info? 123).map (fun i => (i.zero, i.size, i.bytes)) = some (some (.agg #[.string ⟨#[]⟩, .int .i64 0, .int .i64 0, .int .i64 0, .slice none 0 0]), 5, 64) := by kernel_rfl
set_option maxRecDepth 100000 in
set_option maxHeartbeats 3200000 in
theorem consof_yes (a1 a2 a3 : Option Addr) (c1 c2 c3 : Nat) (P : PP) (w : World) (n0 : Nat) (ad : Nat → Addr) (h : PW w n0 ad a1 a2 a3 c1 c2 c3 P) :
    Calls Tryz.prog 75 #[pval a1 a2 a3 c1 c2 c3 P] w fun e w' => ∃ v rs, e = .returned (.tuple #[v, .nilIface]) ∧ RulesT w' w.heap.size v P.rulesV rs ∧ Ext w w' := by
  have HRu := fun k (hk : k < P.stmts.length) w1 (x : Ext w w1) => hid (consrule_any a1 a2 a3 c1 c2 c3 P k _ (stAt_some hk) w1 n0 ad (h.ext x))
  obtain ⟨W, hW⟩ : ∃ W, W = w.alloc (.cells (pcells a1 a2 a3 c1 c2 c3 P) 26) := ⟨_, rfl⟩
  have HX : Hid (Ext w W) := hid (by rw [hW]; exact (Ext.refl _).alloc _)
  have HBx : Hid (Blk W w.heap.size (pcells a1 a2 a3 c1 c2 c3 P) 26) := hid (by rw [hW]; exact Blk.new _ _ _)
  have HWe : Hid (W = w.alloc (.cells #[.slice a1 P.vars.length c1, .slice a2 P.funs.length c2, .slice a3 P.stmts.length c3] 26)) := hid (by rw [hW]; rfl)
  have HK := hid (check_well (h.errs.ext HX.out) (h.prog.ext HX.out) h.z1 h.z2 h.well)
  obtain ⟨hf1, hf2, hf3⟩ := h.well.few
  have d0 := HBx.out.av 0 rfl
  have d1 := HBx.out.av 1 rfl
  have d2 := HBx.out.av 2 rfl
  simp only [pcells, qA0, qA1, qA2] at d0 d1 d2
  unfold pval at HK HRu ⊢
  clear hW h
  go_enter Tryz.func75, Tryz.ntmps75
  go_wp2_with fail
  rw [← HWe.out]
  refine HK.out.mono ?_
  intro e w1 hx
  obtain ⟨rfl, hx1⟩ := hx
  have Hx1 := hid hx1
  clear HK hx1 d0 d1 d2
  have d2 := (HBx.out.ext Hx1.out).av 2 rfl
  simp only [pcells, qA0, qA1, qA2] at d2
  go_wp2
  go_loopw [5, 15] (fun t5 t15 wr => ∃ (k : Nat) (rs : List R2), t15 = .int .i64 (k : Int) ∧ k ≤ P.stmts.length ∧ rs.map R2.r = P.rulesUp k ∧ wr.ownsRow W.heap.size 123 5 t5 k (rs.flatMap R2.cells) ∧ (∀ x ∈ rs, IntsT wr x.v x.r.args) ∧ Ext W wr) (fun _ t15 _ => P.stmts.length - (intOf t15).toNat)
  case atStart => exact ⟨0, [], rfl, Nat.zero_le _, rfl, World.ownsRow_nil _ _ _ _, (fun x h => by cases h), Hx1.out⟩
  case round =>
    obtain ⟨k, rs, rfl, hk, he, hr, ha, hx⟩ := hrel
    obtain ⟨a5, c5, rfl⟩ := row_form hr
    have He := hid he
    have Hr := hid hr
    have Ha := hid ha
    have Hx := hid hx
    clear he hr ha hx d2
    by_cases hlt : k < P.stmts.length
    · have HC := HRu k hlt wr (HX.out.trans Hx.out)
      obtain ⟨r, hr⟩ : ∃ r, r = P.ruleV k (P.stAt k) := ⟨_, rfl⟩
      rw [← hr] at HC
      have Hrr := hid hr
      have d0 := (HBx.out.ext Hx.out).av 0 rfl
      have d1 := (HBx.out.ext Hx.out).av 1 rfl
      have d2 := (HBx.out.ext Hx.out).av 2 rfl
      simp only [pcells, qA0, qA1, qA2] at d0 d1 d2
      clear HRu hr
      go_wp2_with fail
      refine HC.out.mono ?_
      intro e w2 hx
      obtain ⟨av, rfl, hT, hx2⟩ := hx
      obtain ⟨aa, ca, rfl⟩ := hT.form
      unfold RV.val
      have hxa : Hid (Ext w (w2.alloc (.cells #[.string r.kind, .int .i64 r.a, .int .i64 r.b, .int .i64 r.k, .slice aa r.args.length ca] 123))) := hid (((HX.out.trans Hx.out).trans hx2).alloc _)
      have hra : Ext wr (w2.alloc (.cells #[.string r.kind, .int .i64 r.a, .int .i64 r.b, .int .i64 r.k, .slice aa r.args.length ca] 123)) := hx2.alloc _
      have Hra := hid (own_ext Hr.out hra)
      have Hxr := hid ((Hx.out.trans hra))
      have Haa : Hid (∀ x ∈ rs ++ [⟨r, .slice aa r.args.length ca⟩], IntsT (w2.alloc (.cells #[.string r.kind, .int .i64 r.a, .int .i64 r.b, .int .i64 r.k, .slice aa r.args.length ca] 123)) x.v x.r.args) := hid fun x hx => by
        rcases List.mem_append.1 hx with hx | hx
        · exact (Ha.out x hx).ext hra
        · obtain rfl := List.mem_singleton.1 hx
          exact hT.ext ((Ext.refl _).alloc _)
      clear HC hT hx2 hra d0 d1 d2
      go_wp2_with (at_builtin; refine wpList_append_el W.heap.size Hxr.out.size 116 123 (.agg #[.string ⟨#[]⟩, .int .i64 0, .int .i64 0, .int .i64 0, .slice none 0 0]) 5 64 Tryz.underlying116 rule_info rfl (by omega) (by omega) rfl _ _ rfl (.slice a5 k c5) k (rs.flatMap R2.cells) rfl Hra.out w2.heap.size [.string r.kind, .int .i64 r.a, .int .i64 r.b, .int .i64 r.k, .slice aa r.args.length ca] rfl (by simp [Value.oneCell']) rfl (Blk.new _ _ _) (by omega) ?_; intro v' w' h1 h2 h4; obtain ⟨a', c', rfl⟩ := row_form h1; have h3 := hid (Keep.new Hxr.out h2 (fun k hk => (World.ownsRow.lt Hra.out k hk).1)); have ha5 := hid (fun x hx => (Haa.out x hx).keep h2 (fun b e => by obtain ⟨c, hc⟩ := own_ty Hra.out e; exact IsInt.not hc (by decide))); have h1 := hid h1; clear h2 h4)
      go_roundw
      case rel =>
        refine ⟨k + 1, rs ++ [⟨r, .slice aa r.args.length ca⟩], by go_num, by omega, ?_, ?_, ha5.out, h3.out⟩
        · rw [List.map_append, He.out, PP.rulesUp_succ, ← Hrr.out]; rfl
        · rw [List.flatMap_append]; simpa [R2.cells] using h1.out
      case measure => simp [intOf]; omega
    · obtain rfl : k = P.stmts.length := by omega
      clear HRu
      go_wp2
      go_ret2
      exact ⟨_, rs, rfl, ⟨He.out, by rw [show P.rulesV.length = P.stmts.length from P.rulesUp_len _]; exact own_low Hr.out HX.out.size, Ha.out⟩, HX.out.trans Hx.out⟩
set_option maxRecDepth 100000 in
set_option maxHeartbeats 1600000 in
theorem consof_no (a1 a2 a3 : Option Addr) (c1 c2 c3 : Nat) (P : PP) (w : World) (n0 : Nat) (ad : Nat → Addr) (hE : ErrsP w ad) (h : ProgR w n0 (.slice a1 P.vars.length c1) (.slice a2 P.funs.length c2) (.slice a3 P.stmts.length c3) P)
    (hz1 : ∀ s ∈ P.vars, s.size ≤ 1000000) (hz2 : ∀ s ∈ P.names, s.size ≤ 1000000) (hw : ¬ P.Well) :
    Calls Tryz.prog 75 #[pval a1 a2 a3 c1 c2 c3 P] w fun e w' => ∃ t x, e = .returned (.tuple #[.slice none 0 0, .iface t (.pointer (some x))]) ∧ ErrIs ad P w' (.iface t (.pointer (some x))) ∧ Ext w w' := by
  obtain ⟨W, hW⟩ : ∃ W, W = w.alloc (.cells (pcells a1 a2 a3 c1 c2 c3 P) 26) := ⟨_, rfl⟩
  have HX : Hid (Ext w W) := hid (by rw [hW]; exact (Ext.refl _).alloc _)
  have HBx : Hid (Blk W w.heap.size (pcells a1 a2 a3 c1 c2 c3 P) 26) := hid (by rw [hW]; exact Blk.new _ _ _)
  have HWe : Hid (W = w.alloc (.cells #[.slice a1 P.vars.length c1, .slice a2 P.funs.length c2, .slice a3 P.stmts.length c3] 26)) := hid (by rw [hW]; rfl)
  have hml : (P.vars.length : Int) ≤ 9223372036854775807 := by
    obtain ⟨_, _, _, h2, h3, _⟩ := h.vars
    omega
  have HK := hid (pcheck_any a1 a2 a3 c1 c2 c3 P W n0 ad (hE.ext HX.out) (h.ext HX.out) hz1 hz2 hml)
  have Hw := hid hw
  have d0 := HBx.out.av 0 rfl
  have d1 := HBx.out.av 1 rfl
  have d2 := HBx.out.av 2 rfl
  simp only [pcells, qA0, qA1, qA2] at d0 d1 d2
  unfold pval at HK ⊢
  clear hW h hE hw
  go_enter Tryz.func75, Tryz.ntmps75
  go_wp2_with fail
  rw [← HWe.out]
  refine HK.out.mono ?_
  intro e w1 hx
  obtain ⟨v, rfl, hi, hx1⟩ := hx
  obtain ⟨t, x, rfl⟩ : ∃ t x, v = .iface t (.pointer (some x)) := by
    rcases hi.form with ⟨_, h⟩ | ⟨h, _⟩
    · exact absurd h Hw.out
    · exact h
  have Hi := hid hi
  have Hx1 := hid (HX.out.trans hx1)
  clear HK hx1 hi d0 d1 d2
  go_wp2
  go_ret2
  exact ⟨t, x, rfl, Hi.out, Hx1.out⟩
def calledV (f : PF) (r : RV) : List (Int × Int) := if f.params.length = r.args.length then (f.ret, r.b) :: r.args.zip f.params else []
def eCells (e : Int × Int) : List Value := [.int .i64 e.1, .int .i64 e.2]
theorem eCells_len (e : Int × Int) : (eCells e).length = 2 := rfl
theorem edge_info : (Tryz.prog.info? 128).map (fun i => (i.zero, i.size, i.bytes)) = some (some (.agg #[.int .i64 0, .int .i64 0]), 2, 16) := by kernel_rfl
theorem zip_take {l m : List Int} {k : Nat} {q p : Int} (h1 : l[k]? = some q) (h2 : m[k]? = some p) : (l.zip m).take (k + 1) = (l.zip m).take k ++ [(q, p)] := by
  rw [List.take_add_one]
  congr 1
  have : (l.zip m)[k]? = some (q, p) := List.getElem?_zip_eq_some.2 ⟨h1, h2⟩
  rw [this]; rfl
def ERow (base : Nat) (w : World) (v : Value) (l : List (Int × Int)) : Prop := w.ownsRow base 128 2 v l.length (l.flatMap eCells)
theorem ERow.ext {base : Nat} {w w' : World} {v : Value} {l : List (Int × Int)} (h : ERow base w v l) (x : Ext w w') : ERow base w' v l := own_ext h x
theorem ERow.low {base b2 : Nat} {w : World} {v : Value} {l : List (Int × Int)} (h : ERow base w v l) (hb : b2 ≤ base) : ERow b2 w v l := own_low h hb
theorem ERow.nil (base : Nat) (w : World) : ERow base w (.slice none 0 0) [] := World.ownsRow_nil _ _ _ _
set_option maxRecDepth 100000 in
set_option maxHeartbeats 3200000 in
theorem conscalled_any (f : PF) (r : RV) (pv av : Value) (w : World) (n0 : Nat) (hp : IntsR w n0 pv f.params) (ha : IntsR w n0 av r.args) (hfew : f.params.length ≤ 100) :
    Calls Tryz.prog 203 #[.agg #[.string f.name, pv, .int .i64 f.ret], r.val av] w fun e w' => ∃ v, e = .returned v ∧ ERow w.heap.size w' v (calledV f r) ∧ Ext w w' := by
  obtain ⟨ap, cp, rfl, _⟩ := id hp
  obtain ⟨aa, ca, rfl, _⟩ := id ha
  have hpl := hp.len
  have hal := ha.len
  obtain ⟨W1, hW1⟩ : ∃ W1, W1 = w.alloc (.cells #[.string f.name, .slice ap f.params.length cp, .int .i64 f.ret] 79) := ⟨_, rfl⟩
  have hx1 : Ext w W1 := by rw [hW1]; exact (Ext.refl _).alloc _
  obtain ⟨W2, hW2⟩ : ∃ W2, W2 = W1.alloc (.cells #[.string r.kind, .int .i64 r.a, .int .i64 r.b, .int .i64 r.k, .slice aa r.args.length ca] 123) := ⟨_, rfl⟩
  have hx2 : Ext W1 W2 := by rw [hW2]; exact (Ext.refl _).alloc _
  have s1 : W1.heap.size = w.heap.size + 1 := by rw [hW1, heap_size_alloc]
  have HX := hid (hx1.trans hx2)
  have Hs2 : Hid (W2.heap.size = w.heap.size + 1 + 1) := hid (by rw [hW2, heap_size_alloc, s1])
  have HB0 : Hid (Blk W2 w.heap.size #[.string f.name, .slice ap f.params.length cp, .int .i64 f.ret] 79) := hid (by
    have : Blk W1 w.heap.size #[.string f.name, .slice ap f.params.length cp, .int .i64 f.ret] 79 := by rw [hW1]; exact Blk.new _ _ _
    exact this.ext hx2)
  have HB1 : Hid (Blk W2 (w.heap.size + 1) #[.string r.kind, .int .i64 r.a, .int .i64 r.b, .int .i64 r.k, .slice aa r.args.length ca] 123) := hid (by rw [← s1, hW2]; exact Blk.new _ _ _)
  have HWe : Hid (W2 = (w.alloc (.cells #[.string f.name, .slice ap f.params.length cp, .int .i64 f.ret] 79)).alloc (.cells #[.string r.kind, .int .i64 r.a, .int .i64 r.b, .int .i64 r.k, .slice aa r.args.length ca] 123)) := hid (by rw [hW2, hW1])
  have HP := hid hp
  have HA := hid ha
  unfold RV.val
  clear hp ha hW1 hW2 hx1 hx2 s1
  by_cases hl : f.params.length = r.args.length
  · have Hr : Hid (calledV f r = (f.ret, r.b) :: r.args.zip f.params) := hid (by unfold calledV; rw [if_pos hl])
    have Hl := hid hl
    have e0 : ((f.params.length : Int) != (r.args.length : Int)) = false := by rw [hl]; simp
    clear hl
    go_enter Tryz.func203, Tryz.ntmps203
    go_wp2
    rw [← HWe.out]
    obtain ⟨W3, hW3⟩ : ∃ W3, W3 = W2.alloc (.cells #[.int .i64 f.ret, .int .i64 r.b] 128) := ⟨_, rfl⟩
    have hx3 : Ext W2 W3 := by rw [hW3]; exact (Ext.refl _).alloc _
    have Hx3 := hid hx3
    have Hr0 : Hid (W3.ownsRow W2.heap.size 128 2 (.slice (some ⟨w.heap.size + 1 + 1, 0, none⟩) 1 1) 1 (eCells (f.ret, r.b))) := hid
      ⟨rfl, .inr ⟨w.heap.size + 1 + 1, 1, #[.int .i64 f.ret, .int .i64 r.b], rfl, by rw [Hs2.out]; exact Nat.le_refl _, by rw [hW3, ← Hs2.out]; exact Blk.new _ _ _, Nat.le_refl _, by unfold maxLen; omega, rfl, rfl⟩⟩
    rw [← hW3]
    clear hW3 hx3 e0
    go_loopw [5, 24] (fun t5 t24 wr => ∃ k : Nat, t24 = .int .i64 (k : Int) ∧ k ≤ f.params.length ∧ wr.ownsRow W2.heap.size 128 2 t5 (k + 1) (((f.ret, r.b) :: (r.args.zip f.params).take k).flatMap eCells) ∧ Ext W2 wr) (fun _ t24 _ => f.params.length - (intOf t24).toNat)
    case atStart => exact ⟨0, rfl, Nat.zero_le _, Hr0.out, Hx3.out⟩
    case round =>
      obtain ⟨k, rfl, hk, hr, hx⟩ := hrel
      obtain ⟨a5, c5, rfl⟩ := row_form hr
      have Hrow := hid hr
      have Hx := hid hx
      clear hr hx
      by_cases hlt : k < f.params.length
      · have hkr : k < r.args.length := by have := Hl.out; omega
        obtain ⟨y, p, hy, hpk, hcp⟩ := (HP.out.old ((HX.out.trans Hx.out).old n0)).at hlt
        obtain ⟨z, q, hz, hqk, hcq⟩ := (HA.out.old ((HX.out.trans Hx.out).old n0)).at hkr
        subst hy hz
        have Hzip := hid (zip_take hqk hpk)
        have d1 := (HB1.out.ext Hx.out).av 4 rfl
        simp only [qA0, qA1, qA2] at d1
        have hxa : Hid (Ext W2 (wr.alloc (.cells #[.int .i64 q, .int .i64 p] 128))) := hid (Hx.out.alloc _)
        have Hra := hid (own_ext Hrow.out ((Ext.refl wr).alloc (.cells #[.int .i64 q, .int .i64 p] 128)))
        clear hpk hqk
        go_wp2_with (at_builtin; refine wpList_append_el W2.heap.size hxa.out.size 252 128 (.agg #[.int .i64 0, .int .i64 0]) 2 16 Tryz.underlying252 edge_info rfl (by omega) (by omega) rfl _ _ rfl (.slice a5 (k + 1) c5) (k + 1) (((f.ret, r.b) :: (r.args.zip f.params).take k).flatMap eCells) rfl Hra.out wr.heap.size [.int .i64 q, .int .i64 p] rfl (by simp [Value.oneCell']) rfl (Blk.new _ _ _) (by omega) ?_; intro v' w' h1 h2 h4; obtain ⟨a', c', rfl⟩ := row_form h1; have h3 := hid (Keep.new hxa.out h2 (fun k hk => (World.ownsRow.lt Hra.out k hk).1)); have h1 := hid h1; clear h2 h4)
        go_roundw
        case rel =>
          refine ⟨k + 1, by go_num, by omega, ?_, h3.out⟩
          have e := h1.out
          rw [Hzip.out, ← List.cons_append, List.flatMap_append]
          simpa [eCells] using e
        case measure => simp [intOf]; omega
      · obtain rfl : k = f.params.length := by omega
        have Hz : Hid ((r.args.zip f.params).take f.params.length = r.args.zip f.params) := hid (List.take_of_length_le (by rw [List.length_zip]; omega))
        have Hln : Hid ((calledV f r).length = f.params.length + 1) := hid (by rw [Hr.out, List.length_cons, List.length_zip]; have := Hl.out; omega)
        go_wp2
        go_ret
        exact ⟨_, rfl, by unfold ERow; rw [Hln.out, Hr.out]; have := own_low Hrow.out HX.out.size; rw [Hz.out] at this; exact this, HX.out.trans Hx.out⟩
  · have Hr : Hid (calledV f r = []) := hid (by unfold calledV; rw [if_neg hl])
    have e0 : ((f.params.length : Int) != (r.args.length : Int)) = true := bne_iff_ne.2 (by omega)
    clear hl
    go_enter Tryz.func203, Tryz.ntmps203
    go_wp2
    go_ret
    exact ⟨_, rfl, by rw [Hr.out]; exact ERow.nil _ _, ((Ext.refl w).alloc _).alloc _⟩
theorem own_i {w : World} {base g n cap : Nat} {e : TypeId} {R : List Int} (h : w.ownsRow base e 1 (.slice (some ⟨g, 0, none⟩) n cap) n (icells R)) {i : Nat} {x : Int} (hx : R[i]? = some x) : w.cell? ⟨g, i, none⟩ = some (.int .i64 x) :=
  own_get h i (by unfold icells; rw [List.getElem?_map, hx]; rfl)
def PP.nodesOf (P : PP) (l : List Int) : List Int := l.filter fun x => !decide ((P.nodesV : Int) ≤ x)
def PP.callsOf (P : PP) (r : RV) (o : Int) : List (Int × Int) := if 0 ≤ P.funV o then calledV (P.funs.getD (P.funV o).toNat ⟨⟨#[]⟩, [], 0⟩) r else []
def PP.redges (P : PP) (r : RV) (has : List (List Int)) : List (Int × Int) :=
  bif r.kind.toList == kCopy then [(r.a, r.b)] else
  bif r.kind.toList == kLoad then (P.nodesOf (has.getD r.a.toNat [])).map fun o => (o, r.b) else
  bif r.kind.toList == kStore then (P.nodesOf (has.getD r.b.toNat [])).map fun o => (r.a, o) else
  bif r.kind.toList == kCall then (has.getD r.a.toNat []).flatMap (P.callsOf r) else []
theorem funV_lt {P : PP} {o : Int} (h : 0 ≤ P.funV o) : P.funV o < P.funs.length := by
  unfold PP.funV at h ⊢
  by_cases hc : 0 ≤ o - P.nodesV ∧ o - P.nodesV < P.funs.length
  · rw [if_pos hc]; exact hc.2
  · rw [if_neg hc] at h; omega
theorem called_few {P : PP} (hw : P.Well) {f : PF} (hf : f ∈ P.funs) (r : RV) : (calledV f r).length ≤ 4 := by
  have := (PP.goodF (PP.funs_ok hw.1) hf).few
  unfold calledV
  split
  · rw [List.length_cons, List.length_zip]; omega
  · simp
theorem bBase_list : (bBase.toList == [98, 97, 115, 101]) = true := by decide +kernel
theorem bCall_list : (bCall.toList == [99, 97, 108, 108]) = true := by decide +kernel
structure SetsOk (P : PP) (has : List (List Int)) : Prop where
  len : has.length = P.nodesV
  ok : ∀ l ∈ has, chkE l = 0 ∧ ∀ x ∈ l, x < P.objectsV
theorem SetsOk.inr {P : PP} {has : List (List Int)} (h : SetsOk P has) : ∀ l ∈ has, InR l := fun l hl => (chkE_zero.1 (h.ok l hl).1).1
theorem srt_few {l : List Int} (h : chkE l = 0) : l.length ≤ 1000 := by
  obtain ⟨h1, h2⟩ := chkE_zero.1 h
  rw [← sset_self h2 h1]
  unfold sset
  rw [List.length_map]
  have := List.length_filter_le (fun n : Nat => decide ((n : Int) ∈ l)) (List.range 1000)
  rw [List.length_range] at this
  exact this
theorem nodes_vars (P : PP) : P.vars.length ≤ P.nodesV := by unfold PP.nodesV; omega
end Go.Proofs.YtbagppdibncfdaaGreatDoor
namespace Go.Proofs.YtbagppdibncfdaaGreatDoor
def lexLt (a b : Int × Int) : Prop := a.1 < b.1 ∨ (a.1 = b.1 ∧ a.2 < b.2)
def lexLe (a b : Int × Int) : Prop := lexLt a b ∨ a = b
theorem lexLt.irr (a : Int × Int) : ¬ lexLt a a := by unfold lexLt; omega
theorem lexLt.trans {a b c : Int × Int} (h : lexLt a b) (k : lexLt b c) : lexLt a c := by unfold lexLt at *; omega
theorem lexLe.lt {a b : Int × Int} (h : lexLe a b) (hn : a ≠ b) : lexLt a b := h.elim id fun e => absurd e hn
abbrev SrtP (l : List (Int × Int)) : Prop := l.Pairwise lexLt
theorem srtP_uniq : ∀ {a b : List (Int × Int)}, SrtP a → SrtP b → (∀ x, x ∈ a ↔ x ∈ b) → a = b
  | [], [], _, _, _ => rfl
  | [], y :: b, _, _, h => absurd ((h y).2 (List.mem_cons_self ..)) (List.not_mem_nil)
  | x :: a, [], _, _, h => absurd ((h x).1 (List.mem_cons_self ..)) (List.not_mem_nil)
  | x :: a, y :: b, ha, hb, h => by
    obtain ⟨ha1, ha2⟩ := List.pairwise_cons.1 ha
    obtain ⟨hb1, hb2⟩ := List.pairwise_cons.1 hb
    have hxy : x = y := by
      have h1 : x ∈ y :: b := (h x).1 (List.mem_cons_self ..)
      have h2 : y ∈ x :: a := (h y).2 (List.mem_cons_self ..)
      rcases List.mem_cons.1 h1 with e | e
      · exact e
      · rcases List.mem_cons.1 h2 with f | f
        · exact f.symm
        · exact absurd ((hb1 x e).trans (ha1 y f)) (lexLt.irr _)
    subst hxy
    congr 1
    refine srtP_uniq ha2 hb2 fun z => ⟨fun hz => ?_, fun hz => ?_⟩
    · rcases List.mem_cons.1 ((h z).1 (List.mem_cons_of_mem _ hz)) with e | e
      · have := ha1 z hz; rw [e] at this; exact absurd this (lexLt.irr _)
      · exact e
    · rcases List.mem_cons.1 ((h z).2 (List.mem_cons_of_mem _ hz)) with e | e
      · have := hb1 z hz; rw [e] at this; exact absurd this (lexLt.irr _)
      · exact e
end Go.Proofs.YtbagppdibncfdaaGreatDoor
namespace Go.Proofs.YtbagppdibncfdaaGreatDoor
open Go Go.RowKit
def PP.edges0 (P : PP) (has : List (List Int)) : List (Int × Int) := P.rulesV.flatMap fun r => P.redges r has
def PP.sedges (P : PP) (x : PS) (has : List (List Int)) : List (Int × Int) := P.redges (P.ruleV 0 x) has
theorem redges_nil {P : PP} {r : RV} {has : List (List Int)} (h : r.kind = bBase) : P.redges r has = [] := by
  have e := eq_of_beq bBase_list
  unfold PP.redges kCopy kLoad kStore kCall
  rw [h, e]; rfl
def PP.InN (P : PP) (e : Int × Int) : Prop := 0 ≤ e.1 ∧ e.1 < P.nodesV ∧ 0 ≤ e.2 ∧ e.2 < P.nodesV
theorem nodes_in {P : PP} {has : List (List Int)} (hs : SetsOk P has) (i : Nat) (o : Int) (ho : o ∈ P.nodesOf (has.getD i [])) : 0 ≤ o ∧ o < (P.nodesV : Int) := by
  unfold PP.nodesOf at ho
  obtain ⟨h1, h2⟩ := List.mem_filter.1 ho
  have h3 : o < (P.nodesV : Int) := by simpa using h2
  rw [List.getD_eq_getElem?_getD] at h1
  cases he : has[i]? with
  | none => rw [he] at h1; cases h1
  | some l => rw [he] at h1; exact ⟨(hs.inr l (List.mem_of_getElem? he) o h1).1, h3⟩
theorem called_in {P : PP} (hw : P.Well) {f : PF} (hf : f ∈ P.funs) {r : RV} (hb : 0 ≤ r.b ∧ r.b < P.nodesV) (ha : ∀ a ∈ r.args, 0 ≤ a ∧ a < (P.nodesV : Int)) : ∀ e ∈ calledV f r, P.InN e := by
  intro e he
  have g := PP.goodF (PP.funs_ok hw.1) hf
  have hnv := nodes_vars P
  unfold calledV at he
  split at he
  · rcases List.mem_cons.1 he with rfl | he
    · have := g.ret
      exact ⟨this.1, by show f.ret < _; omega, hb.1, hb.2⟩
    · obtain ⟨a, b⟩ := e
      obtain ⟨h1, h2⟩ := List.of_mem_zip he
      have p1 := ha a h1
      have p2 := g.params b h2
      exact ⟨p1.1, p1.2, p2.1, by show b < _; omega⟩
  · cases he
set_option maxRecDepth 100000 in
theorem redges_in {P : PP} {has : List (List Int)} (hw : P.Well) (hs : SetsOk P has) {k : Nat} (hk : k < P.stmts.length) : ∀ e ∈ P.redges (P.ruleV k (P.stAt k)) has, P.InN e := by
  have h0 := hw.2 k (P.stAt k) hk (stAt_some hk)
  have hg := PP.good h0
  have hnv := nodes_vars P
  obtain ⟨x, hx⟩ : ∃ x, x = P.stAt k := ⟨_, rfl⟩
  rw [← hx] at h0 hg ⊢
  have hgx := hg.gx
  rcases kind_cases h0 with g | g | g | g | g | g | g
  · rw [redges_nil (by unfold PP.ruleV; rw [g]; rfl)]
    intro e he; cases he
  · have e : P.ruleV k x = ⟨x.kind, x.y, x.x, k, []⟩ := by unfold PP.ruleV; rw [isK_ne g (k' := kAddr) rfl, isK_ne g (k' := kNew) rfl, isK_ne g (k' := kFun) rfl, isK_ne g (k' := kCall) rfl]; rfl
    have hy := hg.yv (isK_ne g (k' := kFun) rfl) (isK_ne g (k' := kNew) rfl)
    have h2 : (x.kind.toList == kCopy) = true := g
    rw [e]
    unfold PP.redges
    dsimp only
    rw [h2, cond_true]
    intro e he
    obtain rfl := List.mem_singleton.1 he
    exact ⟨hy.1, by show x.y < _; omega, hgx.1, by show x.x < _; omega⟩
  · have e : P.ruleV k x = ⟨x.kind, x.y, x.x, k, []⟩ := by unfold PP.ruleV; rw [isK_ne g (k' := kAddr) rfl, isK_ne g (k' := kNew) rfl, isK_ne g (k' := kFun) rfl, isK_ne g (k' := kCall) rfl]; rfl
    have h1 : (x.kind.toList == kCopy) = false := isK_ne g (k' := kCopy) rfl
    have h2 : (x.kind.toList == kLoad) = true := g
    rw [e]
    unfold PP.redges
    dsimp only
    rw [h1, h2, cond_true, cond_false]
    intro e he
    obtain ⟨o, ho, rfl⟩ := List.mem_map.1 he
    have := nodes_in hs _ o ho
    exact ⟨this.1, this.2, hgx.1, by show x.x < _; omega⟩
  · have e : P.ruleV k x = ⟨x.kind, x.y, x.x, k, []⟩ := by unfold PP.ruleV; rw [isK_ne g (k' := kAddr) rfl, isK_ne g (k' := kNew) rfl, isK_ne g (k' := kFun) rfl, isK_ne g (k' := kCall) rfl]; rfl
    have hy := hg.yv (isK_ne g (k' := kFun) rfl) (isK_ne g (k' := kNew) rfl)
    have h1 : (x.kind.toList == kCopy) = false := isK_ne g (k' := kCopy) rfl
    have h3 : (x.kind.toList == kLoad) = false := isK_ne g (k' := kLoad) rfl
    have h2 : (x.kind.toList == kStore) = true := g
    rw [e]
    unfold PP.redges
    dsimp only
    rw [h1, h2, h3, cond_true, cond_false, cond_false]
    intro e he
    obtain ⟨o, ho, rfl⟩ := List.mem_map.1 he
    have := nodes_in hs _ o ho
    exact ⟨hy.1, by show x.y < _; omega, this.1, this.2⟩
  · rw [redges_nil (by unfold PP.ruleV; rw [isK_ne g (k' := kAddr) rfl, g]; rfl)]
    intro e he; cases he
  · rw [redges_nil (by unfold PP.ruleV; rw [isK_ne g (k' := kAddr) rfl, isK_ne g (k' := kNew) rfl, g]; rfl)]
    intro e he; cases he
  · have e : P.ruleV k x = ⟨bCall, x.y, x.x, k, x.args⟩ := by unfold PP.ruleV; rw [isK_ne g (k' := kAddr) rfl, isK_ne g (k' := kNew) rfl, isK_ne g (k' := kFun) rfl, g]; rfl
    have hkd := eq_of_beq bCall_list
    rw [e]
    unfold PP.redges kCopy kLoad kStore kCall
    dsimp only
    rw [hkd]
    intro e he
    obtain ⟨o, _, ho⟩ := List.mem_flatMap.1 (show e ∈ (has.getD x.y.toNat []).flatMap (P.callsOf ⟨bCall, x.y, x.x, k, x.args⟩) from he)
    unfold PP.callsOf at ho
    split at ho
    · rename_i hF
      have hlt := funV_lt hF
      have hn : (P.funV o).toNat < P.funs.length := by omega
      rw [List.getD_eq_getElem?_getD, List.getElem?_eq_getElem hn] at ho
      exact called_in hw (List.getElem_mem hn) (r := ⟨bCall, x.y, x.x, k, x.args⟩) ⟨hgx.1, by show x.x < _; omega⟩ (fun a ha => by have := hg.args a ha; omega) e ho
    · cases ho
theorem edges0_in {P : PP} {has : List (List Int)} (hw : P.Well) (hs : SetsOk P has) : ∀ e ∈ P.edges0 has, P.InN e := by
  intro e he
  unfold PP.edges0 PP.rulesV PP.rulesUp at he
  obtain ⟨r, hr, he⟩ := List.mem_flatMap.1 he
  obtain ⟨k, hk, rfl⟩ := List.mem_map.1 hr
  exact redges_in hw hs (List.mem_range.1 hk) e he
theorem nodesV_le (P : PP) (hw : P.Well) : P.nodesV ≤ 120 := by
  have := hw.few
  have := P.nodesV_le2
  omega
structure EdgesAre (P : PP) (has : List (List Int)) (l : List (Int × Int)) : Prop where
  srt : SrtP l
  mem : ∀ e, e ∈ l ↔ e ∈ P.edges0 has ∧ e.1 ≠ e.2
theorem EdgesAre.uniq {P : PP} {has : List (List Int)} {a b : List (Int × Int)} (h : EdgesAre P has a) (k : EdgesAre P has b) : a = b :=
  srtP_uniq h.srt k.srt fun e => (h.mem e).trans (k.mem e).symm
def TwoR (ad : Nat → Addr) (a b c : List Int) (n0 : Nat) (w : World) (t : Value) : Prop :=
  (bothE a b = 0 ∧ ∃ v, t = .tuple #[v, .nilIface] ∧ IRow n0 w v c) ∨ (bothE a b ≠ 0 ∧ t = .tuple #[.slice none 0 0, evOf ad (bothE a b)])
def PP.setE (P : PP) (l : List Int) : Nat := if chkE l = 0 then (if 0 < l.length ∧ (P.objectsV : Int) ≤ l.getD (l.length - 1) 0 then 2 else 0) else chkE l
def SetsIs (ad : Nat → Addr) (P : PP) (has : List (List Int)) (w : World) (v : Value) : Prop :=
  (has.length ≠ P.nodesV ∧ v = evOf ad 3) ∨ (has.length = P.nodesV ∧ (∀ l ∈ has, P.setE l = 0) ∧ v = .nilIface) ∨
  (has.length = P.nodesV ∧ ∃ (i : Nat) (l : List Int) (b : Nat), has[i]? = some l ∧ P.setE l ≠ 0 ∧ (∀ j m, j < i → has[j]? = some m → P.setE m = 0) ∧ v = .iface 92 (.pointer (some ⟨b, 0, none⟩)) ∧ Blk w b #[.int .i64 (i : Int), evOf ad (P.setE l)] 94)
theorem setE_zero {P : PP} {l : List Int} (h : P.setE l = 0) : chkE l = 0 ∧ ∀ x ∈ l, x < P.objectsV := by
  unfold PP.setE at h
  by_cases h0 : chkE l = 0
  · rw [if_pos h0] at h
    refine ⟨h0, fun x hx => ?_⟩
    obtain ⟨i, hi, rfl⟩ := List.getElem_of_mem hx
    have hl : 0 < l.length := by omega
    by_cases hb : 0 < l.length ∧ (P.objectsV : Int) ≤ l.getD (l.length - 1) 0
    · rw [if_pos hb] at h; cases h
    · have hlast : l.getD (l.length - 1) 0 < (P.objectsV : Int) := by omega
      rw [List.getD_eq_getElem?_getD, List.getElem?_eq_getElem (by omega)] at hlast
      have hs := (chkE_zero.1 h0).2
      rcases Nat.lt_or_ge i (l.length - 1) with g | g
      · have := List.pairwise_iff_getElem.1 hs i (l.length - 1) hi (by omega) g
        have h2 : (some (l[l.length - 1]'(by omega))).getD 0 = l[l.length - 1]'(by omega) := rfl
        rw [h2] at hlast
        omega
      · have e : i = l.length - 1 := by omega
        subst e
        exact hlast
  · rw [if_neg h0] at h; exact absurd h h0
theorem SetsOk.of {P : PP} {has : List (List Int)} (h1 : has.length = P.nodesV) (h2 : ∀ l ∈ has, P.setE l = 0) : SetsOk P has := ⟨h1, fun l hl => setE_zero (h2 l hl)⟩
structure ClosedP (P : PP) (has : List (List Int)) : Prop where
  base : ∀ k, k < P.stmts.length → (P.ruleV k (P.stAt k)).kind.toList = bBase.toList → (P.ruleV k (P.stAt k)).b ∈ has.getD (P.ruleV k (P.stAt k)).a.toNat []
  edge : ∀ e ∈ P.edges0 has, e.1 ≠ e.2 → ∀ n ∈ has.getD e.1.toNat [], n ∈ has.getD e.2.toNat []
def PP.turned (P : PP) : PP := ⟨P.vars, P.funs, P.stmts.reverse⟩
def PP.noNew (P : PP) : Prop := ∀ x ∈ P.stmts, x.isK kNew = false
def PP.sOk (P : PP) (has : List (List Int)) (x : PS) : Prop := (P.ruleV 0 x).kind.toList = bBase.toList → (P.ruleV 0 x).b ∈ has.getD (P.ruleV 0 x).a.toNat []
def Sub (a b : List (List Int)) : Prop := ∀ i x, x ∈ a.getD i [] → x ∈ b.getD i []
theorem nodesOf_mono {P : PP} {a b : List Int} (h : ∀ x, x ∈ a → x ∈ b) : ∀ x, x ∈ P.nodesOf a → x ∈ P.nodesOf b := fun x hx => by
  unfold PP.nodesOf at hx ⊢
  obtain ⟨h1, h2⟩ := List.mem_filter.1 hx
  exact List.mem_filter.2 ⟨h x h1, h2⟩
theorem redges_mono {P : PP} {a b : List (List Int)} (h : Sub a b) (r : RV) : ∀ e, e ∈ P.redges r a → e ∈ P.redges r b := by
  intro e
  unfold PP.redges
  cases r.kind.toList == kCopy
  · cases r.kind.toList == kLoad
    · cases r.kind.toList == kStore
      · cases r.kind.toList == kCall
        · exact id
        · simp only [cond_true, cond_false]
          intro he
          obtain ⟨o, ho, hm⟩ := List.mem_flatMap.1 he
          exact List.mem_flatMap.2 ⟨o, h _ _ ho, hm⟩
      · simp only [cond_true, cond_false]
        intro he
        obtain ⟨o, ho, hm⟩ := List.mem_map.1 he
        exact List.mem_map.2 ⟨o, nodesOf_mono (h _) _ ho, hm⟩
    · simp only [cond_true, cond_false]
      intro he
      obtain ⟨o, ho, hm⟩ := List.mem_map.1 he
      exact List.mem_map.2 ⟨o, nodesOf_mono (h _) _ ho, hm⟩
  · exact id
theorem edges0_mono {P : PP} {a b : List (List Int)} (h : Sub a b) : ∀ e, e ∈ P.edges0 a → e ∈ P.edges0 b := by
  intro e he
  unfold PP.edges0 at he ⊢
  obtain ⟨r, hr, hm⟩ := List.mem_flatMap.1 he
  exact List.mem_flatMap.2 ⟨r, hr, redges_mono h r e hm⟩
def plusAt (has : List (List Int)) (n : Nat) (o : Int) : List (List Int) := has.set n (sset (has.getD n [] ++ [o]))
theorem srtP_idx {b : List (Int × Int)} (h : SrtP b) {i j : Nat} {x y : Int × Int} (hi : b[i]? = some x) (hj : b[j]? = some y) (hlt : lexLt x y) : i < j := by
  have hil : i < b.length := by
    rcases Nat.lt_or_ge i b.length with g | g
    · exact g
    · rw [List.getElem?_eq_none g] at hi; cases hi
  have hjl : j < b.length := by
    rcases Nat.lt_or_ge j b.length with g | g
    · exact g
    · rw [List.getElem?_eq_none g] at hj; cases hj
  rw [List.getElem?_eq_getElem hil] at hi
  rw [List.getElem?_eq_getElem hjl] at hj
  obtain rfl := Option.some.inj hi
  obtain rfl := Option.some.inj hj
  rcases Nat.lt_trichotomy i j with g | g | g
  · exact g
  · subst g; exact absurd hlt (lexLt.irr _)
  · exact absurd (hlt.trans (List.pairwise_iff_getElem.1 h j i hjl hil g)) (lexLt.irr _)
theorem srtP_next {a : List (Int × Int)} (h : SrtP a) {i : Nat} {x y : Int × Int} (hi : a[i]? = some x) (hj : a[i + 1]? = some y) : lexLt x y := by
  have hjl : i + 1 < a.length := by
    rcases Nat.lt_or_ge (i + 1) a.length with g | g
    · exact g
    · rw [List.getElem?_eq_none g] at hj; cases hj
  rw [List.getElem?_eq_getElem (by omega)] at hi
  rw [List.getElem?_eq_getElem hjl] at hj
  obtain rfl := Option.some.inj hi
  obtain rfl := Option.some.inj hj
  exact List.pairwise_iff_getElem.1 h i (i + 1) (by omega) hjl (by omega)
def IdxG {α : Type} (p : α → Bool) (l : List α) (r : Int) : Prop := (r = -1 ∧ ∀ x ∈ l, p x = false) ∨ ∃ (i : Nat) (x : α), r = (i : Int) ∧ i < l.length ∧ l[i]? = some x ∧ p x = true ∧ ∀ j y, j < i → l[j]? = some y → p y = false
def eVal (e : Int × Int) : Value := .agg #[.int .i64 e.1, .int .i64 e.2]
theorem own_e {w : World} {base g n cap : Nat} {t : TypeId} {R : List (Int × Int)} (h : w.ownsRow base t 2 (.slice (some ⟨g, 0, none⟩) n cap) n (R.flatMap eCells)) {i : Nat} {x : Int × Int} (hx : R[i]? = some x) :
    w.cell? ⟨g, i * 2, none⟩ = some (.int .i64 x.1) ∧ w.cell? ⟨g, i * 2 + 1, none⟩ = some (.int .i64 x.2) := by
  have c : ∀ j v, (eCells x)[j]? = some v → j < 2 → w.cell? ⟨g, i * 2 + j, none⟩ = some v := fun j v hv hj => own_get h _ ((fm_get eCells 2 eCells_len R i j x hx hj).trans hv)
  exact ⟨c 0 _ rfl (by omega), c 1 _ rfl (by omega)⟩
def storeE (w : World) (g i : Nat) (y : Int × Int) : World := (w.setCell ⟨g, i, none⟩ (.int .i64 y.1)).setCell ⟨g, i + 1, none⟩ (.int .i64 y.2)
def eCmp (a b : Int × Int) : Int := if a.1 - b.1 = 0 then a.2 - b.2 else a.1 - b.1
theorem srt_lt {l : List Int} {M : Nat} (h : chkE l = 0) (hm : ∀ x ∈ l, x < (M : Int)) (hM : M ≤ 1000) : l.length ≤ M := by
  obtain ⟨h1, h2⟩ := chkE_zero.1 h
  rw [← sset_self h2 h1]
  unfold sset
  rw [List.length_map]
  have e : List.range 1000 = List.range M ++ (List.range (1000 - M)).map (M + ·) := by
    rw [← List.range_add]; congr 1; omega
  have e2 : ((List.range (1000 - M)).map (M + ·)).filter (fun n : Nat => decide ((n : Int) ∈ l)) = [] := by
    rw [List.filter_eq_nil_iff]
    intro n hn hd
    obtain ⟨j, _, rfl⟩ := List.mem_map.1 hn
    have := hm _ (of_decide_eq_true hd)
    omega
  rw [e, List.filter_append, e2, List.append_nil]
  have := List.length_filter_le (fun n : Nat => decide ((n : Int) ∈ l)) (List.range M)
  rw [List.length_range] at this
  exact this
theorem flatMap_len {α β : Type} (f : α → List β) (c : Nat) : ∀ l : List α, (∀ x ∈ l, (f x).length ≤ c) → (l.flatMap f).length ≤ l.length * c
  | [], _ => Nat.zero_le _
  | x :: r, h => by
    have h1 := h x List.mem_cons_self
    have h2 := flatMap_len f c r fun y hy => h y (List.mem_cons_of_mem _ hy)
    rw [List.flatMap_cons, List.length_append, List.length_cons, Nat.add_mul]
    omega
theorem calledV_len (f : PF) (r : RV) : (calledV f r).length ≤ r.args.length + 1 := by
  unfold calledV
  split
  · rw [List.length_cons, List.length_zip]; omega
  · exact Nat.zero_le _
theorem callsOf_len (P : PP) (r : RV) (o : Int) : (P.callsOf r o).length ≤ r.args.length + 1 := by
  unfold PP.callsOf
  split
  · exact calledV_len _ _
  · exact Nat.zero_le _
theorem getD_len {has : List (List Int)} {M : Nat} (h : ∀ l ∈ has, l.length ≤ M) (i : Nat) : (has.getD i []).length ≤ M := by
  rw [List.getD_eq_getElem?_getD]
  cases he : has[i]? with
  | none => exact Nat.zero_le _
  | some l => exact h l (List.mem_of_getElem? he)
theorem redges_len (P : PP) (r : RV) (has : List (List Int)) (M : Nat) (h : ∀ l ∈ has, l.length ≤ M) (ha : r.args.length ≤ 3) : (P.redges r has).length ≤ M * 4 + 1 := by
  unfold PP.redges
  cases r.kind.toList == kCopy
  · cases r.kind.toList == kLoad
    · cases r.kind.toList == kStore
      · cases r.kind.toList == kCall
        · exact Nat.zero_le _
        · simp only [cond_true, cond_false]
          have h1 := flatMap_len (P.callsOf r) 4 (has.getD r.a.toNat []) fun o _ => by have := callsOf_len P r o; omega
          have h2 := getD_len h r.a.toNat
          omega
      · simp only [cond_true, cond_false, List.length_map]
        have h1 := List.length_filter_le (fun x => !decide ((P.nodesV : Int) ≤ x)) (has.getD r.b.toNat [])
        have h2 := getD_len h r.b.toNat
        unfold PP.nodesOf
        omega
    · simp only [cond_true, cond_false, List.length_map]
      have h1 := List.length_filter_le (fun x => !decide ((P.nodesV : Int) ≤ x)) (has.getD r.a.toNat [])
      have h2 := getD_len h r.a.toNat
      unfold PP.nodesOf
      omega
  · simp only [cond_true, List.length_cons, List.length_nil]; omega
theorem ruleV_few {P : PP} (hw : P.Well) {k : Nat} (hk : k < P.stmts.length) : (P.ruleV k (P.stAt k)).args.length ≤ 3 := by
  have h0 := hw.2 k (P.stAt k) hk (stAt_some hk)
  unfold PP.ruleV
  cases (P.stAt k).isK kAddr
  · cases (P.stAt k).isK kNew
    · cases (P.stAt k).isK kFun
      · cases hc : (P.stAt k).isK kCall
        · exact Nat.zero_le _
        · exact call_few h0 hc
      · exact Nat.zero_le _
    · exact Nat.zero_le _
  · exact Nat.zero_le _
theorem rulesUp_len {P : PP} {has : List (List Int)} (hw : P.Well) (hs : SetsOk P has) (k : Nat) (hk : k ≤ P.stmts.length) : ((P.rulesUp k).flatMap fun r => P.redges r has).length ≤ 50000 := by
  obtain ⟨f1, f2, f3⟩ := hw.few
  have hn := P.newsN_le P.stmts.length
  have hM : ∀ l ∈ has, l.length ≤ 126 := fun l hl => by
    have := srt_lt (M := P.objectsV) (hs.ok l hl).1 (hs.ok l hl).2 (by unfold PP.objectsV PP.nodesV; omega)
    unfold PP.objectsV PP.nodesV at this
    omega
  have h1 := flatMap_len (fun r => P.redges r has) (126 * 4 + 1) (P.rulesUp k) fun r hr => by
    unfold PP.rulesUp at hr
    obtain ⟨j, hj, rfl⟩ := List.mem_map.1 hr
    exact redges_len P _ has 126 hM (ruleV_few hw (by have := List.mem_range.1 hj; omega))
  have h2 : (P.rulesUp k).length = k := by unfold PP.rulesUp; rw [List.length_map, List.length_range]
  rw [h2] at h1
  omega
end Go.Proofs.YtbagppdibncfdaaGreatDoor
namespace Go.Proofs
end Go.Proofs
namespace Go.Proofs.YtbagppdibncfdaaGreatDoor
open Go Go.RowKit Go.Sort
def InE (e : Int × Int) : Prop := 0 ≤ e.1 ∧ e.1 < 1000 ∧ 0 ≤ e.2 ∧ e.2 < 1000
abbrev SE := { e : Int × Int // InE e }
instance : Inhabited SE := ⟨⟨(0, 0), by unfold InE; omega⟩⟩
def seCells (x : SE) : List Value := eCells x.1
def seCmp (x y : SE) : Int := eCmp x.1 y.1
end Go.Proofs.YtbagppdibncfdaaGreatDoor
namespace Go.Proofs.YtbagppdibncfdaaGreatDoor
open Go Go.RowKit
theorem own_r {w : World} {base g n cap : Nat} {rs : List R2} (h : w.ownsRow base 123 5 (.slice (some ⟨g, 0, none⟩) n cap) n (rs.flatMap R2.cells)) {i : Nat} {x : R2} (hx : rs[i]? = some x) :
    w.cell? ⟨g, i * 5, none⟩ = some (.string x.r.kind) ∧ w.cell? ⟨g, i * 5 + 1, none⟩ = some (.int .i64 x.r.a) ∧ w.cell? ⟨g, i * 5 + 2, none⟩ = some (.int .i64 x.r.b) ∧ w.cell? ⟨g, i * 5 + 3, none⟩ = some (.int .i64 x.r.k) ∧ w.cell? ⟨g, i * 5 + 4, none⟩ = some x.v := by
  have c : ∀ j v, x.cells[j]? = some v → j < 5 → w.cell? ⟨g, i * 5 + j, none⟩ = some v := fun j v hv hj => own_get h _ ((fm_get R2.cells 5 R2.cells_len rs i j x hx hj).trans hv)
  exact ⟨c 0 _ rfl (by omega), c 1 _ rfl (by omega), c 2 _ rfl (by omega), c 3 _ rfl (by omega), c 4 _ rfl (by omega)⟩
theorem sethas_any (v : Value) (l : List Int) (s : Int) (w : World) (n0 : Nat) (h : IntsR w n0 v l) : Calls Tryz.prog 43 #[v, .int .i64 s] w fun e w' => e = .returned (.bool (decide (s ∈ l))) ∧ w = w' := by
  have H := hid (containsi_any v l s w n0 h)
  obtain ⟨a, cap, rfl, _⟩ := h
  go_enter Tryz.func43, Tryz.ntmps43
  go_wp2_with fail
  refine H.out.mono ?_
  intro e w1 hx
  obtain ⟨rfl, rfl⟩ := hx
  clear H
  go_wp2
  go_ret
  exact ⟨rfl, rfl⟩
set_option maxRecDepth 100000 in
set_option maxHeartbeats 800000 in
theorem indexfi_wi (b : Value) (p : Int → Bool) (v : Value) (l : List Int) (w : World) (n0 : Nat) (h : IntsR w n0 v l) (hF : ∀ n w1, Ext w w1 → Calls Tryz.prog 98 #[.int .i64 n, b] w1 fun e w' => e = .returned (.bool (p n)) ∧ Ext w1 w') :
    Calls Tryz.prog 138 #[v, .func (.func 98) #[] #[b]] w fun e w' => ∃ r : Int, e = .returned (.int .i64 r) ∧ IdxF p l r ∧ Ext w w' := by
  have HS := hid h
  have HF := hid hF
  obtain ⟨a, cap, rfl, h2, h3, h4, _⟩ := h
  have H4 := hid h4
  have hml : (l.length : Int) ≤ 9223372036854775807 := by omega
  clear h2 h3 h4 hF
  go_enter Tryz.func138, Tryz.ntmps138
  go_wp2
  go_loopw [8] (fun t8 wr => ∃ k : Nat, t8 = .int .i64 (k : Int) ∧ k ≤ l.length ∧ (∀ j t, j < k → l[j]? = some t → p t = false) ∧ Ext w wr) (fun t8 _ => l.length - (intOf t8).toNat)
  case atStart => exact ⟨0, rfl, Nat.zero_le _, fun j t h => by omega, Ext.refl _⟩
  case round =>
    obtain ⟨k, rfl, hk, hne, hx⟩ := hrel
    have Hne := hid hne
    clear hne
    by_cases hlt : k < l.length
    · obtain ⟨y, rfl⟩ := H4.out (by omega)
      have hxk : l[k]? = some (l[k]'hlt) := List.getElem?_eq_getElem hlt
      obtain ⟨t, ht⟩ : ∃ t, t = l[k]'hlt := ⟨_, rfl⟩
      rw [← ht] at hxk
      obtain ⟨a', cap', h1, _, _, _, h5⟩ := HS.out.old (hx.old n0)
      obtain ⟨rfl, rfl⟩ : some y = a' ∧ cap = cap' := by simpa using h1
      have hc := (h5 y rfl (by omega)).2 k hlt t hxk
      have HN := hid (HF.out t wr hx)
      have Hxk := hid hxk
      have Hx := hid hx
      clear hxk ht h1 h5 hx
      go_wp2_with fail
      refine HN.out.mono ?_
      intro e w1 hx1
      obtain ⟨rfl, hx1⟩ := hx1
      have Hx1 := hid (Hx.out.trans hx1)
      clear HN hx1 Hx hc
      cases he : p t with
      | true =>
        have Hin := hid (show IdxF p l (k : Int) from .inr ⟨k, t, rfl, hlt, Hxk.out, he, Hne.out⟩)
        go_wp2
        go_ret
        exact ⟨(k : Int), rfl, Hin.out, Hx1.out⟩
      | false =>
        have Hf := hid he
        clear he
        go_wp2
        go_roundw
        case rel =>
          refine ⟨k + 1, by go_num, by omega, fun j u hj hu => ?_, Hx1.out⟩
          by_cases hjk : j = k
          · subst hjk
            obtain rfl := Option.some.inj (Hxk.out.symm.trans hu)
            exact Hf.out
          · exact Hne.out j u (by omega) hu
        case measure => simp [intOf]; omega
    · obtain rfl : k = l.length := by omega
      have Hx := hid hx
      clear hx
      have Hnot := hid (show IdxF p l (-1) from .inl ⟨rfl, fun x hx => by
        obtain ⟨j, hj, e2⟩ := List.mem_iff_getElem.1 hx
        exact Hne.out j x hj (by rw [List.getElem?_eq_getElem hj, e2])⟩)
      go_wp2
      go_ret
      exact ⟨(-1 : Int), rfl, Hnot.out, Hx.out⟩
set_option maxRecDepth 100000 in
set_option maxHeartbeats 800000 in
theorem containsfi_wi (b : Value) (p : Int → Bool) (v : Value) (l : List Int) (w : World) (n0 : Nat) (h : IntsR w n0 v l) (hF : ∀ n w1, Ext w w1 → Calls Tryz.prog 98 #[.int .i64 n, b] w1 fun e w' => e = .returned (.bool (p n)) ∧ Ext w1 w') :
    Calls Tryz.prog 97 #[v, .func (.func 98) #[] #[b]] w fun e w' => e = .returned (.bool (l.any p)) ∧ Ext w w' := by
  have H := hid (indexfi_wi b p v l w n0 h hF)
  obtain ⟨a, cap, rfl, h2, h3, _⟩ := h
  have hml : (l.length : Int) ≤ 9223372036854775807 := by omega
  clear hF
  go_enter Tryz.func97, Tryz.ntmps97
  go_wp2_with fail
  refine H.out.mono ?_
  intro e w1 hx
  obtain ⟨r, rfl, hr, hx⟩ := hx
  clear H
  rcases hr with ⟨rfl, hr⟩ | ⟨i, x, rfl, hi, hxi, hp, _⟩
  · have Hr := hid (show l.any p = false from List.any_eq_false.2 fun x hx => by rw [hr x hx]; simp)
    clear hr
    go_wp2
    go_ret
    exact ⟨by rw [Hr.out]; rfl, hx⟩
  · have Hr := hid (show l.any p = true from List.any_eq_true.2 ⟨x, List.mem_of_getElem? hxi, hp⟩)
    clear hp hxi
    go_wp2
    go_ret
    exact ⟨by rw [Hr.out]; rfl, hx⟩
theorem setwithinc_any (g : Nat) (vb : Value) (b : List Int) (n : Int) (w : World) (n0 : Nat) (hB : Blk w g #[vb] 45) (hb : IntsR w n0 vb b) :
    Calls Tryz.prog 98 #[.int .i64 n, .pointer (some ⟨g, 0, none⟩)] w fun e w' => e = .returned (.bool (!decide (n ∈ b))) ∧ Ext w w' := by
  have H := hid (sethas_any vb b n w n0 hb)
  obtain ⟨a, cap, rfl, _⟩ := hb
  have c0 := hB.av 0 rfl
  simp only [qA0, qA1] at c0
  clear hB
  generalize decide (n ∈ b) = d at *
  go_enter Tryz.func98, Tryz.ntmps98
  go_wp2_with fail
  refine H.out.mono ?_
  intro e w1 hx
  obtain ⟨rfl, rfl⟩ := hx
  clear H c0
  go_wp2
  go_ret
  exact ⟨rfl, Ext.refl _⟩
set_option maxRecDepth 100000 in
set_option maxHeartbeats 800000 in
theorem setwithin_any (va vb : Value) (a b : List Int) (w : World) (n0 : Nat) (ha : IntsR w n0 va a) (hb : IntsR w n0 vb b) :
    Calls Tryz.prog 42 #[va, vb] w fun e w' => e = .returned (.bool (a.all fun n => decide (n ∈ b))) ∧ Ext w w' := by
  obtain ⟨W, hW⟩ : ∃ W, W = w.alloc (.cells #[vb] 45) := ⟨_, rfl⟩
  have hxW : Ext w W := by rw [hW]; exact (Ext.refl _).alloc _
  have HBl : Hid (Blk W w.heap.size #[vb] 45) := hid (by rw [hW]; exact Blk.new _ _ _)
  have HC := hid (containsfi_wi (.pointer (some ⟨w.heap.size, 0, none⟩)) (fun n => !decide (n ∈ b)) va a W n0 (ha.old (hxW.old n0)) (fun n w2 x2 => setwithinc_any w.heap.size vb b n w2 n0 (HBl.out.ext x2) (hb.old ((hxW.trans x2).old n0))))
  have HxW := hid hxW
  obtain ⟨aa, ca, rfl, _⟩ := ha
  obtain ⟨ab, cb, rfl, _⟩ := hb
  have HWe := hid hW
  obtain ⟨d, hd⟩ : ∃ d, d = a.any (fun n => !decide (n ∈ b)) := ⟨_, rfl⟩
  have Hd : Hid ((a.all fun n => decide (n ∈ b)) = !d) := hid (by
    rw [hd, List.any_eq_not_all_not, Bool.not_not]
    congr 1
    funext n
    rw [Bool.not_not])
  rw [← hd] at HC
  clear hxW hW hd
  go_enter Tryz.func42, Tryz.ntmps42
  go_wp2_with fail
  rw [← HWe.out]
  refine HC.out.mono ?_
  intro e w1 hx
  obtain ⟨rfl, hx1⟩ := hx
  have Hx1 := hid (HxW.out.trans hx1)
  clear HC hx1
  go_wp2
  go_ret
  exact ⟨by rw [Hd.out]; rfl, Hx1.out⟩
theorem rule_a_in {P : PP} (hw : P.Well) {k : Nat} (hk : k < P.stmts.length) : 0 ≤ (P.ruleV k (P.stAt k)).a ∧ (P.ruleV k (P.stAt k)).a < P.vars.length := by
  have h0 := hw.2 k (P.stAt k) hk (stAt_some hk)
  have hg := PP.good h0
  obtain ⟨x, hx⟩ : ∃ x, x = P.stAt k := ⟨_, rfl⟩
  rw [← hx] at h0 hg ⊢
  unfold PP.ruleV
  cases h1 : x.isK kAddr with
  | true => exact hg.gx
  | false =>
    cases h2 : x.isK kNew with
    | true => exact hg.gx
    | false =>
      cases h3 : x.isK kFun with
      | true => exact hg.gx
      | false =>
        have hy := hg.yv h3 h2
        cases h4 : x.isK kCall with
        | true => exact hy
        | false => exact hy
end Go.Proofs.YtbagppdibncfdaaGreatDoor
