/- Texts of one proof, put together: YK S3 S4 YB YN YM YG YC YD. -/
import Derived.Test.YtihdpijgngooaaaGreatDoorHCG09
import Derived.Test.YtihdpijgngooaaaGreatDoorHCG10
import Derived.Test.YtihdpijgngooaaaGreatDoorHCG11
import Derived.Lib.AppendZeros
import Derived.Test.YtihdpijgngooaaaGreatDoorHCG01
set_option linter.unusedSimpArgs false
set_option linter.unusedVariables false
namespace Go.Proofs.YtihdpijgngooaaaGreatDoor
open Go Go.RowKit
def PP.InN (P : PP) (e : Int × Int) : Prop := 0 ≤ e.1 ∧ e.1 < P.nodesV ∧ 0 ≤ e.2 ∧ e.2 < P.nodesV
theorem nodes_in {P : PP} {has : List (List Int)} (hs : SetsOk P has) (i : Nat) (o : Int) (ho : o ∈ P.nodesOf (has.getD i [])) : 0 ≤ o ∧ o < (P.nodesV : Int) := by
  unfold PP.nodesOf at ho
  obtain ⟨h1, h2⟩ := List.mem_filter.1 ho
  have h3 : o < (P.nodesV : Int) := by simpa using h2
  rw [List.getD_eq_getElem?_getD] at h1
  cases he : has[i]? with
  | none => rw [he] at h1; cases h1
  | some l => rw [he] at h1; exact ⟨(hs.inr l (List.mem_of_getElem? he) o h1).1, h3⟩
theorem called_in {P : PP} (hw : P.Well) {f : PF} (hf : f ∈ P.funs) {r : RV} (hb : 0 ≤ r.b ∧ r.b < P.nodesV) (ha : ∀ a ∈ r.args, 0 ≤ a ∧ a < (P.nodesV : Int)) : ∀ e ∈ calledV f r, P.InN e := by
  intro e he
  have g := PP.goodF (PP.funs_ok hw.1) hf
  have hnv := nodes_vars P
  unfold calledV at he
  split at he
  · rcases List.mem_cons.1 he with rfl | he
    · have := g.ret
      exact ⟨this.1, by show f.ret < _; omega, hb.1, hb.2⟩
    · obtain ⟨a, b⟩ := e
      obtain ⟨h1, h2⟩ := List.of_mem_zip he
      have p1 := ha a h1
      have p2 := g.params b h2
      exact ⟨p1.1, p1.2, p2.1, by show b < _; omega⟩
  · cases he
set_option maxRecDepth 100000 in
theorem redges_in {P : PP} {has : List (List Int)} (hw : P.Well) (hs : SetsOk P has) {k : Nat} (hk : k < P.stmts.length) : ∀ e ∈ P.redges (P.ruleV k (P.stAt k)) has, P.InN e := by
  have h0 := hw.2 k (P.stAt k) hk (stAt_some hk)
  have hg := PP.good h0
  have hnv := nodes_vars P
  obtain ⟨x, hx⟩ : ∃ x, x = P.stAt k := ⟨_, rfl⟩
  rw [← hx] at h0 hg ⊢
  have hgx := hg.gx
  rcases kind_cases h0 with g | g | g | g | g | g | g
  · rw [redges_nil (by unfold PP.ruleV; rw [g]; rfl)]
    intro e he; cases he
  · have e : P.ruleV k x = ⟨x.kind, x.y, x.x, k, []⟩ := by unfold PP.ruleV; rw [isK_ne g (k' := kAddr) rfl, isK_ne g (k' := kNew) rfl, isK_ne g (k' := kFun) rfl, isK_ne g (k' := kCall) rfl]; rfl
    have hy := hg.yv (isK_ne g (k' := kFun) rfl) (isK_ne g (k' := kNew) rfl)
    have h2 : (x.kind.toList == kCopy) = true := g
    rw [e]
    unfold PP.redges
    dsimp only
    rw [h2, cond_true]
    intro e he
    obtain rfl := List.mem_singleton.1 he
    exact ⟨hy.1, by show x.y < _; omega, hgx.1, by show x.x < _; omega⟩
  · have e : P.ruleV k x = ⟨x.kind, x.y, x.x, k, []⟩ := by unfold PP.ruleV; rw [isK_ne g (k' := kAddr) rfl, isK_ne g (k' := kNew) rfl, isK_ne g (k' := kFun) rfl, isK_ne g (k' := kCall) rfl]; rfl
    have h1 : (x.kind.toList == kCopy) = false := isK_ne g (k' := kCopy) rfl
    have h2 : (x.kind.toList == kLoad) = true := g
    rw [e]
    unfold PP.redges
    dsimp only
    rw [h1, h2, cond_true, cond_false]
    intro e he
    obtain ⟨o, ho, rfl⟩ := List.mem_map.1 he
    have := nodes_in hs _ o ho
    exact ⟨this.1, this.2, hgx.1, by show x.x < _; omega⟩
  · have e : P.ruleV k x = ⟨x.kind, x.y, x.x, k, []⟩ := by unfold PP.ruleV; rw [isK_ne g (k' := kAddr) rfl, isK_ne g (k' := kNew) rfl, isK_ne g (k' := kFun) rfl, isK_ne g (k' := kCall) rfl]; rfl
    have hy := hg.yv (isK_ne g (k' := kFun) rfl) (isK_ne g (k' := kNew) rfl)
    have h1 : (x.kind.toList == kCopy) = false := isK_ne g (k' := kCopy) rfl
    have h3 : (x.kind.toList == kLoad) = false := isK_ne g (k' := kLoad) rfl
    have h2 : (x.kind.toList == kStore) = true := g
    rw [e]
    unfold PP.redges
    dsimp only
    rw [h1, h2, h3, cond_true, cond_false, cond_false]
    intro e he
    obtain ⟨o, ho, rfl⟩ := List.mem_map.1 he
    have := nodes_in hs _ o ho
    exact ⟨hy.1, by show x.y < _; omega, this.1, this.2⟩
  · rw [redges_nil (by unfold PP.ruleV; rw [isK_ne g (k' := kAddr) rfl, g]; rfl)]
    intro e he; cases he
  · rw [redges_nil (by unfold PP.ruleV; rw [isK_ne g (k' := kAddr) rfl, isK_ne g (k' := kNew) rfl, g]; rfl)]
    intro e he; cases he
  · have e : P.ruleV k x = ⟨bCall, x.y, x.x, k, x.args⟩ := by unfold PP.ruleV; rw [isK_ne g (k' := kAddr) rfl, isK_ne g (k' := kNew) rfl, isK_ne g (k' := kFun) rfl, g]; rfl
    have hkd := eq_of_beq bCall_list
    rw [e]
    unfold PP.redges kCopy kLoad kStore kCall
    dsimp only
    rw [hkd]
    intro e he
    obtain ⟨o, _, ho⟩ := List.mem_flatMap.1 (show e ∈ (has.getD x.y.toNat []).flatMap (P.callsOf ⟨bCall, x.y, x.x, k, x.args⟩) from he)
    unfold PP.callsOf at ho
    split at ho
    · rename_i hF
      have hlt := funV_lt hF
      have hn : (P.funV o).toNat < P.funs.length := by omega
      rw [List.getD_eq_getElem?_getD, List.getElem?_eq_getElem hn] at ho
      exact called_in hw (List.getElem_mem hn) (r := ⟨bCall, x.y, x.x, k, x.args⟩) ⟨hgx.1, by show x.x < _; omega⟩ (fun a ha => by have := hg.args a ha; omega) e ho
    · cases ho
theorem edges0_in {P : PP} {has : List (List Int)} (hw : P.Well) (hs : SetsOk P has) : ∀ e ∈ P.edges0 has, P.InN e := by
  intro e he
  unfold PP.edges0 PP.rulesV PP.rulesUp at he
  obtain ⟨r, hr, he⟩ := List.mem_flatMap.1 he
  obtain ⟨k, hk, rfl⟩ := List.mem_map.1 hr
  exact redges_in hw hs (List.mem_range.1 hk) e he
theorem nodesV_le (P : PP) (hw : P.Well) : P.nodesV ≤ 120 := by
  have := hw.few
  have := P.nodesV_le2
  omega
structure EdgesAre (P : PP) (has : List (List Int)) (l : List (Int × Int)) : Prop where
  srt : SrtP l
  mem : ∀ e, e ∈ l ↔ e ∈ P.edges0 has ∧ e.1 ≠ e.2
theorem EdgesAre.uniq {P : PP} {has : List (List Int)} {a b : List (Int × Int)} (h : EdgesAre P has a) (k : EdgesAre P has b) : a = b :=
  srtP_uniq h.srt k.srt fun e => (h.mem e).trans (k.mem e).symm
set_option maxRecDepth 100000 in
set_option maxHeartbeats 800000 in
theorem igrow_any (n : Nat) (w : World) (hn : n ≤ 100000) :
    Calls Tryz.prog 183 #[.slice none 0 0, .int .i64 (n : Int)] w fun e w' => ∃ v, e = .returned v ∧ Ext w w' ∧ IRow w.heap.size w' v [] := by
  rcases Nat.eq_zero_or_pos n with rfl | h0
  · go_enter Tryz.func183, Tryz.ntmps183
    go_wp2
    go_ret
    exact ⟨_, rfl, Ext.refl _, IRow.nil _ _⟩
  · obtain ⟨i, hi, hz0, hz, hz2⟩ : ∃ i, Tryz.prog.info? 3 = some i ∧ i.zero = some (.int .i64 0) ∧ i.size = 1 ∧ i.bytes = 8 := by
      have h := ints_info
      cases hi : Tryz.prog.info? 3 with
      | none => rw [hi] at h; cases h
      | some i =>
        rw [hi] at h
        simp only [Option.map_some, Option.some.injEq, Prod.mk.injEq] at h
        exact ⟨i, rfl, h.1, h.2.1, h.2.2⟩
    have hr := fun ty => Lib.run_append_nil_zeros (P := Tryz.prog) w 43 3 ty 3 i (.int .i64 0) .i64 .i64 Tryz.underlying43 Tryz.underlying3 hi hz0 n h0 (by omega) (by omega) (by rw [hz2]; omega)
    have hG := grownCap_ge w n 0 3
    have hG2 := grownCap_le_maxLen w n 0 3 (by unfold maxLen; omega)
    generalize grownCap w n 0 3 = G at *
    have hG3 : G ≤ 9223372036854775807 := by unfold maxLen at hG2; omega
    obtain ⟨W, hW⟩ : ∃ W, W = w.drew.alloc (.cells (Builtin.zeroCells (Value.int .i64 0).cells n ++ Builtin.zeroCells (Value.int .i64 0).cells (G - n)) 3) := ⟨_, rfl⟩
    have hx : Hid (Ext w W) := hid (by rw [hW]; exact ((Ext.refl w).drew).alloc _)
    have hrow : Hid (IRow w.heap.size W (.slice (some ⟨w.heap.size, 0, none⟩) 0 G) []) := hid ⟨rfl, .inr ⟨w.heap.size, G, _, rfl, Nat.le_refl _, by rw [hW]; exact Blk.new w.drew _ _, Nat.zero_le _, hG2, by simp [Builtin.zeroCells, Value.cells]; omega, rfl⟩⟩
    rw [← hW] at hr
    have Hr := hid hr
    clear hr hW hi hz0 hz hz2 hG2
    have hn' : (0 : Int) < (n : Int) := by omega
    go_enter Tryz.func183, Tryz.ntmps183
    go_wp2_with (at_builtin; refine Lib.wpList_append_run _ rfl _ _ _ _ rfl _ _ rfl rfl _ _ (Hr.out _) ?_)
    go_ret
    exact ⟨_, rfl, hx.out, hrow.out⟩
set_option maxRecDepth 100000 in
set_option maxHeartbeats 1600000 in
theorem iconcat_any (g : Nat) (va vb : Value) (a b : List Int) (w : World) (n0 : Nat) (hB : Blk w g #[va, vb] 43) (ha : IntsR w n0 va a) (hb : IntsR w n0 vb b) (hla : a.length ≤ 10000) (hlb : b.length ≤ 10000) :
    Calls Tryz.prog 171 #[.slice (some ⟨g, 0, none⟩) 2 2] w fun e w' => ∃ v, e = .returned v ∧ Ext w w' ∧ IRow w.heap.size w' v (a ++ b) := by
  have HA := hid ha
  have HB := hid hb
  obtain ⟨aa, ca, rfl, _⟩ := ha
  obtain ⟨ab, cb, rfl, _⟩ := hb
  have HBl := hid hB
  have HG := fun w1 => hid (igrow_any (a.length + b.length) w1 (by omega))
  have c0 := hB.av 0 rfl
  have c1 := hB.av 1 rfl
  simp only [qA0, qA1, qA2] at c0 c1
  clear hB
  go_enter Tryz.func171, Tryz.ntmps171
  go_wp2
  go_loop [3, 11] (fun t3 t11 => ∃ k m : Nat, t11 = .int .i64 (k : Int) ∧ t3 = .int .i64 (m : Int) ∧ ((k = 0 ∧ m = 0) ∨ (k = 1 ∧ m = a.length) ∨ (k = 2 ∧ m = a.length + b.length))) (fun _ t11 => 2 - (intOf t11).toNat)
  case atStart => exact ⟨0, 0, rfl, rfl, .inl ⟨rfl, rfl⟩⟩
  case round =>
    obtain ⟨k, m, rfl, rfl, ⟨rfl, rfl⟩ | ⟨rfl, rfl⟩ | ⟨rfl, rfl⟩⟩ := hrel
    · go_wp2
      refine ⟨⟨1, a.length, by go_num, by go_num, .inr (.inl ⟨rfl, rfl⟩)⟩, by simp [intOf]⟩
    · go_wp2
      refine ⟨⟨2, a.length + b.length, by go_num, by go_num, .inr (.inr ⟨rfl, rfl⟩)⟩, by simp [intOf]⟩
    · have HG1 := HG w
      clear HG
      go_wp2_with fail
      refine HG1.out.mono ?_
      intro e w1 hx
      obtain ⟨v1, rfl, hx1, hr1⟩ := hx
      obtain ⟨a1, p1, rfl⟩ := hr1.form
      have Hr1 := hid hr1
      have Hx1 := hid hx1
      clear HG1 hr1 hx1 c0 c1
      go_wp2
      go_loopw [6, 27] (fun t6 t27 wr => ∃ (k : Nat) (x : List Int), t27 = .int .i64 (k : Int) ∧ IRow w.heap.size wr t6 x ∧ Ext w wr ∧ ((k = 0 ∧ x = []) ∨ (k = 1 ∧ x = a) ∨ (k = 2 ∧ x = a ++ b))) (fun _ t27 _ => 2 - (intOf t27).toNat)
      case atStart => exact ⟨0, [], rfl, Hr1.out, Hx1.out, .inl ⟨rfl, rfl⟩⟩
      case round =>
        obtain ⟨k, x, rfl, hr, hx, hcase⟩ := hrel
        obtain ⟨at6, ct6, rfl⟩ := hr.form
        have Hr := hid hr
        have Hx := hid hx
        have c0 := (HBl.out.ext hx).av 0 rfl
        have c1 := (HBl.out.ext hx).av 1 rfl
        simp only [qA0, qA1, qA2] at c0 c1
        clear hr hx
        rcases hcase with ⟨rfl, rfl⟩ | ⟨rfl, rfl⟩ | ⟨rfl, rfl⟩
        · have HSrc := hid (HA.out.old (Hx.out.old n0)).src
          go_wp2_with (at_builtin; refine wpList_append_src w.heap.size Hx.out.size 43 3 (.int .i64 0) 1 8 Tryz.underlying43 ints_info rfl (by omega) (by omega) rfl _ _ rfl (.slice at6 0 ct6) 0 (icells []) rfl Hr.out _ _ _ _ rfl HSrc.out (by omega) ?_; intro v' w' h1 h2 h4; obtain ⟨a', c', rfl⟩ := row_form h1; have h3 := hid (Keep.new Hx.out h2 (fun k hk => (Hr.out.lt hk).1)); have h1 := hid h1; clear h2 h4)
          go_roundw
          case rel => exact ⟨1, a, by go_num, by have := h1.out; unfold IRow; simpa [icells] using this, h3.out, .inr (.inl ⟨rfl, rfl⟩)⟩
          case measure => simp [intOf]
        · have HSrc := hid (HB.out.old (Hx.out.old n0)).src
          go_wp2_with (at_builtin; refine wpList_append_src w.heap.size Hx.out.size 43 3 (.int .i64 0) 1 8 Tryz.underlying43 ints_info rfl (by omega) (by omega) rfl _ _ rfl (.slice at6 x.length ct6) x.length (icells x) rfl Hr.out _ _ _ _ rfl HSrc.out (by omega) ?_; intro v' w' h1 h2 h4; obtain ⟨a', c', rfl⟩ := row_form h1; have h3 := hid (Keep.new Hx.out h2 (fun k hk => (Hr.out.lt hk).1)); have h1 := hid h1; clear h2 h4)
          go_roundw
          case rel => exact ⟨2, x ++ b, by go_num, by have := h1.out; unfold IRow; rw [icells_append, List.length_append]; exact this, h3.out, .inr (.inr ⟨rfl, rfl⟩)⟩
          case measure => simp [intOf]
        · go_wp2
          go_ret
          exact ⟨_, rfl, Hx.out, Hr.out⟩
theorem bothE_zero {a b : List Int} : bothE a b = 0 ↔ chkE a = 0 ∧ chkE b = 0 := by
  unfold bothE
  by_cases h : chkE a = 0
  · rw [if_pos h]; exact ⟨fun g => ⟨h, g⟩, fun g => g.2⟩
  · rw [if_neg h]; exact ⟨fun g => absurd g h, fun g => absurd g.1 h⟩
def TwoR (ad : Nat → Addr) (a b c : List Int) (n0 : Nat) (w : World) (t : Value) : Prop :=
  (bothE a b = 0 ∧ ∃ v, t = .tuple #[v, .nilIface] ∧ IRow n0 w v c) ∨ (bothE a b ≠ 0 ∧ t = .tuple #[.slice none 0 0, evOf ad (bothE a b)])
theorem errv_no {ad : Nat → Addr} {c : Nat} (h : c = 0) : errv (evOf ad) c = .nilIface := by unfold errv; rw [if_pos h]
theorem errv_yes {ad : Nat → Addr} {c : Nat} (h : c ≠ 0) : errv (evOf ad) c = .iface 262 (.pointer (some (ad c))) := by unfold errv evOf; rw [if_neg h]
set_option maxRecDepth 100000 in
set_option maxHeartbeats 1600000 in
theorem setunion_any (va vb : Value) (a b : List Int) (w : World) (n0 : Nat) (ad : Nat → Addr) (hE : ErrS w ad) (ha : IntsR w n0 va a) (hb : IntsR w n0 vb b) (hla : a.length ≤ 10000) (hlb : b.length ≤ 10000) :
    Calls Tryz.prog 148 #[va, vb] w fun e w' => ∃ t, e = .returned t ∧ TwoR ad a b (sset (a ++ b)) w.heap.size w' t ∧ Ext w w' := by
  have HK := hid (setboth_any va vb a b w n0 ad hE ha hb)
  have HA := hid ha
  have HB := hid hb
  have HE := hid hE
  obtain ⟨aa, ca, rfl, _⟩ := ha
  obtain ⟨ab, cb, rfl, _⟩ := hb
  clear hE
  by_cases h0 : bothE a b = 0
  · rw [errv_no h0] at HK
    have H0 := hid h0
    obtain ⟨ha0, hb0⟩ := bothE_zero.1 h0
    have Hin : Hid (InR (a ++ b)) := hid ((chkE_zero.1 ha0).1.app (chkE_zero.1 hb0).1)
    clear h0 ha0 hb0
    go_enter Tryz.func148, Tryz.ntmps148
    go_wp2_with fail
    refine HK.out.mono ?_
    intro e w1 hx
    obtain ⟨rfl, hx1⟩ := hx
    obtain ⟨W, hW⟩ : ∃ W, W = w1.alloc (.cells #[.slice aa a.length ca, .slice ab b.length cb] 43) := ⟨_, rfl⟩
    have hxW : Ext w W := by rw [hW]; exact hx1.alloc _
    have HxW := hid hxW
    obtain ⟨l, hl⟩ : ∃ l, l = a ++ b := ⟨_, rfl⟩
    have hll : l.length ≤ 20000 := by rw [hl, List.length_append]; omega
    have Hl := hid hl
    have HC := hid (iconcat_any w1.heap.size _ _ a b W n0 (by rw [hW]; exact Blk.new _ _ _) (HA.out.old (hxW.old n0)) (HB.out.old (hxW.old n0)) hla hlb)
    have HW := hid hW
    rw [← hl] at HC Hin
    clear HK hx1 hxW hW hl
    go_wp2_with fail
    rw [← HW.out]
    refine HC.out.mono ?_
    intro e w2 hx
    obtain ⟨v2, rfl, hx2, hr2⟩ := hx
    obtain ⟨a2, p2, rfl⟩ := hr2.form
    have HO := hid (setof_any _ l w2 w2.heap.size ad (HE.out.ext (HxW.out.trans hx2)) (IntsR.own hr2 (Nat.le_refl _)) (by omega))
    have Hx2 := hid (HxW.out.trans hx2)
    clear HC hx2 hr2
    go_wp2_with fail
    refine HO.out.mono ?_
    intro e w3 hx
    obtain ⟨t3, rfl, ho, hx3⟩ := hx
    obtain ⟨v3, rfl, hr3⟩ : ∃ v, t3 = .tuple #[v, .nilIface] ∧ IRow w2.heap.size w3 v (sset l) := by
      rcases ho with ⟨_, h⟩ | ⟨h, _⟩
      · exact h
      · exact absurd Hin.out h
    obtain ⟨a3, p3, rfl⟩ := hr3.form
    have Hr3 := hid (hr3.base Hx2.out.size)
    have Hx3 := hid (Hx2.out.trans hx3)
    clear HO ho hr3 hx3
    go_wp2
    go_ret2
    exact ⟨_, rfl, .inl ⟨H0.out, _, rfl, by rw [← Hl.out]; exact Hr3.out⟩, Hx3.out⟩
  · rw [errv_yes h0] at HK
    have H0 := hid h0
    clear h0
    go_enter Tryz.func148, Tryz.ntmps148
    go_wp2_with fail
    refine HK.out.mono ?_
    intro e w1 hx
    obtain ⟨rfl, hx1⟩ := hx
    have Hx1 := hid hx1
    clear HK hx1
    go_wp2
    go_ret2
    exact ⟨_, rfl, .inr ⟨H0.out, rfl⟩, Hx1.out⟩
def PP.setE (P : PP) (l : List Int) : Nat := if chkE l = 0 then (if 0 < l.length ∧ (P.objectsV : Int) ≤ l.getD (l.length - 1) 0 then 2 else 0) else chkE l
def SetsIs (ad : Nat → Addr) (P : PP) (has : List (List Int)) (w : World) (v : Value) : Prop :=
  (has.length ≠ P.nodesV ∧ v = evOf ad 3) ∨ (has.length = P.nodesV ∧ (∀ l ∈ has, P.setE l = 0) ∧ v = .nilIface) ∨
  (has.length = P.nodesV ∧ ∃ (i : Nat) (l : List Int) (b : Nat), has[i]? = some l ∧ P.setE l ≠ 0 ∧ (∀ j m, j < i → has[j]? = some m → P.setE m = 0) ∧ v = .iface 134 (.pointer (some ⟨b, 0, none⟩)) ∧ Blk w b #[.int .i64 (i : Int), evOf ad (P.setE l)] 138)
theorem setE_zero {P : PP} {l : List Int} (h : P.setE l = 0) : chkE l = 0 ∧ ∀ x ∈ l, x < P.objectsV := by
  unfold PP.setE at h
  by_cases h0 : chkE l = 0
  · rw [if_pos h0] at h
    refine ⟨h0, fun x hx => ?_⟩
    obtain ⟨i, hi, rfl⟩ := List.getElem_of_mem hx
    have hl : 0 < l.length := by omega
    by_cases hb : 0 < l.length ∧ (P.objectsV : Int) ≤ l.getD (l.length - 1) 0
    · rw [if_pos hb] at h; cases h
    · have hlast : l.getD (l.length - 1) 0 < (P.objectsV : Int) := by omega
      rw [List.getD_eq_getElem?_getD, List.getElem?_eq_getElem (by omega)] at hlast
      have hs := (chkE_zero.1 h0).2
      rcases Nat.lt_or_ge i (l.length - 1) with g | g
      · have := List.pairwise_iff_getElem.1 hs i (l.length - 1) hi (by omega) g
        have h2 : (some (l[l.length - 1]'(by omega))).getD 0 = l[l.length - 1]'(by omega) := rfl
        rw [h2] at hlast
        omega
      · have e : i = l.length - 1 := by omega
        subst e
        exact hlast
  · rw [if_neg h0] at h; exact absurd h h0
theorem SetsOk.of {P : PP} {has : List (List Int)} (h1 : has.length = P.nodesV) (h2 : ∀ l ∈ has, P.setE l = 0) : SetsOk P has := ⟨h1, fun l hl => setE_zero (h2 l hl)⟩
set_option maxRecDepth 100000 in
set_option maxHeartbeats 3200000 in
theorem conssets_any (a1 a2 a3 : Option Addr) (c1 c2 c3 : Nat) (P : PP) (hv : Value) (has : List (List Int)) (w : World) (n0 : Nat) (ad : Nat → Addr) (h : PW w n0 ad a1 a2 a3 c1 c2 c3 P) (hS : ErrS w ad) (hh : SetsR w n0 hv has) :
    Calls Tryz.prog 93 #[pval a1 a2 a3 c1 c2 c3 P, hv] w fun e w' => ∃ v, e = .returned v ∧ SetsIs ad P has w' v ∧ Ext w w' := by
  obtain ⟨ah, ch, rfl⟩ := hh.form
  have hhl := hh.len
  have HO := fun w1 (x : Ext w w1) => hid (progobjects_any a1 a2 a3 c1 c2 c3 P w1 n0 ad (h.ext x))
  have g3 := h.errs.at3
  have HH := hid hh
  have HS := hid hS
  obtain ⟨W, hW⟩ : ∃ W, W = w.alloc (.cells (pcells a1 a2 a3 c1 c2 c3 P) 26) := ⟨_, rfl⟩
  have HX : Hid (Ext w W) := hid (by rw [hW]; exact (Ext.refl _).alloc _)
  have HBx : Hid (Blk W w.heap.size (pcells a1 a2 a3 c1 c2 c3 P) 26) := hid (by rw [hW]; exact Blk.new _ _ _)
  have HWe : Hid (W = w.alloc (.cells #[.slice a1 P.vars.length c1, .slice a2 P.funs.length c2, .slice a3 P.stmts.length c3] 26)) := hid (by rw [hW]; rfl)
  have HPW := hid h
  have HK := fun w1 (x : Ext w w1) => hid (check_well (h.errs.ext x) (h.prog.ext x) h.z1 h.z2 h.well)
  have HN := fun w1 (x : Ext w w1) => hid (prognodes_any a1 a2 a3 c1 c2 c3 P w1 n0 ad (h.errs.ext x) (h.prog.ext x) h.z1 h.z2 h.well)
  obtain ⟨hf1, hf2, hf3⟩ := h.well.few
  have hnl := P.nodesV_le2
  have d0 := HBx.out.av 0 rfl
  have d1 := HBx.out.av 1 rfl
  have d2 := HBx.out.av 2 rfl
  simp only [pcells, qA0, qA1, qA2] at d0 d1 d2
  unfold pval at HK HN ⊢
  clear hW h
  have G3 := hid g3
  unfold pval at HO
  obtain ⟨N, hN⟩ : ∃ N, N = P.nodesV := ⟨_, rfl⟩
  obtain ⟨M, hM⟩ : ∃ M, M = P.objectsV := ⟨_, rfl⟩
  have hMl : M ≤ 1000 := by rw [hM]; unfold PP.objectsV; omega
  have HNe := hid hN
  have HMe := hid hM
  rw [← hN] at hnl HN
  rw [← hM] at HO
  clear hN hM g3 hh hS HK
  go_enter Tryz.func93, Tryz.ntmps93
  go_wp2_with fail
  rw [← HWe.out]
  have HN1 := HN W HX.out
  refine HN1.out.mono ?_
  intro e w1 hx
  obtain ⟨rfl, hx1⟩ := hx
  have Hx1 := hid (HX.out.trans hx1)
  have HBx1 := hid (HBx.out.ext hx1)
  clear HN HN1 hx1 d0 d1 d2
  by_cases hlen : has.length = N
  · have Hlen : Hid (has.length = P.nodesV) := hid (by rw [← HNe.out]; exact hlen)
    have e0 : ((has.length : Int) != (N : Int)) = false := by rw [hlen]; simp
    clear hlen
    have d0 := HBx1.out.av 0 rfl
    have d1 := HBx1.out.av 1 rfl
    have d2 := HBx1.out.av 2 rfl
    simp only [pcells, qA0, qA1, qA2] at d0 d1 d2
    have HO1 := HO w1 Hx1.out
    go_wp2_with fail
    refine HO1.out.mono ?_
    intro e w2 hx
    obtain ⟨rfl, hx2⟩ := hx
    have Hx2 := hid (Hx1.out.trans hx2)
    clear HO HO1 hx2 d0 d1 d2 e0
    go_wp2
    go_loopw [19] (fun t19 wr => ∃ k : Nat, t19 = .int .i64 (k : Int) ∧ k ≤ has.length ∧ (∀ j m, j < k → has[j]? = some m → P.setE m = 0) ∧ Ext w wr) (fun t19 _ => has.length - (intOf t19).toNat)
    case atStart => exact ⟨0, rfl, Nat.zero_le _, fun j m h => by omega, Hx2.out⟩
    case round =>
      obtain ⟨k, rfl, hk, hp, hx⟩ := hrel
      have Hp := hid hp
      have Hx := hid hx
      clear hp hx
      by_cases hlt : k < has.length
      · obtain ⟨y, l, bl, cl, rfl, hl, hc, hI⟩ := (HH.out.old (Hx.out.old n0)).at hlt
        have HCk := hid (setcheck_any (.slice bl l.length cl) l wr n0 ad (HS.out.ext Hx.out) hI)
        have Hl := hid hl
        have HI := hid hI
        have hll := hI.len
        clear Hx2 hl hI
        by_cases h0 : chkE l = 0
        · rw [errv_no h0] at HCk
          have H0 := hid h0
          clear h0
          go_wp2_with fail
          refine HCk.out.mono ?_
          intro e w3 hx
          obtain ⟨rfl, hx3⟩ := hx
          have Hx2 := hid (Hx.out.trans hx3)
          have Hx3 := hid hx3
          clear HCk hx3 hc
          by_cases hl0 : 0 < l.length
          · obtain ⟨yl, q, hyl, hqm, hcq⟩ := (HI.out.old (Hx3.out.old n0)).at (show l.length - 1 < l.length by omega)
            subst hyl
            have Hq : Hid (l.getD (l.length - 1) 0 = q) := hid (by rw [List.getD_eq_getElem?_getD, hqm]; rfl)
            have G2 := HS.out.ext Hx2.out
            have g2 := G2.at2
            unfold evOf at g2
            clear hqm G2
            by_cases hqM : (M : Int) ≤ q
            · have HE : Hid (P.setE l = 2) := hid (by unfold PP.setE; rw [if_pos H0.out, if_pos ⟨hl0, by rw [Hq.out, ← HMe.out]; exact hqM⟩])
              have hbad : P.setE l ≠ 0 := by rw [HE.out]; exact (by decide)
              go_wp2
              go_ret
              refine ⟨_, rfl, .inr (.inr ⟨Hlen.out, k, l, _, Hl.out, hbad, Hp.out, rfl, ?_⟩), Hx2.out.alloc _⟩
              rw [HE.out]
              exact Blk.new _ _ _
            · have HE : Hid (P.setE l = 0) := hid (by unfold PP.setE; rw [if_pos H0.out, if_neg (fun h => hqM (by have := h.2; rw [Hq.out, ← HMe.out] at this; exact this))])
              clear g2
              go_wp2
              go_roundw
              case rel =>
                refine ⟨k + 1, by go_num, by omega, fun j m hj hm => ?_, Hx2.out⟩
                by_cases hjk : j = k
                · subst hjk
                  obtain rfl := Option.some.inj (Hl.out.symm.trans hm)
                  exact HE.out
                · exact Hp.out j m (by omega) hm
              case measure => simp [intOf]; omega
          · have HE : Hid (P.setE l = 0) := hid (by unfold PP.setE; rw [if_pos H0.out, if_neg (by omega)])
            go_wp2
            go_roundw
            case rel =>
              refine ⟨k + 1, by go_num, by omega, fun j m hj hm => ?_, Hx2.out⟩
              by_cases hjk : j = k
              · subst hjk
                obtain rfl := Option.some.inj (Hl.out.symm.trans hm)
                exact HE.out
              · exact Hp.out j m (by omega) hm
            case measure => simp [intOf]; omega
        · have HE : Hid (P.setE l = chkE l) := hid (by unfold PP.setE; rw [if_neg h0])
          rw [errv_yes h0] at HCk
          have H0 := hid h0
          clear h0
          go_wp2_with fail
          refine HCk.out.mono ?_
          intro e w3 hx
          obtain ⟨rfl, hx3⟩ := hx
          have Hx2 := hid (Hx.out.trans hx3)
          clear HCk hx3 hc
          have hbad : P.setE l ≠ 0 := by rw [HE.out]; exact H0.out
          go_wp2
          go_ret
          refine ⟨_, rfl, .inr (.inr ⟨Hlen.out, k, l, _, Hl.out, hbad, Hp.out, rfl, ?_⟩), Hx2.out.alloc _⟩
          rw [HE.out]
          exact Blk.new _ _ _
      · obtain rfl : k = has.length := by omega
        have Hall : Hid (∀ l ∈ has, P.setE l = 0) := hid fun l hl => by
          obtain ⟨j, hj, e⟩ := List.mem_iff_getElem.1 hl
          exact Hp.out j l hj (by rw [List.getElem?_eq_getElem hj, e])
        go_wp2
        go_ret
        exact ⟨_, rfl, .inr (.inl ⟨Hlen.out, Hall.out, rfl⟩), Hx.out⟩
  · have Hlen : Hid (has.length ≠ P.nodesV) := hid (by rw [← HNe.out]; exact hlen)
    have e0 : ((has.length : Int) != (N : Int)) = true := bne_iff_ne.2 (by omega)
    have g3 := Hx1.out.cellx G3.out
    unfold evOf at g3
    clear hlen HO
    go_wp2
    go_ret
    exact ⟨_, rfl, .inl ⟨Hlen.out, rfl⟩, Hx1.out⟩
structure ClosedP (P : PP) (has : List (List Int)) : Prop where
  base : ∀ k, k < P.stmts.length → (P.ruleV k (P.stAt k)).kind.toList = bBase.toList → (P.ruleV k (P.stAt k)).b ∈ has.getD (P.ruleV k (P.stAt k)).a.toNat []
  edge : ∀ e ∈ P.edges0 has, e.1 ≠ e.2 → ∀ n ∈ has.getD e.1.toNat [], n ∈ has.getD e.2.toNat []
def PP.turned (P : PP) : PP := ⟨P.vars, P.funs, P.stmts.reverse⟩
def PP.noNew (P : PP) : Prop := ∀ x ∈ P.stmts, x.isK kNew = false
def PP.sOk (P : PP) (has : List (List Int)) (x : PS) : Prop := (P.ruleV 0 x).kind.toList = bBase.toList → (P.ruleV 0 x).b ∈ has.getD (P.ruleV 0 x).a.toNat []
def Sub (a b : List (List Int)) : Prop := ∀ i x, x ∈ a.getD i [] → x ∈ b.getD i []
theorem nodesOf_mono {P : PP} {a b : List Int} (h : ∀ x, x ∈ a → x ∈ b) : ∀ x, x ∈ P.nodesOf a → x ∈ P.nodesOf b := fun x hx => by
  unfold PP.nodesOf at hx ⊢
  obtain ⟨h1, h2⟩ := List.mem_filter.1 hx
  exact List.mem_filter.2 ⟨h x h1, h2⟩
theorem redges_mono {P : PP} {a b : List (List Int)} (h : Sub a b) (r : RV) : ∀ e, e ∈ P.redges r a → e ∈ P.redges r b := by
  intro e
  unfold PP.redges
  cases r.kind.toList == kCopy
  · cases r.kind.toList == kLoad
    · cases r.kind.toList == kStore
      · cases r.kind.toList == kCall
        · exact id
        · simp only [cond_true, cond_false]
          intro he
          obtain ⟨o, ho, hm⟩ := List.mem_flatMap.1 he
          exact List.mem_flatMap.2 ⟨o, h _ _ ho, hm⟩
      · simp only [cond_true, cond_false]
        intro he
        obtain ⟨o, ho, hm⟩ := List.mem_map.1 he
        exact List.mem_map.2 ⟨o, nodesOf_mono (h _) _ ho, hm⟩
    · simp only [cond_true, cond_false]
      intro he
      obtain ⟨o, ho, hm⟩ := List.mem_map.1 he
      exact List.mem_map.2 ⟨o, nodesOf_mono (h _) _ ho, hm⟩
  · exact id
theorem edges0_mono {P : PP} {a b : List (List Int)} (h : Sub a b) : ∀ e, e ∈ P.edges0 a → e ∈ P.edges0 b := by
  intro e he
  unfold PP.edges0 at he ⊢
  obtain ⟨r, hr, hm⟩ := List.mem_flatMap.1 he
  exact List.mem_flatMap.2 ⟨r, hr, redges_mono h r e hm⟩
def plusAt (has : List (List Int)) (n : Nat) (o : Int) : List (List Int) := has.set n (sset (has.getD n [] ++ [o]))
theorem srtP_idx {b : List (Int × Int)} (h : SrtP b) {i j : Nat} {x y : Int × Int} (hi : b[i]? = some x) (hj : b[j]? = some y) (hlt : lexLt x y) : i < j := by
  have hil : i < b.length := by
    rcases Nat.lt_or_ge i b.length with g | g
    · exact g
    · rw [List.getElem?_eq_none g] at hi; cases hi
  have hjl : j < b.length := by
    rcases Nat.lt_or_ge j b.length with g | g
    · exact g
    · rw [List.getElem?_eq_none g] at hj; cases hj
  rw [List.getElem?_eq_getElem hil] at hi
  rw [List.getElem?_eq_getElem hjl] at hj
  obtain rfl := Option.some.inj hi
  obtain rfl := Option.some.inj hj
  rcases Nat.lt_trichotomy i j with g | g | g
  · exact g
  · subst g; exact absurd hlt (lexLt.irr _)
  · exact absurd (hlt.trans (List.pairwise_iff_getElem.1 h j i hjl hil g)) (lexLt.irr _)
theorem srtP_next {a : List (Int × Int)} (h : SrtP a) {i : Nat} {x y : Int × Int} (hi : a[i]? = some x) (hj : a[i + 1]? = some y) : lexLt x y := by
  have hjl : i + 1 < a.length := by
    rcases Nat.lt_or_ge (i + 1) a.length with g | g
    · exact g
    · rw [List.getElem?_eq_none g] at hj; cases hj
  rw [List.getElem?_eq_getElem (by omega)] at hi
  rw [List.getElem?_eq_getElem hjl] at hj
  obtain rfl := Option.some.inj hi
  obtain rfl := Option.some.inj hj
  exact List.pairwise_iff_getElem.1 h i (i + 1) (by omega) hjl (by omega)
def IdxG {α : Type} (p : α → Bool) (l : List α) (r : Int) : Prop := (r = -1 ∧ ∀ x ∈ l, p x = false) ∨ ∃ (i : Nat) (x : α), r = (i : Int) ∧ i < l.length ∧ l[i]? = some x ∧ p x = true ∧ ∀ j y, j < i → l[j]? = some y → p y = false
def eVal (e : Int × Int) : Value := .agg #[.int .i64 e.1, .int .i64 e.2]
theorem own_e {w : World} {base g n cap : Nat} {t : TypeId} {R : List (Int × Int)} (h : w.ownsRow base t 2 (.slice (some ⟨g, 0, none⟩) n cap) n (R.flatMap eCells)) {i : Nat} {x : Int × Int} (hx : R[i]? = some x) :
    w.cell? ⟨g, i * 2, none⟩ = some (.int .i64 x.1) ∧ w.cell? ⟨g, i * 2 + 1, none⟩ = some (.int .i64 x.2) := by
  have c : ∀ j v, (eCells x)[j]? = some v → j < 2 → w.cell? ⟨g, i * 2 + j, none⟩ = some v := fun j v hv hj => own_get h _ ((fm_get eCells 2 eCells_len R i j x hx hj).trans hv)
  exact ⟨c 0 _ rfl (by omega), c 1 _ rfl (by omega)⟩
theorem eset2 : ∀ (R : List (Int × Int)) (i : Nat) (y : Int × Int), i < R.length → ((R.flatMap eCells).set (i * 2) (.int .i64 y.1)).set (i * 2 + 1) (.int .i64 y.2) = (R.set i y).flatMap eCells
  | [], i, y, h => by simp at h
  | x :: l, 0, y, h => by simp [eCells]
  | x :: l, i + 1, y, h => by
    have ih := eset2 l i y (by simpa using h)
    rw [qS2, List.flatMap_cons, List.flatMap_cons, ← ih]
    rw [show (i + 1) * 2 = i * 2 + 2 by omega, show i * 2 + 2 + 1 = i * 2 + 1 + 2 by omega]
    simp only [eCells, List.cons_append, List.nil_append, qS2]
def storeE (w : World) (g i : Nat) (y : Int × Int) : World := (w.setCell ⟨g, i, none⟩ (.int .i64 y.1)).setCell ⟨g, i + 1, none⟩ (.int .i64 y.2)
theorem storeE_keep (w : World) (g i : Nat) (y : Int × Int) : Keep (fun b => b = g) w (storeE w g i y) :=
  have k : ∀ (u : World) j v, Keep (fun b => b = g) w u → Keep (fun b => b = g) w (u.setCell ⟨g, j, none⟩ v) := fun _ _ v h => h.set rfl v
  k _ _ _ (k _ _ _ (Keep.refl _ w))
theorem own_putE {w : World} {base g n cap : Nat} {e : TypeId} {R : List (Int × Int)} (h : w.ownsRow base e 2 (.slice (some ⟨g, 0, none⟩) n cap) n (R.flatMap eCells)) (i : Nat) (hi : i < R.length) (y : Int × Int) : (storeE w g (i * 2) y).ownsRow base e 2 (.slice (some ⟨g, 0, none⟩) n cap) n ((R.set i y).flatMap eCells) := by
  have hl : (R.flatMap eCells).length = R.length * 2 := fm_len eCells 2 eCells_len R
  rw [← eset2 R i y hi]
  unfold storeE
  exact own_set (own_set h _ (by omega) _) _ (by simp only [List.length_set]; omega) _
set_option maxRecDepth 100000 in
set_option maxHeartbeats 1600000 in
theorem eidx_same  (p : Int × Int → Bool) (lv : Value) (l : List (Int × Int)) (w : World) (n0 : Nat) (h : ERow n0 w lv l) (hfew : l.length ≤ 100000) (hF : ∀ n w1, n ∈ l → Ext w w1 → Calls Tryz.prog 96 (#[eVal n] ++ #[]) w1 fun e w' => e = .returned (.bool (p n)) ∧ Ext w1 w') :
    Calls Tryz.prog 126 #[lv, .func (.func 96) #[] #[]] w fun e w' => ∃ r : Int, e = .returned (.int .i64 r) ∧ IdxG p l r ∧ Ext w w' := by
  have HF := hid hF
  unfold ERow at h
  obtain ⟨a, c, rfl⟩ := row_form h
  have Hr := hid h
  clear hF h
  go_enter Tryz.func126, Tryz.ntmps126
  go_wp2
  go_loopw [8] (fun t8 wr => ∃ k : Nat, t8 = .int .i64 (k : Int) ∧ k ≤ l.length ∧ (∀ j t, j < k → l[j]? = some t → p t = false) ∧ Ext w wr) (fun t8 _ => l.length - (intOf t8).toNat)
  case atStart => exact ⟨0, rfl, Nat.zero_le _, fun j t h => by omega, Ext.refl _⟩
  case round =>
    obtain ⟨k, rfl, hk, hne, hx⟩ := hrel
    have Hne := hid hne
    have Hx := hid hx
    clear hne hx
    by_cases hlt : k < l.length
    · obtain ⟨g, cp, he⟩ := own_some Hr.out (by omega)
      simp only [Value.slice.injEq, true_and] at he
      obtain ⟨rfl, rfl⟩ := he
      obtain ⟨t, ht⟩ : ∃ t, l[k]? = some t := ⟨_, List.getElem?_eq_getElem hlt⟩
      obtain ⟨q0, q1⟩ := own_e (own_ext Hr.out Hx.out) ht
      have HN := hid (HF.out t wr (List.mem_of_getElem? ht) Hx.out)
      unfold eVal at HN
      have Hxk := hid ht
      clear ht
      go_wp2_with fail
      refine HN.out.mono ?_
      intro e w1 hx1
      obtain ⟨rfl, hx1⟩ := hx1
      have Hx1 := hid (Hx.out.trans hx1)
      clear HN hx1 Hx q0 q1
      cases he : p t with
      | true =>
        have Hin := hid (show IdxG p l (k : Int) from .inr ⟨k, t, rfl, hlt, Hxk.out, he, Hne.out⟩)
        go_wp2
        go_ret
        exact ⟨(k : Int), rfl, Hin.out, Hx1.out⟩
      | false =>
        have Hf := hid he
        clear he
        go_wp2
        go_roundw
        case rel =>
          refine ⟨k + 1, by go_num, by omega, fun j u hj hu => ?_, Hx1.out⟩
          by_cases hjk : j = k
          · subst hjk
            obtain rfl := Option.some.inj (Hxk.out.symm.trans hu)
            exact Hf.out
          · exact Hne.out j u (by omega) hu
        case measure => simp [intOf]; omega
    · obtain rfl : k = l.length := by omega
      have Hnot := hid (show IdxG p l (-1) from .inl ⟨rfl, fun x hx => by
        obtain ⟨j, hj, e2⟩ := List.mem_iff_getElem.1 hx
        exact Hne.out j x hj (by rw [List.getElem?_eq_getElem hj, e2])⟩)
      go_wp2
      go_ret
      exact ⟨(-1 : Int), rfl, Hnot.out, Hx.out⟩
theorem consedgesc1_any (e : Int × Int) (w : World) : Calls Tryz.prog 96 (#[eVal e] ++ #[]) w fun r w' => r = .returned (.bool (decide (e.1 = e.2))) ∧ Ext w w' := by
  obtain ⟨a, b⟩ := e
  unfold eVal
  show Calls Tryz.prog 96 #[.agg #[.int .i64 a, .int .i64 b]] w _
  by_cases h : a = b
  · subst h
    go_enter Tryz.func96, Tryz.ntmps96
    go_wp2
    go_ret
    exact ⟨by simp, (Ext.refl w).alloc _⟩
  · have h1 : (a == b) = false := beq_eq_false_iff_ne.2 h
    go_enter Tryz.func96, Tryz.ntmps96
    go_wp2
    go_ret
    exact ⟨by simp [h], (Ext.refl w).alloc _⟩
theorem filter_nextG {α : Type} {p : α → Bool} {l : List α} {j : Nat} {x : α} (hx : l[j]? = some x) : (l.take (j + 1)).filter p = (l.take j).filter p ++ (if p x = true then [x] else []) := by
  rw [List.take_add_one, hx]
  simp only [Option.toList, List.filter_append, List.filter_cons, List.filter_nil]
set_option maxRecDepth 100000 in
set_option maxHeartbeats 3200000 in
theorem edel_same  (p : Int × Int → Bool) (lv : Value) (l : List (Int × Int)) (w0 w : World) (n0 : Nat) (hx0 : Ext w0 w) (hb0 : w0.heap.size ≤ n0) (hr : ERow n0 w lv l) (hF : ∀ n w1, Ext w0 w1 → Calls Tryz.prog 96 (#[eVal n] ++ #[]) w1 fun e w' => e = .returned (.bool (p n)) ∧ Ext w1 w') (hfew : l.length ≤ 100000) :
    Calls Tryz.prog 95 #[lv, .func (.func 96) #[] #[]] w fun e w' => ∃ lv', e = .returned lv' ∧ ERow n0 w' lv' (l.filter fun x => !p x) ∧ Ext w0 w' := by
  have HI := hid (eidx_same  p lv l w n0 hr hfew (fun n w1 _ x => hF n w1 (hx0.trans x)))
  have HF := hid hF
  unfold ERow at hr
  obtain ⟨a, c, rfl⟩ := row_form hr
  have Hr := hid hr
  have Hx0 := hid hx0
  have Hb0 := hid hb0
  clear hr hF hx0 hb0
  go_enter Tryz.func95, Tryz.ntmps95
  go_wp2_with fail
  refine HI.out.mono ?_
  intro e w1 hx
  obtain ⟨r, rfl, hidx, hx1⟩ := hx
  have Hx1 := hid (Hx0.out.trans hx1)
  have Hr1 := hid (own_ext Hr.out hx1)
  clear HI hx1
  rcases hidx with ⟨rfl, hall⟩ | ⟨i0, x0, rfl, hi0, hx0, hd0, hlow⟩
  · have hf : Hid (l.filter (fun x => !p x) = l) := hid (List.filter_eq_self.2 fun x hx => by rw [hall x hx]; rfl)
    clear hall
    go_wp2
    go_ret
    exact ⟨_, rfl, by rw [hf.out]; exact Hr1.out, Hx1.out⟩
  · obtain ⟨gb, cp, he⟩ := own_some Hr1.out (by omega)
    simp only [Value.slice.injEq, true_and] at he
    obtain ⟨rfl, rfl⟩ := he
    obtain ⟨_, _, hbase, hcap, hmx, _⟩ := own_blk Hr1.out
    have hstart : l.take i0 = (l.take (i0 + 1)).filter fun x => !p x := by
      rw [filter_nextG hx0, hd0, List.filter_eq_self.2 fun x hx => ?_]
      · simp
      · obtain ⟨j, hj, e⟩ := List.mem_iff_getElem.1 hx
        rw [List.length_take] at hj
        rw [List.getElem_take] at e
        rw [hlow j x (by omega) (by rw [List.getElem?_eq_getElem (by omega), e])]; rfl
    have Hstart := hid hstart
    have Hbase := hid hbase
    have hmx' : (c : Int) ≤ 9223372036854775807 := by unfold maxLen at hmx; omega
    have hcl : (l.length : Int) ≤ (c : Int) := by omega
    have hi1 : ((i0 : Int) == -1) = false := beq_eq_false_iff_ne.2 (by omega)
    clear hstart hx0 hd0 hlow hbase hcap hmx
    go_wp2
    clear hi1
    go_loopw [5, 6] (fun t5 t6 wr => ∃ (i j : Nat) (R : List (Int × Int)), t5 = .int .i64 (i : Int) ∧ t6 = .int .i64 (j : Int) ∧ i < j ∧ j ≤ l.length ∧ R.length = l.length ∧ R.take i = (l.take j).filter (fun x => !p x) ∧ R.drop j = l.drop j ∧
      wr.ownsRow n0 95 2 (.slice (some ⟨gb, 0, none⟩) l.length c) l.length (R.flatMap eCells) ∧ Ext w0 wr) (fun _ t6 _ => l.length - (intOf t6).toNat)
    case atStart => exact ⟨i0, i0 + 1, l, rfl, rfl, by omega, by omega, rfl, Hstart.out, rfl, Hr1.out, Hx1.out⟩
    case round =>
      obtain ⟨i, j, R, rfl, rfl, hij, hj, hRl, hT, hD, hrow, hx⟩ := hrel
      have HRl := hid hRl
      have HT := hid hT
      have HD := hid hD
      have Hrow := hid hrow
      have Hx := hid hx
      clear hRl hT hD Hstart hrow hx
      by_cases hlt : j < l.length
      · have hxj : R[j]? = some (l[j]'hlt) := by
          have := congrArg (fun l => l[0]?) HD.out
          simpa [List.getElem?_drop, List.getElem?_eq_getElem hlt] using this
        obtain ⟨x, hxd⟩ : ∃ x, x = l[j]'hlt := ⟨_, rfl⟩
        rw [← hxd] at hxj
        have hxk : l[j]? = some x := by rw [hxd]; exact List.getElem?_eq_getElem hlt
        obtain ⟨c0, c1⟩ := own_e Hrow.out hxj
        have HN := hid (HF.out x (wr.alloc (.cells #[.int .i64 x.1, .int .i64 x.2] 95)) (Hx.out.alloc _))
        unfold eVal at HN
        have hW := hid (Blk.new wr #[.int .i64 x.1, .int .i64 x.2] 95)
        have HWx := hid ((Ext.refl wr).alloc (.cells #[.int .i64 x.1, .int .i64 x.2] 95))
        have Hxk := hid hxk
        have hji : (i : Int) < (l.length : Int) := by omega
        clear hxd hxj hxk
        go_wp2_with fail
        refine HN.out.mono ?_
        intro e w2 hx2
        obtain ⟨rfl, hx2⟩ := hx2
        have Hrow2 := hid (own_ext Hrow.out (HWx.out.trans hx2))
        have Hx2 := hid (Hx.out.trans (HWx.out.trans hx2))
        have hB2 := hid (hW.out.ext hx2)
        clear HN hx2 c0 c1
        cases hf : p x with
        | true =>
          have Hf : Hid ((fun x => !p x) x = false) := hid (by show (!p x) = false; rw [hf]; rfl)
          clear hf
          go_wp2
          go_roundw
          case rel => exact ⟨i, j + 1, R, rfl, by go_num, by omega, by omega, HRl.out, by rw [filter_nextG Hxk.out, if_neg (by rw [Hf.out]; simp), HT.out]; simp, by rw [← List.drop_drop, HD.out, List.drop_drop], Hrow2.out, Hx2.out⟩
          case measure => simp [intOf]; omega
        | false =>
          have Hf : Hid ((fun x => !p x) x = true) := hid (by show (!p x) = true; rw [hf]; rfl)
          have hiR : i < R.length := by have := HRl.out; omega
          obtain ⟨y0, y1⟩ := own_e Hrow2.out (List.getElem?_eq_getElem hiR)
          have hfr := own_free Hrow2.out
          have v0 := hB2.out.av 0 rfl
          have v1 := hB2.out.av 1 rfl
          simp only [qA0, qA1, qA2] at v0 v1
          have hput := hid (own_putE Hrow2.out i hiR x)
          have hkp2 := hid (Keep.new Hx2.out (storeE_keep w2 gb (i * 2) x) fun b e => by rw [e]; exact Nat.le_trans Hb0.out Hbase.out)
          unfold storeE at hput hkp2
          generalize hyv : R[i] = y at *
          clear hyv hf
          go_wp2
          go_roundw
          case rel => exact ⟨i + 1, j + 1, R.set i x, by go_num, by go_num, by omega, by omega, by rw [List.length_set]; exact HRl.out, by rw [take_set_succ R i x hiR, filter_nextG Hxk.out, if_pos Hf.out, HT.out], by rw [List.drop_set_of_lt (by omega), ← List.drop_drop, HD.out, List.drop_drop], hput.out, hkp2.out⟩
          case measure => simp [intOf]; omega
      · obtain rfl : j = l.length := by omega
        have hTf : R.take i = l.filter fun x => !p x := by rw [HT.out, List.take_length]
        have hRi : (l.filter fun x => !p x).length = i := by rw [← hTf, List.length_take, HRl.out]; omega
        obtain ⟨cu, hcu, hb0, hcap, hmx, hcs, htk⟩ := own_blk Hrow.out
        obtain ⟨ti, hi, hz0, hz1, hz2⟩ := info_parts edge_info
        have hsz : i * 2 + (l.length - i) * 2 ≤ cu.size := by rw [hcs]; omega
        have hclr := fun ty => run_clear_row (P := Tryz.prog) wr 64 ty 95 ti _ Tryz.underlying64 hi hz0 (by simp [Value.cells, Value.oneCell']) gb (i * 2) (l.length - i) (c - i) (by omega) cu hcu hsz
        obtain ⟨cu', hcu'⟩ : ∃ cu', cu' = (cu.toList.take (i * 2) ++ (Builtin.zeroCells (Value.agg #[.int .i64 0, .int .i64 0]).cells (l.length - i)).toList ++ cu.toList.drop (i * 2 + (l.length - i) * (Value.agg #[.int .i64 0, .int .i64 0]).cells.size)).toArray := ⟨_, rfl⟩
        rw [← hcu'] at hclr
        have hsz' : cu'.size = c * 2 := by
          have h6 : (Value.agg #[.int .i64 0, .int .i64 0]).cells.size = 2 := rfl
          rw [hcu', List.size_toArray, List.length_append, List.length_append, List.length_take, List.length_drop, Array.length_toList, Array.length_toList, size_zeroCells, h6, hcs]
          omega
        have htk' : cu'.toList.take (i * 2) = (l.filter fun x => !p x).flatMap eCells := by
          rw [hcu', List.toList_toArray, List.append_assoc, List.take_append_of_le_length (by rw [List.length_take, Array.length_toList]; omega), List.take_take, Nat.min_self, ← hTf, ← fm_take eCells 2 eCells_len, ← htk, List.take_take, Nat.min_eq_left (by omega)]
        have hfin := hid (own_of_blk (setRow_blk hcu cu') hb0 (show i ≤ c by omega) hmx hsz' htk')
        have hkf : Hid (Ext w0 _) := hid (Keep.new Hx.out (setRow_keep wr gb cu') fun b e => by rw [e]; exact Nat.le_trans Hb0.out Hbase.out)
        have HRi := hid hRi
        have hci : (i : Int) ≤ (l.length : Int) := by omega
        clear hTf hRi hcu hb0 hcap hmx hcs htk hi hz0 hz1 hz2 hsz hcu' hsz' htk' HRl HT HD
        go_wp2
        go_ret
        exact ⟨.slice (some ⟨gb, 0, none⟩) i c, rfl, by unfold ERow; rw [HRi.out]; exact hfin.out, hkf.out⟩
end Go.Proofs.YtihdpijgngooaaaGreatDoor
