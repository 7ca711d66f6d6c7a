/- Texts of one proof, put together: UZ V1 V2 W4 W7 W8 W9 V3 L4 L8 L9 LA LB LC LD. -/
import Derived.Test.YtoaoienfggjepaaGreatDoorCN03
import Derived.Test.YtoaoienfggjepaaGreatDoorCN04
import Derived.Test.YtoaoienfggjepaaGreatDoorCN06

/- Runs: what any statement does. -/
namespace Go.Proofs.YtoaoienfggjepaaGreatDoor
set_option linter.unusedSimpArgs false
set_option linter.unusedVariables false
open Go Go.RowKit

theorem stcall_any (a1 a2 a3 : Option Addr) (c1 c2 c3 : Nat) (P : PP) (x : PS) (av : Option Addr) (cv : Nat) (hg : P.Good x) (hkx : x.isK kCall = true) (hF : ∀ f ∈ P.funs, P.GoodF f) (s : Rn) (hs : s.Ok P) (w : World) (n0 sb : Nat) (vv tv pv : Value) (hR : RnAt w n0 sb vv tv pv s) (hP : ProgR w n0 (.slice a1 P.vars.length c1) (.slice a2 P.funs.length c2) (.slice a3 P.stmts.length c3) P) (hI : IntsR w n0 (.slice av x.args.length cv) x.args) (hn0 : n0 ≤ w.heap.size) :
    Calls Tryz.prog 112 #[.pointer (some ⟨sb, 0, none⟩), pval a1 a2 a3 c1 c2 c3 P, .agg #[.string x.kind, .int .i64 x.x, .int .i64 x.y, .slice av x.args.length cv]] w fun e w' => e = .returned (.tuple #[]) ∧ (∃ vv' tv' pv', RnAt w' n0 sb vv' tv' pv' (s.call P x)) ∧ Old n0 w w' := by
  cases hv : s.at x.y with
  | fn n =>
    have hn : n < P.funs.length := by have := hs.at x.y; rw [hv] at this; exact this
    have hf : P.funs[n]? = some (P.funs[n]'hn) := List.getElem?_eq_getElem hn
    by_cases hl : (P.funs[n]'hn).params.length = x.args.length
    · have h := stcall_yes a1 a2 a3 c1 c2 c3 P x av cv hg hkx hF s hs w n0 sb vv tv pv hR hP hI hn0 n _ hv hf hl
      have e : s.call P x = s.callF x (P.funs[n]'hn) := by unfold Rn.call; rw [hv]; simp only [hf]
      rw [e]; exact h
    · have h := stcall_far a1 a2 a3 c1 c2 c3 P x av cv hg hkx hF s hs w n0 sb vv tv pv hR hP hI hn0 n hv (fun f h => by rw [hf] at h; obtain rfl := Option.some.inj h; exact hl)
      have e : s.call P x = s := by unfold Rn.call; rw [hv]; simp only [hf, Rn.callF, if_neg hl]
      rw [e]; exact h
  | none =>
    have e : s.call P x = s := by unfold Rn.call; rw [hv]
    rw [e]; exact stcall_no a1 a2 a3 c1 c2 c3 P x av cv hg hkx hF s hs w n0 sb vv tv pv hR hP hI hn0 (fun n h => by rw [hv] at h; cases h)
  | var m =>
    have e : s.call P x = s := by unfold Rn.call; rw [hv]
    rw [e]; exact stcall_no a1 a2 a3 c1 c2 c3 P x av cv hg hkx hF s hs w n0 sb vv tv pv hR hP hI hn0 (fun n h => by rw [hv] at h; cases h)
  | thing m =>
    have e : s.call P x = s := by unfold Rn.call; rw [hv]
    rw [e]; exact stcall_no a1 a2 a3 c1 c2 c3 P x av cv hg hkx hF s hs w n0 sb vv tv pv hR hP hI hn0 (fun n h => by rw [hv] at h; cases h)

set_option maxRecDepth 100000 in
set_option maxHeartbeats 12800000 in
theorem stdo_call (a1 a2 a3 : Option Addr) (c1 c2 c3 : Nat) (P : PP) (k : Nat) (x : PS) (hxk : P.stmts[k]? = some x) (hg : P.Good x) (hkx : x.isK kCall = true) (hF : ∀ f ∈ P.funs, P.GoodF f) (s : Rn) (hs : s.Ok P) (w : World) (n0 sb : Nat) (vv tv pv : Value) (hR : RnAt w n0 sb vv tv pv s) (hP : ProgR w n0 (.slice a1 P.vars.length c1) (.slice a2 P.funs.length c2) (.slice a3 P.stmts.length c3) P) (hn0 : n0 ≤ w.heap.size) (hsm : s.things.length ≤ 100000) :
    Calls Tryz.prog 70 #[.pointer (some ⟨sb, 0, none⟩), pval a1 a2 a3 c1 c2 c3 P, .int .i64 (k : Int)] w fun e w' => e = .returned (.tuple #[]) ∧ (∃ vv' tv' pv', RnAt w' n0 sb vv' tv' pv' (s.stmt P k x)) ∧ Old n0 w w' := by
  have hk : k < P.stmts.length := by
    rcases Nat.lt_or_ge k P.stmts.length with h | h
    · exact h
    · rw [List.getElem?_eq_none h] at hxk; cases hxk
  have hml := hP.stmts.len
  obtain ⟨W1, hW1⟩ : ∃ W1, W1 = w.alloc (.cells (pcells a1 a2 a3 c1 c2 c3 P) 39) := ⟨_, rfl⟩
  have hx1 : Ext w W1 := by rw [hW1]; exact (Ext.refl _).alloc _
  obtain ⟨y, x', av, cv, rfl, hxk', e0, e1, e2, e3, hI⟩ := (hP.ext hx1).stmts.at hk
  obtain rfl := Option.some.inj (hxk.symm.trans hxk')
  obtain ⟨W2, hW2⟩ : ∃ W2, W2 = W1.alloc (.cells (scells x av cv) 48) := ⟨_, rfl⟩
  have hx2 : Ext W1 W2 := by rw [hW2]; exact (Ext.refl _).alloc _
  have HW2 := hid (hx1.trans hx2)
  have HB1 : Hid (Blk W2 w.heap.size (pcells a1 a2 (some y) c1 c2 c3 P) 39) := hid (by
    have : Blk W1 w.heap.size (pcells a1 a2 (some y) c1 c2 c3 P) 39 := by rw [hW1]; exact Blk.new _ _ _
    exact this.ext hx2)
  have hs1 : W1.heap.size = w.heap.size + 1 := by rw [hW1, heap_size_alloc]
  have HB2 : Hid (Blk W2 (w.heap.size + 1) (scells x av cv) 48) := hid (by
    rw [← hs1, hW2]; exact Blk.new _ _ _)
  have HR2 := hid (hR.ext HW2.out)
  have HP2 := hid (hP.ext HW2.out)
  have HI := hid (hI.old (hx2.old n0))
  have Hs := hid hs
  have Hg := hid hg
  have Hn0 := hid hn0
  have hgx := hg.gx
  rw [hW1] at e0 e1 e2 e3
  have HW2e : Hid (W2 = (w.alloc (.cells #[.slice a1 P.vars.length c1, .slice a2 P.funs.length c2, .slice (some y) P.stmts.length c3] 39)).alloc (.cells #[.string x.kind, .int .i64 x.x, .int .i64 x.y, .slice av x.args.length cv] 48)) := hid (by rw [hW2, hW1]; rfl)
  unfold pcells at e0 e1 e2 e3
  obtain ⟨X, hX⟩ := Int.eq_ofNat_of_zero_le hgx.1
  have HX : Hid (X < s.vars.length) := hid (by rw [hs.lv]; omega)
  have HXe := hid hX
  have hXl := HX.out
  obtain ⟨g, cap, hvv⟩ := own_some hR.vars (by have := HX.out; omega)
  subst hvv
  have hnv : s.vars.length = P.vars.length := hs.lv
  have d0 := HR2.out.blk.kc (X := fun _ => False) (fun e => e) 0 rfl
  have d1 := HR2.out.blk.kc (X := fun _ => False) (fun e => e) 1 rfl
  have d2 := HR2.out.blk.kc (X := fun _ => False) (fun e => e) 2 rfl
  have m1 := HB2.out.kc (X := fun _ => False) (fun e => e) 1 rfl
  have m2 := HB2.out.kc (X := fun _ => False) (fun e => e) 2 rfl
  have m3 := HB2.out.kc (X := fun _ => False) (fun e => e) 3 rfl
  simp only [scells, List.getElem_toArray, List.getElem_cons_zero, List.getElem_cons_succ] at d0 d1 d2 m1 m2 m3
  rw [hX] at m1
  have hsbl := hR.blk.lt
  have Hkx := hid hkx
  have hkk := hkx
  unfold PS.isK kCall at hkk
  clear hxk hxk' hW1 hW2 hx1 hx2 hs1 hR hP hI hs hg hX hgx hkx hn0
  unfold pval
  have h1 : (x.kind.toList == [97, 100, 100, 114]) = false := isK_ne Hkx.out (k' := kAddr) rfl
  have h2 : (x.kind.toList == [99, 111, 112, 121]) = false := isK_ne Hkx.out (k' := kCopy) rfl
  have h3 : (x.kind.toList == [108, 111, 97, 100]) = false := isK_ne Hkx.out (k' := kLoad) rfl
  have h4 : (x.kind.toList == [115, 116, 111, 114, 101]) = false := isK_ne Hkx.out (k' := kStore) rfl
  have h5 : (x.kind.toList == [110, 101, 119]) = false := isK_ne Hkx.out (k' := kNew) rfl
  have h6 : (x.kind.toList == [102, 117, 110]) = false := isK_ne Hkx.out (k' := kFun) rfl
  have HC := hid (stcall_any a1 a2 (some y) c1 c2 c3 P x av cv Hg.out Hkx.out hF s Hs.out W2 n0 sb _ _ _ HR2.out HP2.out HI.out (Nat.le_trans Hn0.out HW2.out.size))
  have HS : Hid (s.stmt P k x = s.call P x) := hid (by
    unfold Rn.stmt; rw [isK_ne Hkx.out (k' := kAddr) rfl, isK_ne Hkx.out (k' := kCopy) rfl, isK_ne Hkx.out (k' := kLoad) rfl, isK_ne Hkx.out (k' := kStore) rfl, isK_ne Hkx.out (k' := kNew) rfl, isK_ne Hkx.out (k' := kFun) rfl, Hkx.out]; simp only [cond_true, cond_false])
  unfold pval at HC
  clear d0 d1 d2 m1 m2 m3 hnv hF
  go_enter Tryz.func70, Tryz.ntmps70
  go_wp2_with fail
  rw [← HW2e.out]
  refine HC.out.mono ?_
  intro e w3 hx
  obtain ⟨rfl, hR3, hO3⟩ := hx
  have HR3 := hid hR3
  have HO3 := hid hO3
  clear hR3 hO3 HC
  go_wp2
  go_end0
  exact ⟨rfl, by rw [HS.out]; exact HR3.out, (HW2.out.old n0).trans HO3.out⟩

theorem isK_of {x : PS} {b : ByteArray} {k : List UInt8} (hb : b.toList = k) (h : eqB x.kind b = true) : x.isK k = true := by
  unfold eqB at h
  rw [hb] at h
  exact h
theorem kind_cases {P : PP} {x : PS} (h : P.stmtErr x = 0) : x.isK kAddr = true ∨ x.isK kCopy = true ∨ x.isK kLoad = true ∨ x.isK kStore = true ∨ x.isK kNew = true ∨ x.isK kFun = true ∨ x.isK kCall = true := by
  unfold PP.stmtErr at h
  cases hm : memB x.kind kindsS with
  | false => rw [hm] at h; simp at h
  | true =>
    simp only [memB, kindsS, List.any_cons, List.any_nil, Bool.or_false, Bool.or_eq_true] at hm
    refine hm.imp (fun h => ?_) (Or.imp (fun h => ?_) (Or.imp (fun h => ?_) (Or.imp (fun h => ?_) (Or.imp (fun h => ?_) (Or.imp (fun h => ?_) (fun h => ?_))))))
    · exact isK_of (k := kAddr) (by decide +kernel) h
    · exact isK_of (k := kCopy) (by decide +kernel) h
    · exact isK_of (k := kLoad) (by decide +kernel) h
    · exact isK_of (k := kStore) (by decide +kernel) h
    · exact isK_of (k := kNew) (by decide +kernel) h
    · exact isK_of (k := kFun) (by decide +kernel) h
    · exact isK_of (k := kCall) (by decide +kernel) h
/-- What any statement does. -/
theorem stdo_any (a1 a2 a3 : Option Addr) (c1 c2 c3 : Nat) (P : PP) (k : Nat) (x : PS) (hxk : P.stmts[k]? = some x) (hx0 : P.stmtErr x = 0) (hF : ∀ f ∈ P.funs, P.GoodF f) (s : Rn) (hs : s.Ok P) (w : World) (n0 sb : Nat) (vv tv pv : Value) (hR : RnAt w n0 sb vv tv pv s) (hP : ProgR w n0 (.slice a1 P.vars.length c1) (.slice a2 P.funs.length c2) (.slice a3 P.stmts.length c3) P) (hn0 : n0 ≤ w.heap.size) (hsm : s.things.length ≤ 100000) :
    Calls Tryz.prog 70 #[.pointer (some ⟨sb, 0, none⟩), pval a1 a2 a3 c1 c2 c3 P, .int .i64 (k : Int)] w fun e w' => e = .returned (.tuple #[]) ∧ (∃ vv' tv' pv', RnAt w' n0 sb vv' tv' pv' (s.stmt P k x)) ∧ Old n0 w w' := by
  have hg := PP.good hx0
  rcases kind_cases hx0 with h | h | h | h | h | h | h
  · exact stdo_addr a1 a2 a3 c1 c2 c3 P k x hxk hg h s hs w n0 sb vv tv pv hR hP hn0 hsm
  · exact stdo_copy a1 a2 a3 c1 c2 c3 P k x hxk hg h s hs w n0 sb vv tv pv hR hP hn0 hsm
  · exact stdo_load a1 a2 a3 c1 c2 c3 P k x hxk hg h s hs w n0 sb vv tv pv hR hP hn0 hsm
  · exact stdo_store a1 a2 a3 c1 c2 c3 P k x hxk hg h s hs w n0 sb vv tv pv hR hP hn0 hsm
  · exact stdo_new a1 a2 a3 c1 c2 c3 P k x hxk hg h s hs w n0 sb vv tv pv hR hP hn0 hsm
  · exact stdo_fun a1 a2 a3 c1 c2 c3 P k x hxk hg h s hs w n0 sb vv tv pv hR hP hn0 hsm
  · exact stdo_call a1 a2 a3 c1 c2 c3 P k x hxk hg h hF s hs w n0 sb vv tv pv hR hP hn0 hsm
end Go.Proofs.YtoaoienfggjepaaGreatDoor



/- Runs: run.Do: programs that are none, scripts that are none. -/
namespace Go.Proofs.YtoaoienfggjepaaGreatDoor
set_option linter.unusedSimpArgs false
set_option linter.unusedVariables false
open Go Go.RowKit

def PP.badk (P : PP) (n : Int) : Bool := decide (n < 0) || decide ((P.stmts.length : Int) ≤ n)
set_option maxRecDepth 100000 in
set_option maxHeartbeats 800000 in
theorem rundoc_any (g : Nat) (a1 a2 a3 : Option Addr) (c1 c2 c3 : Nat) (P : PP) (n : Int) (w : World) (h : Blk w g (pcells a1 a2 a3 c1 c2 c3 P) 39) :
    Calls Tryz.prog 68 #[.int .i64 n, .pointer (some ⟨g, 0, none⟩)] w fun e w' => e = .returned (.bool (P.badk n)) ∧ Ext w w' := by
  have h2 := h.av 2 rfl
  have Hr := hid (show P.badk n = (decide (n < 0) || decide ((P.stmts.length : Int) ≤ n)) from rfl)
  generalize hm : P.stmts.length = m at *
  simp only [pcells, hm, List.getElem_toArray, List.getElem_cons_zero, List.getElem_cons_succ] at h2
  clear h hm
  go_enter Tryz.func68, Tryz.ntmps68
  by_cases hn : n < 0
  · go_wp2
    go_ret
    exact ⟨by rw [Hr.out, decide_eq_true hn]; rfl, Ext.refl _⟩
  · have Hn := hid hn
    by_cases hn2 : (m : Int) ≤ n
    · have Hn2 := hid hn2
      go_wp2
      go_ret
      exact ⟨by rw [Hr.out, decide_eq_false (show ¬ n < 0 by have := Hn.out; omega), decide_eq_true (show (m : Int) ≤ n by have := Hn2.out; omega)]; rfl, Ext.refl _⟩
    · have Hn2 := hid hn2
      go_wp2
      go_ret
      exact ⟨by rw [Hr.out, decide_eq_false (show ¬ n < 0 by have := Hn.out; omega), decide_eq_false (show ¬ (m : Int) ≤ n by have := Hn2.out; omega)]; rfl, Ext.refl _⟩

def zeroS : Value := .agg #[.slice none 0 0, .slice none 0 0, .slice none 0 0]
def zcells : Array Value := #[.slice none 0 0, .slice none 0 0, .slice none 0 0]
theorem ErrIs.keep {X : Nat → Prop} {ad : Nat → Addr} {P : PP} {w w' : World} {v : Value} (h : ErrIs ad P w v) (k : Keep X w w') (hX : ∀ i, X i → ∃ c, Blk w i c 52) : ErrIs ad P w' v := by
  rcases h with h | h | ⟨h1, i, s, b, h2, h3, h4⟩
  · exact .inl h
  · exact .inr (.inl h)
  · refine .inr (.inr ⟨h1, i, s, b, h2, h3, h4.keep k fun e => ?_⟩)
    obtain ⟨c, hc⟩ := hX b e
    exact Blk.ty_ne h4 hc (by decide) rfl
theorem ErrIs.form {ad : Nat → Addr} {P : PP} {w : World} {v : Value} (h : ErrIs ad P w v) : (v = .nilIface ∧ P.err1 = 0 ∧ P.allWell) ∨ ((∃ t x, v = .iface t (.pointer (some x))) ∧ ¬ (P.err1 = 0 ∧ P.allWell)) := by
  rcases h with ⟨h1, h2⟩ | ⟨h1, h2, h3⟩ | ⟨h1, i, s, b, h2, h3, _⟩
  · refine .inr ⟨?_, fun h => h1 h.1⟩
    obtain ⟨x, hx⟩ : ∃ x, evOf ad P.err1 = .iface 271 (.pointer (some x)) := ⟨_, rfl⟩
    exact ⟨_, _, by rw [h2, hx]⟩
  · exact .inl ⟨h3, h1, h2⟩
  · refine .inr ⟨⟨_, _, h3⟩, fun h => h2.2.1 (h.2 i s ?_ h2.1)⟩
    rcases Nat.lt_or_ge i P.stmts.length with h | h
    · exact h
    · have h3 := h2.1; rw [List.getElem?_eq_none h] at h3; cases h3
/-- The script's first number that names no statement. -/
def PP.FirstK (P : PP) (l : List Int) (i : Nat) : Prop := ∃ x, l[i]? = some x ∧ P.badk x = true ∧ ∀ j y, j < i → l[j]? = some y → P.badk y = false
/-- What a run tells that is refused. -/
def RunNo (ad : Nat → Addr) (P : PP) (l : List Int) (w : World) (v : Value) : Prop :=
  (¬ (P.err1 = 0 ∧ P.allWell) ∧ ErrIs ad P w v) ∨ (P.err1 = 0 ∧ P.allWell ∧ 2000 < l.length ∧ v = evOf ad 8) ∨
  (P.err1 = 0 ∧ P.allWell ∧ l.length ≤ 2000 ∧ ∃ i b, P.FirstK l i ∧ v = .iface 104 (.pointer (some ⟨b, 0, none⟩)) ∧ Blk w b #[.int .i64 (i : Int), evOf ad 2] 106)
/-- A script that may be done. -/
def PP.Runs (P : PP) (l : List Int) : Prop := P.err1 = 0 ∧ P.allWell ∧ l.length ≤ 2000 ∧ ∀ x ∈ l, P.badk x = false

theorem store3_keep (w : World) (g : Nat) (v0 v1 v2 : Value) : Keep (fun b => b = g) w (((w.setCell ⟨g, 0, none⟩ v0).setCell ⟨g, 1, none⟩ v1).setCell ⟨g, 2, none⟩ v2) :=
  have k : ∀ (u : World) j v, Keep (fun b => b = g) w u → Keep (fun b => b = g) w (u.setCell ⟨g, j, none⟩ v) := fun _ _ v h => h.set rfl v
  k _ _ _ (k _ _ _ (k _ _ _ (Keep.refl _ w)))
theorem store3 {w : World} {g : Nat} {x0 x1 x2 v0 v1 v2 : Value} {t : TypeId} (h : Blk w g #[x0, x1, x2] t) : Blk (((w.setCell ⟨g, 0, none⟩ v0).setCell ⟨g, 1, none⟩ v1).setCell ⟨g, 2, none⟩ v2) g #[v0, v1, v2] t := by
  have := ((h.set 0 v0).set 1 v1).set 2 v2
  simpa using this
set_option maxRecDepth 100000 in
set_option maxHeartbeats 6400000 in
theorem rundo_bad (a1 a2 a3 : Option Addr) (c1 c2 c3 : Nat) (P : PP) (va : Value) (l : List Int) (w : World) (ad : Nat → Addr) (hE : ErrsP w ad) (hP : ProgR w w.heap.size (.slice a1 P.vars.length c1) (.slice a2 P.funs.length c2) (.slice a3 P.stmts.length c3) P) (hI : IntsR w w.heap.size va l)
    (hz1 : ∀ s ∈ P.vars, s.size ≤ 1000000) (hz2 : ∀ s ∈ P.names, s.size ≤ 1000000) (hno : ¬ (P.err1 = 0 ∧ P.allWell)) :
    Calls Tryz.prog 27 #[pval a1 a2 a3 c1 c2 c3 P, va] w fun e w' => Ext w w' ∧ ∃ v, e = .returned (.tuple #[zeroS, v]) ∧ RunNo ad P l w' v := by
  have HE := hid hE
  have HP := hid hP
  have hpl : (P.vars.length : Int) ≤ 9223372036854775807 := by
    obtain ⟨_, _, _, h2, h3, _⟩ := hP.vars
    omega
  have HI := hid hI
  have hll : (l.length : Int) ≤ 9223372036854775807 := by
    obtain ⟨_, _, _, h2, h3, _⟩ := hI
    omega
  obtain ⟨W1, hW1⟩ : ∃ W1, W1 = w.alloc (.cells (pcells a1 a2 a3 c1 c2 c3 P) 39) := ⟨_, rfl⟩
  have hx1 : Ext w W1 := by rw [hW1]; exact (Ext.refl _).alloc _
  obtain ⟨W2, hW2⟩ : ∃ W2, W2 = W1.alloc (.cells zcells 52) := ⟨_, rfl⟩
  have hx2 : Ext W1 W2 := by rw [hW2]; exact (Ext.refl _).alloc _
  have HW2 := hid (hx1.trans hx2)
  have HB1 : Hid (Blk W2 w.heap.size (pcells a1 a2 a3 c1 c2 c3 P) 39) := hid (by
    have : Blk W1 w.heap.size (pcells a1 a2 a3 c1 c2 c3 P) 39 := by rw [hW1]; exact Blk.new _ _ _
    exact this.ext hx2)
  have hs1 : W1.heap.size = w.heap.size + 1 := by rw [hW1, heap_size_alloc]
  have HB2 : Hid (Blk W2 (w.heap.size + 1) zcells 52) := hid (by
    rw [← hs1, hW2]; exact Blk.new _ _ _)
  have HC := hid (pcheck_any a1 a2 a3 c1 c2 c3 P W2 w.heap.size ad (hE.ext HW2.out) (hP.ext HW2.out) hz1 hz2 hpl)
  have HW2e : Hid (W2 = (w.alloc (.cells #[.slice a1 P.vars.length c1, .slice a2 P.funs.length c2, .slice a3 P.stmts.length c3] 39)).alloc (.cells #[.slice none 0 0, .slice none 0 0, .slice none 0 0] 52)) := hid (by rw [hW2, hW1]; rfl)
  obtain ⟨aa, ca, hva⟩ : ∃ aa ca, va = .slice aa l.length ca := by
    obtain ⟨aa, ca, h, _⟩ := hI
    exact ⟨aa, ca, h⟩
  subst hva
  unfold pval at HC ⊢
  clear hE hP hI hW1 hW2 hx1 hx2 hs1 hz1 hz2
  go_enter Tryz.func27, Tryz.ntmps27
  go_wp2_with fail
  rw [← HW2e.out]
  refine HC.out.mono ?_
  intro e w3 hx
  obtain ⟨v, rfl, hE3, hx3⟩ := hx
  have HB3 := hid (HB2.out.ext hx3)
  have HBp := hid (HB1.out.ext hx3)
  have HW3 := hid (HW2.out.trans hx3)
  have HE3 := hid hE3
  clear HC hE3 hx3
  have Hno := hid hno
  rcases HE3.out.form with ⟨_, h⟩ | ⟨⟨t, y, rfl⟩, _⟩
  · exact absurd h hno
  clear hno
  have z0 := (HB3.out).av 0 rfl
  have z1 := (HB3.out).av 1 rfl
  have z2 := (HB3.out).av 2 rfl
  have f0 := (HB3.out).free 0
  have f1 := (HB3.out).free 1
  have f2 := (HB3.out).free 2
  have HBz := hid (store3 (v0 := .slice none 0 0) (v1 := .slice none 0 0) (v2 := .slice none 0 0) HB3.out)
  have HKz := hid (store3_keep w3 (w.heap.size + 1) (.slice none 0 0) (.slice none 0 0) (.slice none 0 0))
  simp only [zcells, List.setIfInBounds_toArray, List.set_cons_zero, List.set_cons_succ, List.getElem_toArray, List.getElem_cons_zero, List.getElem_cons_succ] at z0 z1 z2
  go_wp2
  have c0 := HBz.out.av 0 rfl
  have c1 := HBz.out.av 1 rfl
  have c2 := HBz.out.av 2 rfl
  have hx := Keep.new HW3.out HKz.out fun b hb => by omega
  have hR : RunNo ad P l _ (.iface t (.pointer (some y))) := .inl ⟨Hno.out, HE3.out.keep HKz.out fun i e => by subst e; exact ⟨_, HB3.out⟩⟩
  generalize (((w3.setCell ⟨w.heap.size + 1, 0, none⟩ (.slice none 0 0)).setCell ⟨w.heap.size + 1, 1, none⟩ (.slice none 0 0)).setCell ⟨w.heap.size + 1, 2, none⟩ (.slice none 0 0)) = W9 at *
  exact bodyPost_ret (v := .tuple #[zeroS, .iface t (.pointer (some y))]) (by simp [results, Tryz.results27, go_sem, c0, c1, c2]; rfl) rfl ⟨hx, _, rfl, hR⟩

set_option maxRecDepth 100000 in
set_option maxHeartbeats 6400000 in
theorem rundo_full (a1 a2 a3 : Option Addr) (c1 c2 c3 : Nat) (P : PP) (va : Value) (l : List Int) (w : World) (ad : Nat → Addr) (hE : ErrsP w ad) (hP : ProgR w w.heap.size (.slice a1 P.vars.length c1) (.slice a2 P.funs.length c2) (.slice a3 P.stmts.length c3) P) (hI : IntsR w w.heap.size va l)
    (hz1 : ∀ s ∈ P.vars, s.size ≤ 1000000) (hz2 : ∀ s ∈ P.names, s.size ≤ 1000000) (hok : P.err1 = 0 ∧ P.allWell) (hlen : 2000 < l.length) :
    Calls Tryz.prog 27 #[pval a1 a2 a3 c1 c2 c3 P, va] w fun e w' => Ext w w' ∧ ∃ v, e = .returned (.tuple #[zeroS, v]) ∧ RunNo ad P l w' v := by
  have HE := hid hE
  have HP := hid hP
  have hpl : (P.vars.length : Int) ≤ 9223372036854775807 := by
    obtain ⟨_, _, _, h2, h3, _⟩ := hP.vars
    omega
  have HI := hid hI
  have hll : (l.length : Int) ≤ 9223372036854775807 := by
    obtain ⟨_, _, _, h2, h3, _⟩ := hI
    omega
  obtain ⟨W1, hW1⟩ : ∃ W1, W1 = w.alloc (.cells (pcells a1 a2 a3 c1 c2 c3 P) 39) := ⟨_, rfl⟩
  have hx1 : Ext w W1 := by rw [hW1]; exact (Ext.refl _).alloc _
  obtain ⟨W2, hW2⟩ : ∃ W2, W2 = W1.alloc (.cells zcells 52) := ⟨_, rfl⟩
  have hx2 : Ext W1 W2 := by rw [hW2]; exact (Ext.refl _).alloc _
  have HW2 := hid (hx1.trans hx2)
  have HB1 : Hid (Blk W2 w.heap.size (pcells a1 a2 a3 c1 c2 c3 P) 39) := hid (by
    have : Blk W1 w.heap.size (pcells a1 a2 a3 c1 c2 c3 P) 39 := by rw [hW1]; exact Blk.new _ _ _
    exact this.ext hx2)
  have hs1 : W1.heap.size = w.heap.size + 1 := by rw [hW1, heap_size_alloc]
  have HB2 : Hid (Blk W2 (w.heap.size + 1) zcells 52) := hid (by
    rw [← hs1, hW2]; exact Blk.new _ _ _)
  have HC := hid (pcheck_any a1 a2 a3 c1 c2 c3 P W2 w.heap.size ad (hE.ext HW2.out) (hP.ext HW2.out) hz1 hz2 hpl)
  have HW2e : Hid (W2 = (w.alloc (.cells #[.slice a1 P.vars.length c1, .slice a2 P.funs.length c2, .slice a3 P.stmts.length c3] 39)).alloc (.cells #[.slice none 0 0, .slice none 0 0, .slice none 0 0] 52)) := hid (by rw [hW2, hW1]; rfl)
  obtain ⟨aa, ca, hva⟩ : ∃ aa ca, va = .slice aa l.length ca := by
    obtain ⟨aa, ca, h, _⟩ := hI
    exact ⟨aa, ca, h⟩
  subst hva
  unfold pval at HC ⊢
  clear hE hP hI hW1 hW2 hx1 hx2 hs1 hz1 hz2
  go_enter Tryz.func27, Tryz.ntmps27
  go_wp2_with fail
  rw [← HW2e.out]
  refine HC.out.mono ?_
  intro e w3 hx
  obtain ⟨v, rfl, hE3, hx3⟩ := hx
  have HB3 := hid (HB2.out.ext hx3)
  have HBp := hid (HB1.out.ext hx3)
  have HW3 := hid (HW2.out.trans hx3)
  have HE3 := hid hE3
  clear HC hE3 hx3
  have Hok := hid hok
  obtain rfl : v = .nilIface := by
    rcases HE3.out.form with ⟨h, _⟩ | ⟨_, h⟩
    · exact h
    · exact absurd hok h
  clear hok
  have HR : Hid (∀ w', RunNo ad P l w' (evOf ad 8)) := hid fun _ => .inr (.inl ⟨Hok.out.1, Hok.out.2, hlen, rfl⟩)
  have gz : ∀ w1, Keep (fun b => b = w.heap.size + 1) w3 w1 → w1.cell? ⟨3, 0, none⟩ = some (evOf ad 8) := fun w1 hk => hk.cellx (HW3.out.cellx HE.out.at8) (fun e => by have := cell_lt HE.out.at8; simp only at e this; omega)
  go_wp2
  refine wp_flowT (fun b => b = w.heap.size + 1) (by kernel_rfl) (by kernel_rfl) ?_
  repeat (apply FlowT.d; (intro w1 hk; unfold does; go_simp; (try go_ints); (first | exact DetR.mk | (simp only [↓IntWalk.iteOmega, Oper.doesUpon_value]; exact DetR.mk) | (simp only [↓IntWalk.iteOmega]; go_simp; (try go_ints); exact DetR.mk))); simp only [Act.put, List.setIfInBounds_toArray, List.set_cons_zero, List.set_cons_succ])
  refine FlowT.v undef (fun w' => Blk w' (w.heap.size + 1) zcells 52 ∧ Keep (fun b => b = w.heap.size + 1) w3 w') 2 rfl (by kernel_rfl) (fun w1 w2 h x => ⟨h.1.ext x, h.2.ext_r x⟩) (fun wa hx hk => ?_) ?_
  · have z0 := ((HB3.out.ext hx)).av 0 rfl
    have z1 := ((HB3.out.ext hx)).av 1 rfl
    have z2 := ((HB3.out.ext hx)).av 2 rfl
    have f0 := ((HB3.out.ext hx)).free 0
    have f1 := ((HB3.out.ext hx)).free 1
    have f2 := ((HB3.out.ext hx)).free 2
    have HBz := hid (store3 (v0 := .slice none 0 0) (v1 := .slice none 0 0) (v2 := .slice none 0 0) (HB3.out.ext hx))
    have HKz := hid (store3_keep wa (w.heap.size + 1) (.slice none 0 0) (.slice none 0 0) (.slice none 0 0))
    simp only [zcells, List.setIfInBounds_toArray, List.set_cons_zero, List.set_cons_succ, List.getElem_toArray, List.getElem_cons_zero, List.getElem_cons_succ] at z0 z1 z2
    have hk2 := hk.trans HKz.out
    clear hk
    unfold does
    go_simp
    exact ⟨hk2, rfl, HBz.out, hk2⟩
  repeat (apply FlowT.d; (intro w1 hk; unfold does; go_simp; (try go_ints); (first | exact DetR.mk | (simp only [↓IntWalk.iteOmega, Oper.doesUpon_value]; exact DetR.mk) | (simp only [↓IntWalk.iteOmega]; go_simp; (try go_ints); exact DetR.mk))); simp only [Act.put, List.setIfInBounds_toArray, List.set_cons_zero, List.set_cons_succ])
  refine FlowT.fin fun wb hC hk => ?_
  obtain ⟨hB, hK⟩ := hC
  have c0 := hB.av 0 rfl
  have c1 := hB.av 1 rfl
  have c2 := hB.av 2 rfl
  simp only [zcells, List.getElem_toArray, List.getElem_cons_zero, List.getElem_cons_succ] at c0 c1 c2
  have hE := hid (Keep.new HW3.out hK (fun n hn => by omega))
  clear hk hK hB
  go_wp2
  exact bodyPost_ret (v := .tuple #[zeroS, evOf ad 8]) (by simp [results, Tryz.results27, go_sem, c0, c1, c2]; rfl) rfl ⟨hE.out, _, rfl, HR.out _⟩

/-- The state's block is as it was, and nothing else was written. -/
def SZ (n : Nat) (w w' : World) : Prop := Blk w' (n + 1) zcells 52 ∧ Keep (fun b => b = n + 1) w w'
theorem SZ.ext {n : Nat} {w w1 w2 : World} (h : SZ n w w1) (x : Ext w1 w2) : SZ n w w2 := ⟨h.1.ext x, h.2.ext_r x⟩
/-- A fault in a new block. -/
def FtAt (i : Nat) (ev : Value) (v : Value) (w : World) : Prop := ∃ b, v = .pointer (some ⟨b, 0, none⟩) ∧ Blk w b #[.int .i64 (i : Int), ev] 106
theorem FtAt.ext {i : Nat} {ev v : Value} {w w' : World} (h : FtAt i ev v w) (x : Ext w w') : FtAt i ev v w' := by
  obtain ⟨b, e, h⟩ := h
  exact ⟨b, e, h.ext x⟩
set_option maxRecDepth 100000 in
set_option maxHeartbeats 6400000 in
theorem rundo_bound (a1 a2 a3 : Option Addr) (c1 c2 c3 : Nat) (P : PP) (va : Value) (l : List Int) (w : World) (ad : Nat → Addr) (hE : ErrsP w ad) (hP : ProgR w w.heap.size (.slice a1 P.vars.length c1) (.slice a2 P.funs.length c2) (.slice a3 P.stmts.length c3) P) (hI : IntsR w w.heap.size va l)
    (hz1 : ∀ s ∈ P.vars, s.size ≤ 1000000) (hz2 : ∀ s ∈ P.names, s.size ≤ 1000000) (hok : P.err1 = 0 ∧ P.allWell) (hlen : l.length ≤ 2000) (hbad : ∃ x ∈ l, P.badk x = true) :
    Calls Tryz.prog 27 #[pval a1 a2 a3 c1 c2 c3 P, va] w fun e w' => Ext w w' ∧ ∃ v, e = .returned (.tuple #[zeroS, v]) ∧ RunNo ad P l w' v := by
  have HE := hid hE
  have HP := hid hP
  have hpl : (P.vars.length : Int) ≤ 9223372036854775807 := by
    obtain ⟨_, _, _, h2, h3, _⟩ := hP.vars
    omega
  have HI := hid hI
  have hll : (l.length : Int) ≤ 9223372036854775807 := by
    obtain ⟨_, _, _, h2, h3, _⟩ := hI
    omega
  obtain ⟨W1, hW1⟩ : ∃ W1, W1 = w.alloc (.cells (pcells a1 a2 a3 c1 c2 c3 P) 39) := ⟨_, rfl⟩
  have hx1 : Ext w W1 := by rw [hW1]; exact (Ext.refl _).alloc _
  obtain ⟨W2, hW2⟩ : ∃ W2, W2 = W1.alloc (.cells zcells 52) := ⟨_, rfl⟩
  have hx2 : Ext W1 W2 := by rw [hW2]; exact (Ext.refl _).alloc _
  have HW2 := hid (hx1.trans hx2)
  have HB1 : Hid (Blk W2 w.heap.size (pcells a1 a2 a3 c1 c2 c3 P) 39) := hid (by
    have : Blk W1 w.heap.size (pcells a1 a2 a3 c1 c2 c3 P) 39 := by rw [hW1]; exact Blk.new _ _ _
    exact this.ext hx2)
  have hs1 : W1.heap.size = w.heap.size + 1 := by rw [hW1, heap_size_alloc]
  have HB2 : Hid (Blk W2 (w.heap.size + 1) zcells 52) := hid (by
    rw [← hs1, hW2]; exact Blk.new _ _ _)
  have HC := hid (pcheck_any a1 a2 a3 c1 c2 c3 P W2 w.heap.size ad (hE.ext HW2.out) (hP.ext HW2.out) hz1 hz2 hpl)
  have HW2e : Hid (W2 = (w.alloc (.cells #[.slice a1 P.vars.length c1, .slice a2 P.funs.length c2, .slice a3 P.stmts.length c3] 39)).alloc (.cells #[.slice none 0 0, .slice none 0 0, .slice none 0 0] 52)) := hid (by rw [hW2, hW1]; rfl)
  obtain ⟨aa, ca, hva⟩ : ∃ aa ca, va = .slice aa l.length ca := by
    obtain ⟨aa, ca, h, _⟩ := hI
    exact ⟨aa, ca, h⟩
  subst hva
  unfold pval at HC ⊢
  clear hE hP hI hW1 hW2 hx1 hx2 hs1 hz1 hz2
  go_enter Tryz.func27, Tryz.ntmps27
  go_wp2_with fail
  rw [← HW2e.out]
  refine HC.out.mono ?_
  intro e w3 hx
  obtain ⟨v, rfl, hE3, hx3⟩ := hx
  have HB3 := hid (HB2.out.ext hx3)
  have HBp := hid (HB1.out.ext hx3)
  have HW3 := hid (HW2.out.trans hx3)
  have HE3 := hid hE3
  clear HC hE3 hx3
  have Hok := hid hok
  obtain rfl : v = .nilIface := by
    rcases HE3.out.form with ⟨h, _⟩ | ⟨_, h⟩
    · exact h
    · exact absurd hok h
  clear hok
  have HX := hid (indexfi_rd (.pointer (some ⟨w.heap.size, 0, none⟩)) P.badk (.slice aa l.length ca) l w3 w.heap.size (HI.out.old (HW3.out.old _)) (fun n w1 x => rundoc_any _ a1 a2 a3 c1 c2 c3 P n w1 (HBp.out.ext x)))
  have hl2 : ¬ 2000 < l.length := by omega
  go_wp2_with fail
  refine HX.out.mono ?_
  intro e w4 hx
  obtain ⟨r, rfl, hF, hx4⟩ := hx
  rcases hF with ⟨_, h⟩ | ⟨i, y, rfl, hi, hy, hb, hfirst⟩
  · obtain ⟨x, hx, h2⟩ := hbad
    rw [h x hx] at h2; cases h2
  have HK := hid (show P.FirstK l i from ⟨y, hy, hb, hfirst⟩)
  have HW4 := hid (HW3.out.trans hx4)
  have HB4 := hid (HB3.out.ext hx4)
  have gz : ∀ w1, Keep (fun b => b = w.heap.size + 1) w4 w1 → w1.cell? ⟨0, 0, none⟩ = some (evOf ad 2) := fun w1 hk => hk.cellx (HW4.out.cellx HE.out.at2) (fun e => by have := cell_lt HE.out.at2; simp only at e this; omega)
  unfold evOf at gz
  clear hy hb hfirst hx4 HX hbad hll
  go_wp2
  refine wp_flow (fun b => b = w.heap.size + 1) (by kernel_rfl) (by kernel_rfl) ?_
  apply Flow.d 0 _ rfl (by simp) (by kernel_rfl)
  · intro w1 hk; unfold does; go_simp; (try go_ints); exact DetR.mk
  simp only [List.getElem_toArray, List.getElem_cons_zero, List.getElem_cons_succ, Act.put, List.setIfInBounds_toArray, List.set_cons_zero, List.set_cons_succ]
  apply Flow.d 1 _ rfl (by simp) (by kernel_rfl)
  · intro w1 hk; unfold does; go_simp; (try go_ints); exact DetR.mk
  simp only [List.getElem_toArray, List.getElem_cons_zero, List.getElem_cons_succ, Act.put, List.setIfInBounds_toArray, List.set_cons_zero, List.set_cons_succ]
  apply Flow.d 2 _ rfl (by simp) (by kernel_rfl)
  · intro w1 hk; unfold does; go_simp; (try go_ints); exact DetR.mk
  simp only [List.getElem_toArray, List.getElem_cons_zero, List.getElem_cons_succ, Act.put, List.setIfInBounds_toArray, List.set_cons_zero, List.set_cons_succ]
  apply Flow.d 3 _ rfl (by simp) (by kernel_rfl)
  · intro w1 hk; unfold does; go_simp; (try go_ints); exact DetR.mk
  simp only [List.getElem_toArray, List.getElem_cons_zero, List.getElem_cons_succ, Act.put, List.setIfInBounds_toArray, List.set_cons_zero, List.set_cons_succ]
  refine Flow.par3g 4 5 6 _ _ _ rfl rfl rfl (by decide) (by decide) (fun _ _ h => by cases h) (fun _ _ h => by cases h) (fun _ _ h => by cases h) (by kernel_rfl) (by kernel_rfl) (by kernel_rfl) (by kernel_rfl) (by kernel_rfl) (by kernel_rfl)
    (fun u w' => u = undef ∧ SZ w.heap.size w4 w')
    (fun v w' => FtAt i (evOf ad 2) v w' ∧ SZ w.heap.size w4 w')
    (fun u v w' => u = undef ∧ FtAt i (evOf ad 2) v w' ∧ SZ w.heap.size w4 w')
    (fun v t w' => t = .iface 104 v ∧ FtAt i (evOf ad 2) v w' ∧ SZ w.heap.size w4 w')
    (fun u v t w' => (u = undef ∧ t = .iface 104 v) ∧ FtAt i (evOf ad 2) v w' ∧ SZ w.heap.size w4 w')
    (fun _ _ _ h y => ⟨h.1, h.2.ext y⟩) (fun _ _ _ h y => ⟨h.1.ext y, h.2.ext y⟩)
    (fun _ _ _ _ h y => ⟨h.1, h.2.1.ext y, h.2.2.ext y⟩) (fun _ _ _ _ h y => ⟨h.1, h.2.1.ext y, h.2.2.ext y⟩) (fun _ _ _ _ _ h y => ⟨h.1, h.2.1.ext y, h.2.2.ext y⟩) ?_ ?_ ?_ ?_ ?_ ?_ ?_ ?_
  · intro wa hC hk
    have hS : SZ w.heap.size w4 wa := ⟨HB4.out.ext hC, hk⟩
    have z0 := (hS.1).av 0 rfl
    have z1 := (hS.1).av 1 rfl
    have z2 := (hS.1).av 2 rfl
    have f0 := (hS.1).free 0
    have f1 := (hS.1).free 1
    have f2 := (hS.1).free 2
    have HBz := hid (store3 (v0 := .slice none 0 0) (v1 := .slice none 0 0) (v2 := .slice none 0 0) hS.1)
    have HKz := hid (store3_keep wa (w.heap.size + 1) (.slice none 0 0) (.slice none 0 0) (.slice none 0 0))
    simp only [zcells, List.setIfInBounds_toArray, List.set_cons_zero, List.set_cons_succ, List.getElem_toArray, List.getElem_cons_zero, List.getElem_cons_succ] at z0 z1 z2
    have hS2 : SZ w.heap.size w4 (((wa.setCell ⟨w.heap.size + 1, 0, none⟩ (.slice none 0 0)).setCell ⟨w.heap.size + 1, 1, none⟩ (.slice none 0 0)).setCell ⟨w.heap.size + 1, 2, none⟩ (.slice none 0 0)) := ⟨HBz.out, hS.2.trans HKz.out⟩
    clear hk
    unfold does
    go_simp
    exact ⟨hS2.2, rfl, hS2⟩
  · intro wa hC hk
    have hS : SZ w.heap.size w4 wa := ⟨HB4.out.ext hC, hk⟩
    unfold does
    go_simp
    exact ⟨hk.alloc _, ⟨_, rfl, Blk.new _ _ _⟩, hS.ext ((Ext.refl _).alloc _)⟩
  · rintro _ wa ⟨hF, hS⟩ hk
    have z0 := (hS.1).av 0 rfl
    have z1 := (hS.1).av 1 rfl
    have z2 := (hS.1).av 2 rfl
    have f0 := (hS.1).free 0
    have f1 := (hS.1).free 1
    have f2 := (hS.1).free 2
    have HBz := hid (store3 (v0 := .slice none 0 0) (v1 := .slice none 0 0) (v2 := .slice none 0 0) hS.1)
    have HKz := hid (store3_keep wa (w.heap.size + 1) (.slice none 0 0) (.slice none 0 0) (.slice none 0 0))
    simp only [zcells, List.setIfInBounds_toArray, List.set_cons_zero, List.set_cons_succ, List.getElem_toArray, List.getElem_cons_zero, List.getElem_cons_succ] at z0 z1 z2
    have hS2 : SZ w.heap.size w4 (((wa.setCell ⟨w.heap.size + 1, 0, none⟩ (.slice none 0 0)).setCell ⟨w.heap.size + 1, 1, none⟩ (.slice none 0 0)).setCell ⟨w.heap.size + 1, 2, none⟩ (.slice none 0 0)) := ⟨HBz.out, hS.2.trans HKz.out⟩
    clear hk
    unfold does
    go_simp
    obtain ⟨b, rfl, hb⟩ := hF
    exact ⟨hS2.2, rfl, ⟨b, rfl, hb.keep HKz.out fun e => Blk.ty_ne hb hS.1 (by decide) e⟩, hS2⟩
  · rintro _ wa ⟨rfl, hS⟩ hk
    unfold does
    go_simp
    exact ⟨hk.alloc _, ⟨_, rfl, Blk.new _ _ _⟩, hS.ext ((Ext.refl _).alloc _)⟩
  · rintro _ wa ⟨⟨b, rfl, hb⟩, hS⟩ hk
    unfold does
    go_simp
    exact ⟨hk, rfl, ⟨b, rfl, hb⟩, hS⟩
  · rintro _ _ wa ⟨rfl, ⟨b, rfl, hb⟩, hS⟩ hk
    unfold does
    go_simp
    exact ⟨hk, rfl, ⟨b, rfl, hb⟩, hS⟩
  · rintro _ _ _ ⟨_, ⟨rfl, rfl⟩, ⟨b, rfl, _⟩, _⟩
    simp only [List.getElem_toArray, List.getElem_cons_zero, List.getElem_cons_succ, Act.put, List.setIfInBounds_toArray, List.set_cons_zero, List.set_cons_succ]
    apply Flow.d 7 _ rfl (by simp) (by kernel_rfl)
    · intro w1 hk; unfold does; go_simp; (try go_ints); exact DetR.mk
    simp only [List.getElem_toArray, List.getElem_cons_zero, List.getElem_cons_succ, Act.put, List.setIfInBounds_toArray, List.set_cons_zero, List.set_cons_succ]
    refine Flow.fin (by kernel_rfl) fun wb hC hk => ?_
    obtain ⟨⟨b', eb, hbF⟩, hS⟩ : FtAt i (evOf ad 2) (.pointer (some ⟨b, 0, none⟩)) wb ∧ SZ w.heap.size w4 wb := by first | exact hC.2 | exact hC
    obtain rfl : b = b' := by simpa using eb
    have c0 := hS.1.av 0 rfl
    have c1 := hS.1.av 1 rfl
    have c2 := hS.1.av 2 rfl
    simp only [zcells, List.getElem_toArray, List.getElem_cons_zero, List.getElem_cons_succ] at c0 c1 c2
    have hE := hid (Keep.new HW4.out hS.2 (fun n hn => by omega))
    have HR : Hid (RunNo ad P l wb (.iface 104 (.pointer (some ⟨b, 0, none⟩)))) := hid (.inr (.inr ⟨Hok.out.1, Hok.out.2, hlen, i, b, HK.out, rfl, hbF⟩))
    clear hk hS hbF hC
    go_wp2
    exact bodyPost_ret (v := .tuple #[zeroS, .iface 104 (.pointer (some ⟨b, 0, none⟩))]) (by simp [results, Tryz.results27, go_sem, c0, c1, c2]; rfl) rfl ⟨hE.out, _, rfl, HR.out⟩
  · rintro _ _ ⟨_, rfl, ⟨b, rfl, _⟩, _⟩
    simp only [List.getElem_toArray, List.getElem_cons_zero, List.getElem_cons_succ, Act.put, List.setIfInBounds_toArray, List.set_cons_zero, List.set_cons_succ]
    refine Flow.one 6 _ rfl (by kernel_rfl) (fun _ w' => FtAt i (evOf ad 2) (.pointer (some ⟨b, 0, none⟩)) w' ∧ SZ w.heap.size w4 w') (fun _ _ _ h y => ⟨h.1.ext y, h.2.ext y⟩) ?_ ?_
    · rintro wa ⟨_, hF, hS⟩ hk
      have z0 := (hS.1).av 0 rfl
      have z1 := (hS.1).av 1 rfl
      have z2 := (hS.1).av 2 rfl
      have f0 := (hS.1).free 0
      have f1 := (hS.1).free 1
      have f2 := (hS.1).free 2
      have HBz := hid (store3 (v0 := .slice none 0 0) (v1 := .slice none 0 0) (v2 := .slice none 0 0) hS.1)
      have HKz := hid (store3_keep wa (w.heap.size + 1) (.slice none 0 0) (.slice none 0 0) (.slice none 0 0))
      simp only [zcells, List.setIfInBounds_toArray, List.set_cons_zero, List.set_cons_succ, List.getElem_toArray, List.getElem_cons_zero, List.getElem_cons_succ] at z0 z1 z2
      have hS2 : SZ w.heap.size w4 (((wa.setCell ⟨w.heap.size + 1, 0, none⟩ (.slice none 0 0)).setCell ⟨w.heap.size + 1, 1, none⟩ (.slice none 0 0)).setCell ⟨w.heap.size + 1, 2, none⟩ (.slice none 0 0)) := ⟨HBz.out, hS.2.trans HKz.out⟩
      clear hk
      unfold does
      go_simp
      obtain ⟨b', e, hb⟩ := hF
      exact ⟨hS2.2, ⟨b', e, hb.keep HKz.out fun e => Blk.ty_ne hb hS.1 (by decide) e⟩, hS2⟩
    rintro _ ⟨_, _⟩
    simp only [List.getElem_toArray, List.getElem_cons_zero, List.getElem_cons_succ, Act.put, List.setIfInBounds_toArray, List.set_cons_zero, List.set_cons_succ]
    apply Flow.d 7 _ rfl (by simp) (by kernel_rfl)
    · intro w1 hk; unfold does; go_simp; (try go_ints); exact DetR.mk
    simp only [List.getElem_toArray, List.getElem_cons_zero, List.getElem_cons_succ, Act.put, List.setIfInBounds_toArray, List.set_cons_zero, List.set_cons_succ]
    refine Flow.fin (by kernel_rfl) fun wb hC hk => ?_
    obtain ⟨⟨b', eb, hbF⟩, hS⟩ : FtAt i (evOf ad 2) (.pointer (some ⟨b, 0, none⟩)) wb ∧ SZ w.heap.size w4 wb := by first | exact hC.2 | exact hC
    obtain rfl : b = b' := by simpa using eb
    have c0 := hS.1.av 0 rfl
    have c1 := hS.1.av 1 rfl
    have c2 := hS.1.av 2 rfl
    simp only [zcells, List.getElem_toArray, List.getElem_cons_zero, List.getElem_cons_succ] at c0 c1 c2
    have hE := hid (Keep.new HW4.out hS.2 (fun n hn => by omega))
    have HR : Hid (RunNo ad P l wb (.iface 104 (.pointer (some ⟨b, 0, none⟩)))) := hid (.inr (.inr ⟨Hok.out.1, Hok.out.2, hlen, i, b, HK.out, rfl, hbF⟩))
    clear hk hS hbF hC
    go_wp2
    exact bodyPost_ret (v := .tuple #[zeroS, .iface 104 (.pointer (some ⟨b, 0, none⟩))]) (by simp [results, Tryz.results27, go_sem, c0, c1, c2]; rfl) rfl ⟨hE.out, _, rfl, HR.out⟩
end Go.Proofs.YtoaoienfggjepaaGreatDoor



/- Runs: run.Do: a script that is done. -/
namespace Go.Proofs.YtoaoienfggjepaaGreatDoor
set_option linter.unusedSimpArgs false
set_option linter.unusedVariables false
open Go Go.RowKit

theorem Rn.run_snoc (P : PP) (l : List Nat) (k : Nat) : Rn.run P (l ++ [k]) = (Rn.run P l).step P k := by simp [Rn.run, List.foldl_append]
theorem Rn.Ok.step {P : PP} {s : Rn} (h : s.Ok P) (hw : P.allWell) (k : Nat) : (s.step P k).Ok P := by
  unfold Rn.step
  cases hx : P.stmts[k]? with
  | none => exact h
  | some x =>
    have hk : k < P.stmts.length := by
      rcases Nat.lt_or_ge k P.stmts.length with h | h
      · exact h
      · rw [List.getElem?_eq_none h] at hx; cases hx
    exact h.stmt k (PP.good (hw k x hk hx))
theorem Rn.Ok.foldl {P : PP} (hw : P.allWell) : ∀ (l : List Nat) {s : Rn}, s.Ok P → (l.foldl (Rn.step P) s).Ok P
  | [], _, h => h
  | k :: l, _, h => Rn.Ok.foldl hw l (h.step hw k)
theorem Rn.Ok.run {P : PP} (hw : P.allWell) (l : List Nat) : (Rn.run P l).Ok P := Rn.Ok.foldl hw l (Rn.Ok.begin P)
theorem Rn.step_len (P : PP) (s : Rn) (k : Nat) : (s.step P k).places.length ≤ s.places.length + 1 := by
  unfold Rn.step
  cases hx : P.stmts[k]? with
  | none => exact Nat.le_succ _
  | some x =>
    simp only [Rn.stmt_places]
    split <;> simp
theorem Rn.foldl_len (P : PP) : ∀ (l : List Nat) (s : Rn), (l.foldl (Rn.step P) s).places.length ≤ s.places.length + l.length
  | [], s => Nat.le_refl _
  | k :: l, s => by
    have h1 := Rn.foldl_len P l (s.step P k)
    have h2 := Rn.step_len P s k
    simp only [List.foldl_cons, List.length_cons]
    omega
theorem Rn.run_len {P : PP} (hw : P.allWell) (l : List Nat) : (Rn.run P l).things.length ≤ l.length := by
  rw [← (Rn.Ok.run hw l).lp]
  have := Rn.foldl_len P l (Rn.begin P)
  simpa [Rn.run, Rn.begin] using this

theorem ElR.lift {n0 n1 n : Nat} {v : Value} {E : Nat → Addr → Prop} (h : ElR n0 v n E) (hn : n0 ≤ n1) : ElR n1 v n E := h.mono hn fun _ _ _ _ h => h
theorem ProgR.lift {w : World} {n0 n1 : Nat} {v1 v2 v3 : Value} {P : PP} (h : ProgR w n0 v1 v2 v3 P) (hn : n0 ≤ n1) : ProgR w n1 v1 v2 v3 P :=
  ⟨ElR.lift h.vars hn, ElR.mono h.funs hn fun i y _ _ hE f hf => by
    obtain ⟨pv, h1, h2, h3, h4⟩ := hE f hf
    exact ⟨pv, h1, h2, h3, ElR.lift h4 hn⟩, ElR.mono h.stmts hn fun i y _ _ hE f hf => by
    obtain ⟨pv, h1, h2, h3, h4, h5⟩ := hE f hf
    exact ⟨pv, h1, h2, h3, h4, ElR.lift h5 hn⟩⟩
/-- The rows of a state. -/
structure RnRows (w : World) (n0 : Nat) (vv tv pv : Value) (s : Rn) : Prop where
  vars : w.ownsRow n0 57 2 vv s.vars.length (s.vars.flatMap Vl.cells)
  things : w.ownsRow n0 57 2 tv s.things.length (s.things.flatMap Vl.cells)
  places : w.ownsRow n0 3 1 pv s.places.length (icells s.pl)
theorem RnRows.ext {w w' : World} {n0 : Nat} {vv tv pv : Value} {s : Rn} (h : RnRows w n0 vv tv pv s) (x : Ext w w') : RnRows w' n0 vv tv pv s := ⟨own_ext h.vars x, own_ext h.things x, own_ext h.places x⟩
theorem fm_rep (k : Nat) : (List.replicate (k + 1) Vl.none).flatMap Vl.cells = (List.replicate k Vl.none).flatMap Vl.cells ++ Vl.cells .none := by
  rw [List.replicate_succ', List.flatMap_append]
  simp

theorem IntsR.at {w : World} {n0 : Nat} {a : Option Addr} {n cap : Nat} {l : List Int} (h : IntsR w n0 (.slice a n cap) l) {k : Nat} (hk : k < l.length) : ∃ y q, a = some y ∧ l[k]? = some q ∧ w.cell? (y.add k) = some (.int .i64 q) := by
  obtain ⟨a', cap', h1, h2, h3, h4, h5⟩ := h
  obtain ⟨rfl, rfl, rfl⟩ : a = a' ∧ n = l.length ∧ cap = cap' := by simpa using h1
  obtain ⟨y, rfl⟩ := h4 (by omega)
  have hx : l[k]? = some (l[k]'hk) := List.getElem?_eq_getElem hk
  exact ⟨y, _, rfl, hx, (h5 y rfl (by omega)).2 k hk _ hx⟩
theorem PP.funs_ok {P : PP} (h : P.err1 = 0) : P.funsErr = 0 := by
  unfold PP.err1 at h
  cases hb : P.big with
  | true => rw [hb] at h; simp at h
  | false =>
    rw [hb] at h
    simp only [cond_false] at h
    split at h
    · omega
    · split at h
      · omega
      · exact h
set_option maxRecDepth 100000 in
set_option maxHeartbeats 6400000 in
theorem rundo_ok (a1 a2 a3 : Option Addr) (c1 c2 c3 : Nat) (P : PP) (va : Value) (l : List Int) (w : World) (ad : Nat → Addr) (hE : ErrsP w ad) (hP : ProgR w w.heap.size (.slice a1 P.vars.length c1) (.slice a2 P.funs.length c2) (.slice a3 P.stmts.length c3) P) (hI : IntsR w w.heap.size va l)
    (hz1 : ∀ s ∈ P.vars, s.size ≤ 1000000) (hz2 : ∀ s ∈ P.names, s.size ≤ 1000000) (hr : P.Runs l) :
    Calls Tryz.prog 27 #[pval a1 a2 a3 c1 c2 c3 P, va] w fun e w' => Ext w w' ∧ ∃ vv tv pv, e = .returned (.tuple #[.agg #[vv, tv, pv], .nilIface]) ∧ RnRows w' w.heap.size vv tv pv (Rn.run P (l.map Int.toNat)) := by
  have HE := hid hE
  have HP := hid hP
  have hpl : (P.vars.length : Int) ≤ 9223372036854775807 := by
    obtain ⟨_, _, _, h2, h3, _⟩ := hP.vars
    omega
  have HI := hid hI
  have hll : (l.length : Int) ≤ 9223372036854775807 := by
    obtain ⟨_, _, _, h2, h3, _⟩ := hI
    omega
  obtain ⟨W1, hW1⟩ : ∃ W1, W1 = w.alloc (.cells (pcells a1 a2 a3 c1 c2 c3 P) 39) := ⟨_, rfl⟩
  have hx1 : Ext w W1 := by rw [hW1]; exact (Ext.refl _).alloc _
  obtain ⟨W2, hW2⟩ : ∃ W2, W2 = W1.alloc (.cells zcells 52) := ⟨_, rfl⟩
  have hx2 : Ext W1 W2 := by rw [hW2]; exact (Ext.refl _).alloc _
  have HW2 := hid (hx1.trans hx2)
  have HB1 : Hid (Blk W2 w.heap.size (pcells a1 a2 a3 c1 c2 c3 P) 39) := hid (by
    have : Blk W1 w.heap.size (pcells a1 a2 a3 c1 c2 c3 P) 39 := by rw [hW1]; exact Blk.new _ _ _
    exact this.ext hx2)
  have hs1 : W1.heap.size = w.heap.size + 1 := by rw [hW1, heap_size_alloc]
  have HB2 : Hid (Blk W2 (w.heap.size + 1) zcells 52) := hid (by
    rw [← hs1, hW2]; exact Blk.new _ _ _)
  have HC := hid (pcheck_any a1 a2 a3 c1 c2 c3 P W2 w.heap.size ad (hE.ext HW2.out) (hP.ext HW2.out) hz1 hz2 hpl)
  have HW2e : Hid (W2 = (w.alloc (.cells #[.slice a1 P.vars.length c1, .slice a2 P.funs.length c2, .slice a3 P.stmts.length c3] 39)).alloc (.cells #[.slice none 0 0, .slice none 0 0, .slice none 0 0] 52)) := hid (by rw [hW2, hW1]; rfl)
  obtain ⟨aa, ca, hva⟩ : ∃ aa ca, va = .slice aa l.length ca := by
    obtain ⟨aa, ca, h, _⟩ := hI
    exact ⟨aa, ca, h⟩
  subst hva
  unfold pval at HC ⊢
  clear hE hP hI hW1 hW2 hx1 hx2 hs1 hz1 hz2
  go_enter Tryz.func27, Tryz.ntmps27
  go_wp2_with fail
  rw [← HW2e.out]
  refine HC.out.mono ?_
  intro e w3 hx
  obtain ⟨v, rfl, hE3, hx3⟩ := hx
  have HB3 := hid (HB2.out.ext hx3)
  have HBp := hid (HB1.out.ext hx3)
  have HW3 := hid (HW2.out.trans hx3)
  have HE3 := hid hE3
  clear HC hE3 hx3
  obtain ⟨hr1, hr2, hr3, hr4⟩ := hr
  have hok : P.err1 = 0 ∧ P.allWell := ⟨hr1, hr2⟩
  have Hok := hid hok
  obtain rfl : v = .nilIface := by
    rcases HE3.out.form with ⟨h, _⟩ | ⟨_, h⟩
    · exact h
    · exact absurd hok h
  clear hok
  have hlen := hr3
  have HX := hid (indexfi_rd (.pointer (some ⟨w.heap.size, 0, none⟩)) P.badk (.slice aa l.length ca) l w3 w.heap.size (HI.out.old (HW3.out.old _)) (fun n w1 x => rundoc_any _ a1 a2 a3 c1 c2 c3 P n w1 (HBp.out.ext x)))
  have hl2 : ¬ 2000 < l.length := by omega
  go_wp2_with fail
  refine HX.out.mono ?_
  intro e w4 hx
  obtain ⟨r, rfl, hF, hx4⟩ := hx
  obtain rfl : r = -1 := by
    rcases hF with ⟨h, _⟩ | ⟨i, y, _, hi, hy, hb, _⟩
    · exact h
    · rw [hr4 y (List.mem_of_getElem? hy)] at hb; cases hb
  have HBad := hid hr4
  have HW4 := hid (HW3.out.trans hx4)
  have HB4 := hid (HB3.out.ext hx4)
  have HP4 := hid (HBp.out.ext hx4)
  have hvl : P.vars.length ≤ 40 := by
    have h := hr1
    unfold PP.err1 at h
    cases hb : P.big with
    | true => rw [hb] at h; simp at h
    | false => unfold PP.big at hb; simp at hb; omega
  obtain ⟨W9, hW9⟩ : ∃ W9, W9 = w4.alloc (.cells zcells 52) := ⟨_, rfl⟩
  have hx9 : Ext w4 W9 := by rw [hW9]; exact (Ext.refl _).alloc _
  have HR9 : Hid (RnAt W9 w4.heap.size w4.heap.size (.slice none 0 0) (.slice none 0 0) (.slice none 0 0) ⟨List.replicate 0 .none, [], []⟩) := hid
    ⟨by rw [hW9]; exact Blk.new _ _ _, Nat.le_refl _, World.ownsRow_nil _ _ _ _, World.ownsRow_nil _ _ _ _, World.ownsRow_nil _ _ _ _, fun b h => by cases h⟩
  have HW9 := hid (HW4.out.trans hx9)
  have HB9 := hid (HB4.out.ext hx9)
  have HP9 := hid (HP4.out.ext hx9)
  have p0 : (w4.alloc (.cells #[.slice none 0 0, .slice none 0 0, .slice none 0 0] 52)).cell? ⟨w.heap.size, 0, none⟩ = some (.slice a1 P.vars.length c1) := ((HP4.out.ext ((Ext.refl _).alloc _)).av 0 rfl)
  have HW9e : Hid (W9 = w4.alloc (.cells #[.slice none 0 0, .slice none 0 0, .slice none 0 0] 52)) := hid hW9
  have Hlt : Hid (w.heap.size + 1 < w4.heap.size) := hid HB4.out.lt
  have HNo : ∀ w1, Hid (Calls Tryz.prog 69 #[] w1 fun e w' => e = .returned (.agg #[.string ⟨#[110, 111, 110, 101]⟩, .int .i64 0]) ∧ Ext w1 w') := fun w1 => hid (runnone_any w1)
  clear hx4 HX hr1 hr2 hr3 hr4 hW9 hx9
  go_wp2
  rw [← HW9e.out]
  generalize hsb : w4.heap.size = sb at *
  clear p0 hsb HW9e
  go_loopw [37] (fun t37 wr => ∃ (k : Nat) (vv : Value), t37 = .int .i64 (k : Int) ∧ k ≤ P.vars.length ∧ RnAt wr sb sb vv (.slice none 0 0) (.slice none 0 0) ⟨List.replicate k .none, [], []⟩ ∧ Old sb W9 wr) (fun t37 _ => P.vars.length - (intOf t37).toNat)
  case atStart => exact ⟨0, _, rfl, Nat.zero_le _, HR9.out, Old.refl _ _⟩
  case round =>
    obtain ⟨k, vv, rfl, hk, hR, hO⟩ := hrel
    obtain ⟨av, cv, hvv⟩ := row_form hR.vars
    rw [List.length_replicate] at hvv
    subst hvv
    have HR := hid hR
    have HO := hid hO
    clear hR hO
    by_cases hlt : k < P.vars.length
    · have hsX : ¬ (Value.slice av k cv).ownBlock = some sb := fun e => HR.out.vb e rfl
      have d0 := HR.out.blk.kc (X := fun q => (Value.slice av k cv).ownBlock = some q) hsX 0 rfl
      simp only [List.getElem_toArray, List.getElem_cons_zero, List.getElem_cons_succ] at d0
      have Hsl : Hid (sb ≤ wr.heap.size) := hid (Nat.le_of_lt HR.out.blk.lt)
      have Hkl : Hid (k ≤ 1000000) := hid (by omega)
      have Hrow : Hid (wr.ownsRow sb 57 2 (.slice av k cv) k ((List.replicate k Vl.none).flatMap Vl.cells)) := hid (by have := HR.out.vars; simpa only [List.length_replicate] using this)
      clear hsX
      go_wp2
      refine wp_flowT (fun q => (Value.slice av k cv).ownBlock = some q) (by kernel_rfl) (by kernel_rfl) ?_
      repeat (apply FlowT.d; (intro w1 hk; unfold does; go_simp; (try go_ints); (first | exact DetR.mk | (simp only [↓IntWalk.iteOmega, Oper.doesUpon_value]; exact DetR.mk) | (simp only [↓IntWalk.iteOmega]; go_simp; (try go_ints); exact DetR.mk))); simp only [Act.put, List.setIfInBounds_toArray, List.set_cons_zero, List.set_cons_succ])
      apply FlowT.d
      · intro w1 hk
        unfold does
        go_simp
        exact CallR.det ((HNo w1).out)
      simp only [Act.put, List.setIfInBounds_toArray, List.set_cons_zero, List.set_cons_succ]
      refine FlowT.s (fun u w' => NoneOne u w' ∧ Ext wr w') 3 rfl (by kernel_rfl) (fun _ _ _ h y => ⟨h.1.ext y, h.2.trans y⟩) (fun w1 hC hk => ?_) ?_
      · unfold does
        go_simp
        exact ⟨hk.alloc _, NoneOne.mk _, hC.alloc _⟩
      rintro _ ⟨_, ⟨b, rfl, _⟩, _⟩
      simp only [Act.put, List.setIfInBounds_toArray, List.set_cons_zero, List.set_cons_succ]
      refine FlowT.s (fun u w' => (∃ a c, u = .slice a (k + 1) c) ∧ w'.ownsRow sb 57 2 u (k + 1) ((List.replicate (k + 1) Vl.none).flatMap Vl.cells) ∧ Keep (fun q => (Value.slice av k cv).ownBlock = some q) wr w') 4 rfl (by kernel_rfl) (fun _ _ _ h y => ⟨h.1, own_ext h.2.1 y, h.2.2.ext_r y⟩) (fun w1 hC hk => ?_) ?_
      · obtain ⟨⟨b', eb, hb⟩, hx1⟩ := hC
        obtain rfl : b = b' := by simpa using eb
        refine does_append_el sb (Nat.le_trans Hsl.out hx1.size) 50 57 (.agg #[.string ⟨#[]⟩, .int .i64 0]) 2 24 Tryz.underlying50 rval_info rfl (by omega) (by omega) rfl _ _ rfl (.slice av k cv) k ((List.replicate k Vl.none).flatMap Vl.cells) rfl (own_ext Hrow.out hx1) b (Vl.cells .none) rfl (by simp [Vl.cells, Value.oneCell']) rfl hb Hkl.out ?_
        intro v' w' ho hk' hl
        rw [← fm_rep] at ho
        have hk2 := hk.trans hk'
        exact ⟨hk2, row_form ho, ho, hk2⟩
      rintro _ ⟨_, ⟨a8, c8, rfl⟩, _, _⟩
      simp only [Act.put, List.setIfInBounds_toArray, List.set_cons_zero, List.set_cons_succ]
      repeat (apply FlowT.d; (intro w1 hk; unfold does; go_simp; (try go_ints); (first | exact DetR.mk | (simp only [↓IntWalk.iteOmega, Oper.doesUpon_value]; exact DetR.mk) | (simp only [↓IntWalk.iteOmega]; go_simp; (try go_ints); exact DetR.mk))); simp only [Act.put, List.setIfInBounds_toArray, List.set_cons_zero, List.set_cons_succ])
      refine FlowT.last (fun _ w' => RnAt w' sb sb (.slice a8 (k + 1) c8) (.slice none 0 0) (.slice none 0 0) ⟨List.replicate (k + 1) .none, [], []⟩ ∧ Old sb wr w') 6 rfl (by kernel_rfl) (by kernel_rfl) (fun w2 hC hk => ?_) (fun _ w4 hR4 => ?_)
      · obtain ⟨_, hrow, hk2⟩ := hC
        have hB := HR.out.blk.keep hk2 (fun e => HR.out.vb e rfl)
        have z0 := hB.av 0 rfl
        have f0 := hB.free 0
        have hB2 := hB.set 0 (.slice a8 (k + 1) c8)
        simp only [List.setIfInBounds_toArray, List.set_cons_zero] at hB2
        have hk3 : Keep (fun q => q = sb) w2 (w2.setCell ⟨sb, 0, none⟩ (.slice a8 (k + 1) c8)) := Keep.set (X := fun q => q = sb) (Keep.refl _ _) rfl _
        have hR2 : RnAt (w2.setCell ⟨sb, 0, none⟩ (.slice a8 (k + 1) c8)) sb sb (.slice a8 (k + 1) c8) (.slice none 0 0) (.slice none 0 0) ⟨List.replicate (k + 1) .none, [], []⟩ :=
          ⟨hB2, Nat.le_refl _, row_keep (by simpa only [List.length_replicate] using hrow) hk3 (fun i hi e => by
            subst e
            obtain ⟨c, hc⟩ := own_ty hrow hi
            exact Blk.ty_ne hc hB (by decide) rfl), World.ownsRow_nil _ _ _ _, World.ownsRow_nil _ _ _ _, fun b _ e => by cases e⟩
        have hO2 : Old sb wr (w2.setCell ⟨sb, 0, none⟩ (.slice a8 (k + 1) c8)) := (hk2.mono fun q _ e => (World.ownsRow.lt Hrow.out q e).1).trans (hk3.mono fun q _ e => by rw [e]; exact Nat.le_refl _)
        clear hk hk2 hB hB2 hk3 hrow
        unfold does
        go_simp
      obtain ⟨hR5, hO5⟩ := hR4
      simp only [Act.put]
      have HR5 := hid hR5
      have HO5 := hid (HO.out.trans hO5)
      clear hR5 hO5 d0
      go_wp2
      go_roundw
      case rel => exact ⟨k + 1, _, by go_num, by omega, HR5.out, HO5.out⟩
      case measure => simp [intOf]; omega
    · obtain rfl : k = P.vars.length := by omega
      have HR5 : Hid (RnAt wr sb sb (.slice av P.vars.length cv) (.slice none 0 0) (.slice none 0 0) (Rn.begin P)) := HR
      clear HR
      go_wp2
      rename World => w7
      go_loopw [48] (fun t48 wr => ∃ (k : Nat) (vv tv pv : Value), t48 = .int .i64 (k : Int) ∧ k ≤ l.length ∧ RnAt wr sb sb vv tv pv (Rn.run P ((l.map Int.toNat).take k)) ∧ Old sb W9 wr) (fun t48 _ => l.length - (intOf t48).toNat)
      case atStart => exact ⟨0, _, _, _, rfl, Nat.zero_le _, HR5.out, HO.out⟩
      case round =>
        obtain ⟨k, vv, tv, pv, rfl, hk, hR, hO⟩ := hrel
        have HR := hid hR
        have HO := hid hO
        clear hR hO
        have HPr : Hid (Blk wr w.heap.size (pcells a1 a2 a3 c1 c2 c3 P) 39) := hid (HP9.out.keep HO.out (fun e => by have := Hlt.out; omega))
        have HBr : Hid (Blk wr (w.heap.size + 1) zcells 52) := hid (HB9.out.keep HO.out (fun e => by have := Hlt.out; omega))
        have HWo : Hid (Old w.heap.size w wr) := hid ((HW9.out.old _).trans (HO.out.mono fun q _ e => by have := Hlt.out; omega))
        by_cases hlt : k < l.length
        · obtain ⟨ya, q, rfl, hqk, hc⟩ := (HI.out.old HWo.out).at hlt
          have hqb := HBad.out q (List.mem_of_getElem? hqk)
          have hqi : 0 ≤ q ∧ q < P.stmts.length := by
            unfold PP.badk at hqb
            simp at hqb
            omega
          obtain ⟨K, rfl⟩ := Int.eq_ofNat_of_zero_le hqi.1
          have hK : K < P.stmts.length := by omega
          have hxk : P.stmts[K]? = some (P.stmts[K]'hK) := List.getElem?_eq_getElem hK
          have HD := hid (stdo_any a1 a2 a3 c1 c2 c3 P K _ hxk (Hok.out.2 K _ hK hxk) (fun f hf => PP.goodF (PP.funs_ok Hok.out.1) hf) _ (Rn.Ok.run Hok.out.2 _) wr sb sb vv tv pv HR.out ((HP.out.old HWo.out).lift (Nat.le_of_lt (Nat.lt_of_le_of_lt (Nat.le_succ _) Hlt.out))) (Nat.le_of_lt HR.out.blk.lt) (by
            have h1 := Rn.run_len Hok.out.2 ((l.map Int.toNat).take k)
            rw [List.length_take, List.length_map] at h1
            omega))
          have Hnext : Hid (Rn.run P ((l.map Int.toNat).take (k + 1)) = (Rn.run P ((l.map Int.toNat).take k)).stmt P K (P.stmts[K]'hK)) := hid (by
            rw [List.take_add_one, List.getElem?_map, hqk]
            simp only [Option.map_some, Option.toList, Int.toNat_natCast]
            rw [Rn.run_snoc]
            unfold Rn.step
            rw [hxk])
          have p0 := HPr.out.av 0 rfl
          have p1 := HPr.out.av 1 rfl
          have p2 := HPr.out.av 2 rfl
          simp only [pcells, List.getElem_toArray, List.getElem_cons_zero, List.getElem_cons_succ] at p0 p1 p2
          unfold pval at HD
          clear hqk hqb hqi hxk
          go_wp2_with fail
          refine HD.out.mono ?_
          intro e w6 hx
          obtain ⟨rfl, ⟨v1, v2, v3, hR6⟩, hO6⟩ := hx
          have HR6 := hid hR6
          have HO6 := hid (HO.out.trans hO6)
          clear HD hR6 hO6 p0 p1 p2
          go_wp2
          go_roundw
          case rel => exact ⟨k + 1, v1, v2, v3, by go_num, by omega, by rw [Hnext.out]; exact HR6.out, HO6.out⟩
          case measure => simp [intOf]; omega
        · obtain rfl : k = l.length := by omega
          rw [List.take_of_length_le (by simp)] at HR
          obtain ⟨s, hs⟩ : ∃ s, s = Rn.run P (l.map Int.toNat) := ⟨_, rfl⟩
          rw [← hs] at HR
          have Hs := hid hs
          obtain ⟨b1, e1, rfl⟩ := row_form HR.out.vars
          obtain ⟨b2, e2, rfl⟩ := row_form HR.out.things
          obtain ⟨b3, e3, rfl⟩ := row_form HR.out.places
          have d0 := HR.out.blk.av 0 rfl
          have d1 := HR.out.blk.av 1 rfl
          have d2 := HR.out.blk.av 2 rfl
          have z0 := HBr.out.av 0 rfl
          have z1 := HBr.out.av 1 rfl
          have z2 := HBr.out.av 2 rfl
          have f0 := HBr.out.free 0
          have f1 := HBr.out.free 1
          have f2 := HBr.out.free 2
          simp only [zcells, List.getElem_toArray, List.getElem_cons_zero, List.getElem_cons_succ] at d0 d1 d2 z0 z1 z2
          have HBz := hid (store3 (v0 := .slice b1 s.vars.length e1) (v1 := .slice b2 s.things.length e2) (v2 := .slice b3 s.places.length e3) HBr.out)
          have HKz := hid (store3_keep wr (w.heap.size + 1) (.slice b1 s.vars.length e1) (.slice b2 s.things.length e2) (.slice b3 s.places.length e3))
          clear hs
          go_wp2
          have c0 := HBz.out.av 0 rfl
          have c1' := HBz.out.av 1 rfl
          have c2' := HBz.out.av 2 rfl
          have hX := Keep.new (Ext.refl w) (HWo.out.trans (HKz.out.mono fun b _ e => by omega)) fun b hb => hb
          have hw : w.heap.size ≤ sb := by have := Hlt.out; omega
          have hbx : ∀ i, sb ≤ i → ¬ i = w.heap.size + 1 := fun i h e => by have := Hlt.out; omega
          have hrows : RnRows _ w.heap.size (.slice b1 s.vars.length e1) (.slice b2 s.things.length e2) (.slice b3 s.places.length e3) s :=
            ⟨own_low (row_keep HR.out.vars HKz.out fun i hi => hbx i (World.ownsRow.lt HR.out.vars i hi).1) hw, own_low (row_keep HR.out.things HKz.out fun i hi => hbx i (World.ownsRow.lt HR.out.things i hi).1) hw, own_low (row_keep HR.out.places HKz.out fun i hi => hbx i (World.ownsRow.lt HR.out.places i hi).1) hw⟩
          generalize (((wr.setCell ⟨w.heap.size + 1, 0, none⟩ (.slice b1 s.vars.length e1)).setCell ⟨w.heap.size + 1, 1, none⟩ (.slice b2 s.things.length e2)).setCell ⟨w.heap.size + 1, 2, none⟩ (.slice b3 s.places.length e3)) = W10 at *
          exact bodyPost_ret (v := .tuple #[.agg #[.slice b1 s.vars.length e1, .slice b2 s.things.length e2, .slice b3 s.places.length e3], .nilIface]) (by simp [results, Tryz.results27, go_sem, c0, c1', c2']) rfl ⟨hX, _, _, _, rfl, by rw [← Hs.out]; exact hrows⟩
end Go.Proofs.YtoaoienfggjepaaGreatDoor



/- The reference's fault of a program. -/
namespace Go.Proofs.YtoaoienfggjepaaGreatDoor
set_option linter.unusedSimpArgs false
set_option linter.unusedVariables false
open Go Go.RowKit

/-- The reference's fault: a number, and where. -/
def FaultIs (P : PP) (c : Nat) (p : Int) : Prop :=
  (P.err1 ≠ 0 ∧ c = P.err1 ∧ p = -1) ∨ (P.err1 = 0 ∧ P.allWell ∧ c = 0 ∧ p = -1) ∨ (P.err1 = 0 ∧ ∃ i s, P.FirstBad i s ∧ c = P.stmtErr s ∧ p = (i : Int))
theorem two {w : World} {g : Nat} {x0 x1 v0 v1 : Value} {t : TypeId} (h : Blk w g #[x0, x1] t) : Blk ((w.setCell ⟨g, 0, none⟩ v0).setCell ⟨g, 1, none⟩ v1) g #[v0, v1] t := by
  have := (h.set 0 v0).set 1 v1
  simpa using this
/-! What the lists' laws give. -/
end Go.Proofs.YtoaoienfggjepaaGreatDoor



/- The reference's runs: load and store. -/
namespace Go.Proofs.YtoaoienfggjepaaGreatDoor
set_option linter.unusedSimpArgs false
set_option linter.unusedVariables false
open Go Go.RowKit

/-- What a value is the address of, for the reference. -/
def rgv (s : Rn) : Vl → Value
  | .var n => .tuple #[.agg #[.string (s.vars.getD n .none).kind, .int .i64 ((s.vars.getD n .none).num : Int)], .bool true]
  | .thing n => .tuple #[.agg #[.string (s.things.getD n .none).kind, .int .i64 ((s.things.getD n .none).num : Int)], .bool true]
  | _ => .tuple #[.agg #[.string ⟨#[]⟩, .int .i64 0], .bool false]
end Go.Proofs.YtoaoienfggjepaaGreatDoor



/- The reference's runs: load and store. -/
namespace Go.Proofs.YtoaoienfggjepaaGreatDoor
set_option linter.unusedSimpArgs false
set_option linter.unusedVariables false
open Go Go.RowKit

end Go.Proofs.YtoaoienfggjepaaGreatDoor



/- The reference's runs: store. -/
namespace Go.Proofs.YtoaoienfggjepaaGreatDoor
set_option linter.unusedSimpArgs false
set_option linter.unusedVariables false
open Go Go.RowKit

end Go.Proofs.YtoaoienfggjepaaGreatDoor



/- Programs that are too large for the laws. -/
namespace Go.Proofs.YtoaoienfggjepaaGreatDoor
set_option linter.unusedSimpArgs false
set_option linter.unusedVariables false
open Go Go.RowKit

structure PP.Small (P : PP) : Prop where
  vl : P.vars.length ≤ 41
  fl : P.funs.length ≤ 8
  sl : P.stmts.length ≤ 81
  vs : ∀ s ∈ P.vars, s.size ≤ 20
  fs : ∀ f ∈ P.funs, f.name.size ≤ 20 ∧ f.params.length ≤ 8
  ss : ∀ s ∈ P.stmts, s.kind.size ≤ 20 ∧ s.args.length ≤ 8
theorem StrsR.at {w : World} {n0 : Nat} {a : Option Addr} {n cap : Nat} {l : List ByteArray} (h : StrsR w n0 (.slice a n cap) l) {k : Nat} (hk : k < l.length) : ∃ y q, a = some y ∧ l[k]? = some q ∧ w.cell? (y.add k) = some (.string q) := by
  obtain ⟨a', cap', h1, h2, h3, h4, h5⟩ := h
  obtain ⟨rfl, rfl, rfl⟩ : a = a' ∧ n = l.length ∧ cap = cap' := by simpa using h1
  obtain ⟨y, rfl⟩ := h4 (by omega)
  have hx : l[k]? = some (l[k]'hk) := List.getElem?_eq_getElem hk
  exact ⟨y, _, rfl, hx, (h5 y rfl (by omega)).2 k hk _ hx⟩
theorem StrsR.len {w : World} {n0 : Nat} {a : Option Addr} {n cap : Nat} {l : List ByteArray} (h : StrsR w n0 (.slice a n cap) l) : (l.length : Int) ≤ 9223372036854775807 := by
  obtain ⟨_, _, _, h2, h3, _⟩ := h
  omega

end Go.Proofs.YtoaoienfggjepaaGreatDoor



/- Links: a frame is sent and kept. -/
namespace Go.Proofs.YtoaoienfggjepaaGreatDoor
set_option linter.unusedSimpArgs false
set_option linter.unusedVariables false
open Go Go.RowKit

end Go.Proofs.YtoaoienfggjepaaGreatDoor



/- Links: a tick. -/
namespace Go.Proofs.YtoaoienfggjepaaGreatDoor
set_option linter.unusedSimpArgs false
set_option linter.unusedVariables false
open Go Go.RowKit

theorem FV.At.ints {w : World} {n0 : Nat} {t : Option Nat} {x : FV} {a : Option Addr} {cap : Nat} (h : x.At w n0 t) (hv : x.v = .slice a x.f.nums.length cap) : Ints w a x.f.nums.length x.f.nums := by
  obtain ⟨a', c', e, hi, _⟩ := NumsAt.form h
  rw [hv] at e
  simp only [Value.slice.injEq, true_and] at e
  rw [e.1]
  exact hi
def stampK (s : Snd) (x : FV × Int) : FV × Int := if s.late (x.1.f, x.2) then (x.1, s.now + 1) else x
def lateK (s : Snd) (x : FV × Int) : Bool := s.late (x.1.f, x.2)
/-- The row while it is gone through. -/
def midK (s : Snd) (ks : List (FV × Int)) (i : Nat) : List (FV × Int) := (ks.take i).map (stampK s) ++ ks.drop i
end Go.Proofs.YtoaoienfggjepaaGreatDoor



/- Links: a frame is taken: refused, or old. -/
namespace Go.Proofs.YtoaoienfggjepaaGreatDoor
set_option linter.unusedSimpArgs false
set_option linter.unusedVariables false
open Go Go.RowKit

section
variable {P : Program} {ops : Array Oper} {w : World} {o : Oper} {a : Act} {R : Value → World → Prop}
end

end Go.Proofs.YtoaoienfggjepaaGreatDoor



/- Links: a frame is taken: an old one, or one that comes too early. -/
namespace Go.Proofs.YtoaoienfggjepaaGreatDoor
set_option linter.unusedSimpArgs false
set_option linter.unusedVariables false
open Go Go.RowKit

end Go.Proofs.YtoaoienfggjepaaGreatDoor



/- Links: a frame is taken that comes too early. -/
namespace Go.Proofs.YtoaoienfggjepaaGreatDoor
set_option linter.unusedSimpArgs false
set_option linter.unusedVariables false
open Go Go.RowKit

theorem Wr.map {w : World} {n0 : Nat} {t : Option Nat} {b : Nat} {m : List (Int × Value)} (h : MapAt w b m) (hl : n0 ≤ b) : Wr w n0 t fun g => g = b := fun g hg _ => ⟨by omega, fun hi => by
  subst hg
  obtain ⟨es, c, hb, _⟩ := h
  obtain ⟨c', z, hi⟩ := hi
  rw [hb] at hi
  cases hi⟩


end Go.Proofs.YtoaoienfggjepaaGreatDoor



/- Links: the frame that is due is taken, and what waited behind it. -/
namespace Go.Proofs.YtoaoienfggjepaaGreatDoor
set_option linter.unusedSimpArgs false
set_option linter.unusedVariables false
open Go Go.RowKit

/-- How many entries a map has. -/
def mapSize (w : World) (b : Nat) : Nat := match w.heap[b]? with
  | some (.map es _) => es.size
  | _ => 0
theorem MapAt.size {w : World} {b : Nat} {m : List (Int × Value)} (h : MapAt w b m) : mapSize w b = m.length := by
  obtain ⟨es, c, hb, he⟩ := h
  unfold mapSize
  rw [hb]
  have := congrArg List.length he
  simpa using this
end Go.Proofs.YtoaoienfggjepaaGreatDoor



/- Links: a frame is sent, or taken, in every case; the law's own trial. -/
namespace Go.Proofs.YtoaoienfggjepaaGreatDoor
set_option linter.unusedSimpArgs false
set_option linter.unusedVariables false
open Go Go.RowKit

end Go.Proofs.YtoaoienfggjepaaGreatDoor

