/- Texts of one proof, put together: UQ UR UT UV UW UX W6 W1 W2. -/
import Derived.Test.YtihdpijgngooaaaGreatDoorHHA04
import Derived.Test.YtihdpijgngooaaaGreatDoorHHA01
set_option linter.unusedSimpArgs false
set_option linter.unusedVariables false
namespace Go.Proofs.YtihdpijgngooaaaGreatDoor
open Go Go.RowKit
inductive Vl where
  | none
  | var (n : Nat)
  | thing (n : Nat)
  | fn (n : Nat)
def Vl.kind : Vl → ByteArray
  | .none => ⟨#[110, 111, 110, 101]⟩
  | .var _ => ⟨#[118, 97, 114]⟩
  | .thing _ => ⟨#[116, 104, 105, 110, 103]⟩
  | .fn _ => ⟨#[102, 117, 110]⟩
def Vl.num : Vl → Nat
  | .none => 0
  | .var n => n
  | .thing n => n
  | .fn n => n
def Vl.cells (v : Vl) : List Value := [.string v.kind, .int .i64 (v.num : Int)]
theorem Vl.cells_len (v : Vl) : v.cells.length = 2 := rfl
def Vl.In (nv nt nf : Nat) : Vl → Prop
  | .none => True
  | .var n => n < nv
  | .thing n => n < nt
  | .fn n => n < nf
theorem Vl.In.mono {nv nt nf nt' : Nat} {v : Vl} (h : v.In nv nt nf) (hn : nt ≤ nt') : v.In nv nt' nf := by
  cases v <;> simp only [Vl.In] at h ⊢ <;> omega
structure Rn where
  vars : List Vl
  things : List Vl
  places : List Nat
def Rn.at (s : Rn) (n : Int) : Vl := s.vars.getD n.toNat .none
def Rn.get (s : Rn) : Vl → Vl
  | .var n => s.vars.getD n .none
  | .thing n => s.things.getD n .none
  | _ => .none
def Vl.isAddr : Vl → Bool
  | .var _ => true
  | .thing _ => true
  | _ => false
def Rn.set (s : Rn) (n : Int) (v : Vl) : Rn := { s with vars := s.vars.set n.toNat v }
def Rn.put (s : Rn) (c v : Vl) : Rn :=
  match c with
  | .var n => { s with vars := s.vars.set n v }
  | .thing n => { s with things := s.things.set n v }
  | _ => s
def kAddr : List UInt8 := [97, 100, 100, 114]
def kCopy : List UInt8 := [99, 111, 112, 121]
def kLoad : List UInt8 := [108, 111, 97, 100]
def kStore : List UInt8 := [115, 116, 111, 114, 101]
def Rn.give (s : Rn) : List Int → List Vl → Rn
  | p :: ps, v :: vs => (s.set p v).give ps vs
  | _, _ => s
def Rn.callF (s : Rn) (x : PS) (f : PF) : Rn :=
  if f.params.length = x.args.length then
    let s1 := s.give f.params (x.args.map s.at)
    s1.set x.x (s1.at f.ret)
  else s
def Rn.call (P : PP) (x : PS) (s : Rn) : Rn :=
  match s.at x.y with
  | .fn n => match P.funs[n]? with
    | some f => s.callF x f
    | none => s
  | _ => s
def Rn.stmt (P : PP) (k : Nat) (x : PS) (s : Rn) : Rn :=
  bif x.isK kAddr then s.set x.x (.var x.y.toNat) else
  bif x.isK kCopy then s.set x.x (s.at x.y) else
  bif x.isK kLoad then (bif (s.at x.y).isAddr then s.set x.x (s.get (s.at x.y)) else s) else
  bif x.isK kStore then s.put (s.at x.x) (s.at x.y) else
  bif x.isK kNew then { (s.set x.x (.thing s.things.length)) with things := s.things ++ [.none], places := s.places ++ [k] } else
  bif x.isK kFun then s.set x.x (.fn x.y.toNat) else
  bif x.isK kCall then s.call P x else s
def Rn.step (P : PP) (s : Rn) (k : Nat) : Rn :=
  match P.stmts[k]? with
  | some x => s.stmt P k x
  | none => s
def Rn.begin (P : PP) : Rn := ⟨List.replicate P.vars.length .none, [], []⟩
def Rn.run (P : PP) (l : List Nat) : Rn := l.foldl (Rn.step P) (Rn.begin P)
structure Rn.Ok (P : PP) (s : Rn) : Prop where
  lv : s.vars.length = P.vars.length
  rv : ∀ v ∈ s.vars, v.In P.vars.length s.things.length P.funs.length
  rt : ∀ v ∈ s.things, v.In P.vars.length s.things.length P.funs.length
  lp : s.places.length = s.things.length
structure PP.Good (P : PP) (x : PS) : Prop where
  gx : 0 ≤ x.x ∧ x.x < P.vars.length
  yf : x.isK kFun = true → 0 ≤ x.y ∧ x.y < P.funs.length
  yv : x.isK kFun = false → x.isK kNew = false → 0 ≤ x.y ∧ x.y < P.vars.length
  args : ∀ a ∈ x.args, 0 ≤ a ∧ a < P.vars.length
theorem PP.inV_iff {P : PP} {n : Int} (h : P.inV n = true) : 0 ≤ n ∧ n < P.vars.length := by
  unfold PP.inV at h
  simp at h
  omega
theorem PP.good {P : PP} {x : PS} (h : P.stmtErr x = 0) : P.Good x := by
  unfold PP.stmtErr at h
  cases h1 : memB x.kind kindsS with
  | false => rw [h1] at h; simp at h
  | true =>
  cases h2 : P.bound x with
  | false => rw [h1, h2] at h; simp at h
  | true =>
  unfold PP.bound at h2
  simp only [Bool.and_eq_true] at h2
  refine ⟨PP.inV_iff h2.1.1, fun hf => ?_, fun hf hn => ?_, fun a ha => ?_⟩
  · have := h2.1.2
    unfold PP.boundY at this
    rw [hf] at this
    simpa using this
  · have := h2.1.2
    unfold PP.boundY at this
    rw [hf, hn] at this
    exact PP.inV_iff this
  · have := h2.2
    unfold PP.allV at this
    exact PP.inV_iff (List.all_eq_true.1 this a ha)
structure PP.GoodF (P : PP) (f : PF) : Prop where
  params : ∀ a ∈ f.params, 0 ≤ a ∧ a < P.vars.length
  ret : 0 ≤ f.ret ∧ f.ret < P.vars.length
  few : f.params.length ≤ 3
theorem PP.goodF {P : PP} (h : P.funsErr = 0) {f : PF} (hf : f ∈ P.funs) : P.GoodF f := by
  unfold PP.funsErr at h
  cases h1 : P.funs.any bad9 with
  | true => rw [h1] at h; simp at h
  | false =>
  cases h2 : P.funs.any P.bad2 with
  | true => rw [h1, h2] at h; simp at h
  | false =>
  have g1 := List.any_eq_false.1 h1 f hf
  have g2 := List.any_eq_false.1 h2 f hf
  unfold bad9 at g1
  unfold PP.bad2 PP.allV at g2
  simp at g1 g2
  exact ⟨fun a ha => PP.inV_iff (g2.1 a ha), PP.inV_iff g2.2, g1⟩
theorem Rn.Ok.at {P : PP} {s : Rn} (h : s.Ok P) (n : Int) : (s.at n).In P.vars.length s.things.length P.funs.length := by
  unfold Rn.at
  rw [List.getD_eq_getElem?_getD]
  cases hx : s.vars[n.toNat]? with
  | none => exact trivial
  | some v => exact h.rv v (List.mem_of_getElem? hx)
theorem Rn.Ok.get {P : PP} {s : Rn} (h : s.Ok P) (c : Vl) : (s.get c).In P.vars.length s.things.length P.funs.length := by
  cases c with
  | none => exact trivial
  | fn n => exact trivial
  | var n =>
    simp only [Rn.get, List.getD_eq_getElem?_getD]
    cases hx : s.vars[n]? with
    | none => exact trivial
    | some v => exact h.rv v (List.mem_of_getElem? hx)
  | thing n =>
    simp only [Rn.get, List.getD_eq_getElem?_getD]
    cases hx : s.things[n]? with
    | none => exact trivial
    | some v => exact h.rt v (List.mem_of_getElem? hx)
theorem Rn.Ok.set {P : PP} {s : Rn} (h : s.Ok P) (n : Int) {v : Vl} (hv : v.In P.vars.length s.things.length P.funs.length) : (s.set n v).Ok P := by
  refine ⟨by simp [Rn.set, h.lv], fun u hu => ?_, h.rt, h.lp⟩
  rcases List.mem_or_eq_of_mem_set hu with hu | rfl
  · exact h.rv u hu
  · exact hv
theorem Rn.Ok.put {P : PP} {s : Rn} (h : s.Ok P) (c : Vl) {v : Vl} (hv : v.In P.vars.length s.things.length P.funs.length) : (s.put c v).Ok P := by
  cases c with
  | none => exact h
  | fn n => exact h
  | var n => exact h.set (n : Int) hv
  | thing n =>
    refine ⟨h.lv, fun u hu => ?_, fun u hu => ?_, ?_⟩
    · simp only [Rn.put, List.length_set]; exact h.rv u hu
    · simp only [Rn.put, List.length_set]
      rcases List.mem_or_eq_of_mem_set hu with hu | rfl
      · exact h.rt u hu
      · exact hv
    · simp only [Rn.put, List.length_set]; exact h.lp
theorem Rn.Ok.give {P : PP} : ∀ (ps : List Int) (vs : List Vl) {s : Rn}, s.Ok P → (∀ v ∈ vs, v.In P.vars.length s.things.length P.funs.length) → (s.give ps vs).Ok P
  | [], _, _, h, _ => h
  | _ :: _, [], _, h, _ => h
  | p :: ps, v :: vs, s, h, hv => Rn.Ok.give ps vs (h.set p (hv v (List.mem_cons_self ..))) fun u hu => hv u (List.mem_cons_of_mem _ hu)
theorem Rn.Ok.call {P : PP} {s : Rn} (h : s.Ok P) (x : PS) : (s.call P x).Ok P := by
  unfold Rn.call
  split
  · split
    · rename_i f _
      unfold Rn.callF
      split
      · have h1 : (s.give f.params (x.args.map s.at)).Ok P := h.give _ _ (fun v hv => by
          obtain ⟨a, _, rfl⟩ := List.mem_map.1 hv
          exact h.at a)
        exact h1.set _ (h1.at _)
      · exact h
    · exact h
  · exact h
theorem Rn.Ok.stmt {P : PP} {s : Rn} (h : s.Ok P) (k : Nat) {x : PS} (hg : P.Good x) : (s.stmt P k x).Ok P := by
  unfold Rn.stmt
  cases h1 : x.isK kAddr with
  | true =>
    have hf : x.isK kFun = false := by unfold PS.isK at h1 ⊢; rw [eq_of_beq h1]; rfl
    have hn : x.isK kNew = false := by unfold PS.isK at h1 ⊢; rw [eq_of_beq h1]; rfl
    have := hg.yv hf hn
    exact h.set _ (show Vl.In _ _ _ (.var _) by simp only [Vl.In]; omega)
  | false =>
  cases h2 : x.isK kCopy with
  | true => exact h.set _ (h.at _)
  | false =>
  cases h3 : x.isK kLoad with
  | true =>
    simp only [cond_true, cond_false]
    cases h4 : (s.at x.y).isAddr with
    | true => exact h.set _ (h.get _)
    | false => exact h
  | false =>
  cases h4 : x.isK kStore with
  | true => exact h.put _ (h.at _)
  | false =>
  cases h5 : x.isK kNew with
  | true =>
    simp only [cond_true, cond_false]
    refine ⟨by simp [Rn.set, h.lv], fun u hu => ?_, fun u hu => ?_, by simp [h.lp]⟩
    · rcases List.mem_or_eq_of_mem_set hu with hu | rfl
      · exact (h.rv u hu).mono (by simp)
      · simp only [Vl.In, List.length_append, List.length_singleton]; omega
    · rcases List.mem_append.1 hu with hu | hu
      · exact (h.rt u hu).mono (by simp)
      · rw [List.mem_singleton.1 hu]; exact trivial
  | false =>
  cases h6 : x.isK kFun with
  | true =>
    have := hg.yf h6
    exact h.set _ (show Vl.In _ _ _ (.fn _) by simp only [Vl.In]; omega)
  | false =>
  cases h7 : x.isK kCall with
  | true => exact h.call x
  | false => exact h
theorem Rn.Ok.begin (P : PP) : (Rn.begin P).Ok P :=
  ⟨by simp [Rn.begin], fun v hv => by rw [(List.mem_replicate.1 hv).2]; exact trivial, fun v hv => (by cases hv), rfl⟩
def Rn.pl (s : Rn) : List Int := s.places.map Int.ofNat
def store2 (w : World) (g i : Nat) (y : Vl) : World := (w.setCell ⟨g, i, none⟩ (.string y.kind)).setCell ⟨g, i + 1, none⟩ (.int .i64 (y.num : Int))
def Vl.ptr (vv tv : Value) : Vl → Value
  | .var n => .pointer (vv.ownBlock.map fun g => ⟨g, n * 2, Option.none⟩)
  | .thing n => .pointer (tv.ownBlock.map fun g => ⟨g, n * 2, Option.none⟩)
  | _ => .pointer Option.none
theorem isK_ne {x : PS} {k k' : List UInt8} (h : x.isK k = true) (hne : (k == k') = false) : x.isK k' = false := by
  unfold PS.isK at h ⊢
  rw [eq_of_beq h]
  exact hne
theorem PP.inV_eq (P : PP) (n : Int) : P.inV n = (decide (0 ≤ n) && decide (n < P.vars.length)) := by
  unfold PP.inV
  by_cases h1 : n < 0
  · have h2 : ¬ 0 ≤ n := by omega
    simp [h1, h2]
  · by_cases h2 : n < P.vars.length
    · have h3 : 0 ≤ n := by omega
      have h4 : ¬ (P.vars.length : Int) ≤ n := by omega
      simp [h1, h2, h3, h4]
    · have h4 : (P.vars.length : Int) ≤ n := by omega
      simp [h2, h4]
set_option maxRecDepth 100000 in
set_option maxHeartbeats 1600000 in
theorem risvar_any (a1 a2 a3 : Option Addr) (c1 c2 c3 : Nat) (P : PP) (n : Int) (w : World) :
    Calls Tryz.prog 36 #[pval a1 a2 a3 c1 c2 c3 P, .int .i64 n] w fun e w' => e = .returned (.bool (P.inV n)) ∧ Ext w w' := by
  have Hr := hid (PP.inV_eq P n)
  unfold pval
  generalize P.funs.length = m2 at *
  generalize P.stmts.length = m3 at *
  generalize P.vars.length = m at *
  go_enter Tryz.func36, Tryz.ntmps36
  by_cases hn : 0 ≤ n
  · by_cases hm : n < m
    · go_wp2
      go_ret
      exact ⟨by rw [Hr.out, decide_eq_true hn, decide_eq_true hm]; rfl, (Ext.refl _).alloc _⟩
    · go_wp2
      go_ret
      exact ⟨by rw [Hr.out, decide_eq_true hn, decide_eq_false (show ¬ n < (m : Int) by omega)]; rfl, (Ext.refl _).alloc _⟩
  · go_wp2
    go_ret
    exact ⟨by rw [Hr.out, decide_eq_false (show ¬ 0 ≤ n by omega)]; rfl, (Ext.refl _).alloc _⟩
set_option maxRecDepth 100000 in
set_option maxHeartbeats 1600000 in
theorem rarevars_any (a1 a2 a3 : Option Addr) (c1 c2 c3 : Nat) (P : PP) (v : Value) (l : List Int) (w : World) (n0 : Nat) (h : IntsR w n0 v l) :
    Calls Tryz.prog 35 #[pval a1 a2 a3 c1 c2 c3 P, v] w fun e w' => e = .returned (.bool (P.allV l)) ∧ Ext w w' := by
  have HI := hid h
  obtain ⟨aa, ca, rfl, h2, h3, h4, h5⟩ := h
  have hml : (l.length : Int) ≤ 9223372036854775807 := by omega
  have H4 := hid h4
  have H5 := hid h5
  obtain ⟨W, hW⟩ : ∃ W, W = w.alloc (.cells (pcells a1 a2 a3 c1 c2 c3 P) 26) := ⟨_, rfl⟩
  have HX : Hid (Ext w W) := hid (by rw [hW]; exact (Ext.refl _).alloc _)
  have HB : Hid (Blk W w.heap.size (pcells a1 a2 a3 c1 c2 c3 P) 26) := hid (by rw [hW]; exact Blk.new _ _ _)
  have HV := fun n w1 => hid (risvar_any a1 a2 a3 c1 c2 c3 P n w1)
  unfold pval at HV ⊢
  unfold pcells at hW
  have HW := hid hW
  clear h2 h3 h4 h5 hW
  go_enter Tryz.func35, Tryz.ntmps35
  go_wp2
  rw [← HW.out]
  go_loopw [5] (fun t5 wr => ∃ k : Nat, t5 = .int .i64 (k : Int) ∧ k ≤ l.length ∧ (∀ j t, j < k → l[j]? = some t → P.inV t = true) ∧ Ext W wr) (fun t5 _ => l.length - (intOf t5).toNat)
  case atStart => exact ⟨0, rfl, Nat.zero_le _, fun j t h => by omega, Ext.refl _⟩
  case round =>
    obtain ⟨k, rfl, hk, hp, hx⟩ := hrel
    have Hp := hid hp
    have Hx := hid hx
    clear hp hx
    by_cases hlt : k < l.length
    · obtain ⟨y, rfl⟩ := H4.out (by omega)
      obtain ⟨q, hq⟩ : ∃ q, l[k]? = some q := ⟨_, List.getElem?_eq_getElem hlt⟩
      have hc := (HX.out.trans Hx.out).cellx ((H5.out y rfl (by omega)).2 k hlt q hq)
      have hcK : ∀ w1, Keep (fun _ => False) wr w1 → w1.cell? (y.add k) = some (.int .i64 q) := fun w1 k => k.ext.cellx hc
      have d0 := (HB.out.ext Hx.out).kc (X := fun _ => False) (fun e => e) 0 rfl
      have d1 := (HB.out.ext Hx.out).kc (X := fun _ => False) (fun e => e) 1 rfl
      have d2 := (HB.out.ext Hx.out).kc (X := fun _ => False) (fun e => e) 2 rfl
      simp only [pcells, qA0, qA1, qA2] at d0 d1 d2
      have Hq := hid hq
      clear hq hc
      go_wp2
      refine wp_flowT (fun _ => False) (by kernel_rfl) (by kernel_rfl) ?_
      repeat (apply FlowT.d; (intro w1 hk; unfold does; go_simp; (try go_ints); (first | exact DetR.mk | (simp only [↓IntWalk.iteOmega, Oper.doesUpon_value]; exact DetR.mk) | (simp only [↓IntWalk.iteOmega]; go_simp; (try go_ints); exact DetR.mk))); simp only [Act.put, qS0, qS1, qS2])
      apply FlowT.d
      · intro w1 hk
        unfold does
        go_simp
        exact CallR.det ((HV q w1).out)
      simp only [Act.put, qS0, qS1, qS2]
      repeat (apply FlowT.d; (intro w1 hk; unfold does; go_simp; (try go_ints); (first | exact DetR.mk | (simp only [↓IntWalk.iteOmega, Oper.doesUpon_value]; exact DetR.mk) | (simp only [↓IntWalk.iteOmega]; go_simp; (try go_ints); exact DetR.mk))); simp only [Act.put, qS0, qS1, qS2])
      refine FlowT.fin fun w2 hx2 hk2 => ?_
      have HX2 := hid (Hx.out.trans hx2)
      clear hx2 hk2 hcK d0 d1 d2
      cases hv : P.inV q with
      | true =>
        have Hv := hid hv
        clear hv
        go_wp2
        go_roundw
        case rel =>
          refine ⟨k + 1, by go_num, by omega, fun j t hj ht => ?_, HX2.out⟩
          by_cases hjk : j = k
          · subst hjk
            obtain rfl := Option.some.inj (Hq.out.symm.trans ht)
            exact Hv.out
          · exact Hp.out j t (by omega) ht
        case measure => simp [intOf]; omega
      | false =>
        have Hr := hid (show P.allV l = false from List.all_eq_false.2 ⟨q, List.mem_of_getElem? Hq.out, by rw [hv]; decide⟩)
        go_wp2
        go_ret
        exact ⟨by rw [Hr.out]; rfl, HX.out.trans HX2.out⟩
    · obtain rfl : k = l.length := by omega
      have Hr := hid (show P.allV l = true from List.all_eq_true.2 fun t ht => by
        obtain ⟨j, hj, e⟩ := List.mem_iff_getElem.1 ht
        exact Hp.out j t hj (by rw [List.getElem?_eq_getElem hj, e]))
      go_wp2
      go_ret
      exact ⟨by rw [Hr.out]; rfl, HX.out.trans Hx.out⟩
set_option maxRecDepth 100000 in
set_option maxHeartbeats 1600000 in
theorem rhas_any (v : Value) (l : List Int) (s : Int) (w : World) (n0 : Nat) (h : IntsR w n0 v l) :
    Calls Tryz.prog 37 #[v, .int .i64 s] w fun e w' => e = .returned (.bool (decide (s ∈ l))) ∧ w = w' := by
  obtain ⟨aa, ca, rfl, h2, h3, h4, h5⟩ := h
  have hml : (l.length : Int) ≤ 9223372036854775807 := by omega
  have H4 := hid h4
  have H5 := hid h5
  clear h2 h3 h4 h5
  go_enter Tryz.func37, Tryz.ntmps37
  go_wp2
  go_loop [5] (fun t5 => ∃ k : Nat, t5 = .int .i64 (k : Int) ∧ k ≤ l.length ∧ ∀ j t, j < k → l[j]? = some t → t ≠ s) (fun t5 => l.length - (intOf t5).toNat)
  case atStart => exact ⟨0, rfl, Nat.zero_le _, fun j t h => by omega⟩
  case round =>
    obtain ⟨k, rfl, hk, hp⟩ := hrel
    have Hp := hid hp
    clear hp
    by_cases hlt : k < l.length
    · obtain ⟨y, rfl⟩ := H4.out (by omega)
      obtain ⟨q, hq⟩ : ∃ q, l[k]? = some q := ⟨_, List.getElem?_eq_getElem hlt⟩
      have hc := (H5.out y rfl (by omega)).2 k hlt q hq
      have Hq := hid hq
      clear hq
      by_cases he : q = s
      · subst he
        have Hin := hid (List.mem_of_getElem? Hq.out)
        go_wp2
        go_ret
        exact ⟨by rw [decide_eq_true Hin.out]; rfl, rfl⟩
      · have He := hid he
        go_wp2
        refine ⟨⟨k + 1, by go_num, by omega, fun j t hj ht => ?_⟩, by simp [intOf]; omega⟩
        by_cases hjk : j = k
        · subst hjk
          obtain rfl := Option.some.inj (Hq.out.symm.trans ht)
          exact He.out
        · exact Hp.out j t (by omega) ht
    · obtain rfl : k = l.length := by omega
      have Hn := hid (show ¬ s ∈ l from fun ht => by
        obtain ⟨j, hj, e⟩ := List.mem_iff_getElem.1 ht
        exact Hp.out j s hj (by rw [List.getElem?_eq_getElem hj, e]) rfl)
      go_wp2
      go_ret
      exact ⟨by rw [decide_eq_false Hn.out]; rfl, rfl⟩
theorem eqB_comm (s t : ByteArray) : eqB s t = (t.toList == s.toList) := by
  unfold eqB
  rw [Bool.eq_iff_iff, beq_iff_eq, beq_iff_eq]
  exact ⟨fun h => h.symm, fun h => h.symm⟩
set_option maxRecDepth 100000 in
set_option maxHeartbeats 1600000 in
theorem rhastext_any (v : Value) (l : List ByteArray) (s : ByteArray) (w : World) (n0 : Nat) (h : StrsR w n0 v l) :
    Calls Tryz.prog 75 #[v, .string s] w fun e w' => e = .returned (.bool (memB s l)) ∧ w = w' := by
  obtain ⟨aa, ca, rfl, h2, h3, h4, h5⟩ := h
  have hml : (l.length : Int) ≤ 9223372036854775807 := by omega
  have H4 := hid h4
  have H5 := hid h5
  clear h2 h3 h4 h5
  go_enter Tryz.func75, Tryz.ntmps75
  go_wp2
  go_loop [5] (fun t5 => ∃ k : Nat, t5 = .int .i64 (k : Int) ∧ k ≤ l.length ∧ ∀ j t, j < k → l[j]? = some t → eqB s t = false) (fun t5 => l.length - (intOf t5).toNat)
  case atStart => exact ⟨0, rfl, Nat.zero_le _, fun j t h => by omega⟩
  case round =>
    obtain ⟨k, rfl, hk, hp⟩ := hrel
    have Hp := hid hp
    clear hp
    by_cases hlt : k < l.length
    · obtain ⟨y, rfl⟩ := H4.out (by omega)
      obtain ⟨q, hq⟩ : ∃ q, l[k]? = some q := ⟨_, List.getElem?_eq_getElem hlt⟩
      have hc := (H5.out y rfl (by omega)).2 k hlt q hq
      have Hq := hid hq
      clear hq
      cases he : eqB s q with
      | true =>
        have Hin := hid (show memB s l = true from List.any_eq_true.2 ⟨q, List.mem_of_getElem? Hq.out, he⟩)
        rw [eqB_comm] at he
        go_wp2
        go_ret
        exact ⟨by rw [Hin.out]; rfl, rfl⟩
      | false =>
        have He := hid he
        rw [eqB_comm] at he
        go_wp2
        refine ⟨⟨k + 1, by go_num, by omega, fun j t hj ht => ?_⟩, by simp [intOf]; omega⟩
        by_cases hjk : j = k
        · subst hjk
          obtain rfl := Option.some.inj (Hq.out.symm.trans ht)
          exact He.out
        · exact Hp.out j t (by omega) ht
    · obtain rfl : k = l.length := by omega
      have Hn := hid (show memB s l = false from List.any_eq_false.2 fun t ht => by
        obtain ⟨j, hj, e⟩ := List.mem_iff_getElem.1 ht
        rw [Hp.out j t hj (by rw [List.getElem?_eq_getElem hj, e])]
        decide)
      go_wp2
      go_ret
      exact ⟨by rw [Hn.out]; rfl, rfl⟩
end Go.Proofs.YtihdpijgngooaaaGreatDoor
namespace Go.Proofs.YtihdpijgngooaaaGreatDoor
open Go Go.RowKit Go.Shelf
open Go.Lib (trimS trimLeftS trimRightS toList_data)
theorem dw_nil {p : UInt8 → Bool} : ∀ l : List UInt8, (∀ x ∈ l, p x = true) → l.dropWhile p = []
  | [], _ => rfl
  | a :: l, h => by
    rw [List.dropWhile_cons, h a (List.mem_cons_self ..)]
    exact dw_nil l fun x hx => h x (List.mem_cons_of_mem _ hx)
theorem dw_mem {p : UInt8 → Bool} : ∀ (l : List UInt8) (b : UInt8), b ∈ l → p b = false → ∃ a r, l.dropWhile p = a :: r ∧ p a = false
  | a :: l, b, hb, hp => by
    cases ha : p a with
    | false => exact ⟨a, l, by rw [List.dropWhile_cons, ha]; rfl, ha⟩
    | true =>
      rcases List.mem_cons.1 hb with rfl | hb
      · rw [ha] at hp; cases hp
      · rw [List.dropWhile_cons, ha]
        exact dw_mem l b hb hp
theorem trimS_nil (l cs : List UInt8) : trimS l cs = [] ↔ ∀ b ∈ l, cs.contains b = true := by
  unfold trimS trimLeftS trimRightS
  constructor
  · intro h b hb
    cases hp : cs.contains b with
    | true => rfl
    | false =>
      obtain ⟨a, r, he, ha⟩ := dw_mem (p := (cs.contains ·)) l.reverse b (List.mem_reverse.2 hb) hp
      rw [he] at h
      obtain ⟨a2, r2, he2, _⟩ := dw_mem (p := (cs.contains ·)) (a :: r).reverse a (List.mem_reverse.2 (List.mem_cons_self ..)) ha
      rw [he2] at h
      cases h
  · intro h
    rw [dw_nil (p := (cs.contains ·)) l.reverse fun x hx => h x (List.mem_reverse.1 hx)]
    rfl
def okAt (b k : Nat) : Bool := (decide (97 ≤ b) && decide (b ≤ 122)) || (decide (48 ≤ b) && decide (b ≤ 57) && !decide (k = 0))
theorem letters_has (b : UInt8) : lettersS.data.toList.contains b = ((decide (97 ≤ b.toNat) && decide (b.toNat ≤ 122)) || (decide (48 ≤ b.toNat) && decide (b.toNat ≤ 57))) := by
  have h : ∀ n, n < 256 → lettersS.data.toList.contains (UInt8.ofNat n) = ((decide (97 ≤ n) && decide (n ≤ 122)) || (decide (48 ≤ n) && decide (n ≤ 57))) := by decide +kernel
  have := h b.toNat b.toNat_lt
  rwa [UInt8.ofNat_toNat] at this
theorem nameRest_iff (s : ByteArray) : nameRest s = true ↔ ∀ (k : Nat) (h : k < s.size), lettersS.data.toList.contains s[k] = true := by
  unfold nameRest eqB
  rw [beq_iff_eq, toList_data, toList_data]
  show trimS s.data.toList lettersS.data.toList = [] ↔ _
  rw [trimS_nil]
  constructor
  · intro h k hk
    refine h _ ?_
    have : s.data.toList[k]? = some s[k] := by
      rw [List.getElem?_eq_getElem (by simpa using hk)]
      rfl
    exact List.mem_of_getElem? this
  · intro h b hb
    obtain ⟨k, hk, e⟩ := List.mem_iff_getElem.1 hb
    have hk' : k < s.size := by simpa using hk
    have := h k hk'
    rwa [show s[k] = b from e] at this
theorem nameOk_iff (s : ByteArray) : nameOk s = true ↔ memB s reserved = false ∧ 1 ≤ s.size ∧ s.size ≤ 8 ∧ ∀ (k : Nat) (h : k < s.size), okAt s[k].toNat k = true := by
  unfold nameOk
  simp only [Bool.and_eq_true, Bool.not_eq_true', decide_eq_true_eq]
  rw [nameRest_iff]
  have he : s.toList.isEmpty = false ↔ 1 ≤ s.size := by
    rw [toList_data]
    have hl : s.data.toList.length = s.size := by simp
    cases h : s.data.toList with
    | nil =>
      have hz : s.size = 0 := by rw [← hl, h]; rfl
      exact ⟨fun h => (by cases h), fun h => by omega⟩
    | cons a r =>
      have hz : s.size = r.length + 1 := by rw [← hl, h]; rfl
      exact ⟨fun _ => by omega, fun _ => rfl⟩
  rw [he]
  constructor
  · rintro ⟨h1, ⟨⟨⟨⟨h2, h3⟩, h4⟩, h5⟩, h6⟩⟩
    refine ⟨h1, h2, h3, fun k hk => ?_⟩
    have h7 := h6 k hk
    rw [letters_has] at h7
    unfold okAt
    by_cases h0 : k = 0
    · subst h0
      have hf : first s = s[0].toNat := by unfold first; rw [dif_pos hk]
      rw [hf] at h4 h5
      simp [h4, h5]
    · simp only [h0, decide_false, Bool.not_false, Bool.and_true]
      exact h7
  · rintro ⟨h1, h2, h3, h4⟩
    have hz : 0 < s.size := h2
    have hf : first s = s[0].toNat := by unfold first; rw [dif_pos hz]
    have h0 := h4 0 hz
    unfold okAt at h0
    simp at h0
    refine ⟨h1, ⟨⟨⟨⟨h2, h3⟩, by rw [hf]; exact h0.1⟩, by rw [hf]; exact h0.2⟩, fun k hk => ?_⟩⟩
    have h5 := h4 k hk
    rw [letters_has]
    unfold okAt at h5
    simp only [Bool.or_eq_true, Bool.and_eq_true] at h5 ⊢
    exact h5.imp id fun h => h.1
set_option maxRecDepth 100000 in
set_option maxHeartbeats 3200000 in
theorem risname_any (s : ByteArray) (w : World) (hs : s.size ≤ 9223372036854775807) : Calls Tryz.prog 34 #[.string s] w fun e w' => e = .returned (.bool (nameOk s)) ∧ w = w' := by
  go_enter Tryz.func34, Tryz.ntmps34
  have hres : memB s reserved = ((s.toList == [118, 97, 114]) || ((s.toList == [102, 110]) || ((s.toList == [110, 101, 119]) || (s.toList == [99, 97, 108, 108])))) := by
    have t1 : (⟨#[118, 97, 114]⟩ : ByteArray).toList = [118, 97, 114] := by decide +kernel
    have t2 : (⟨#[102, 110]⟩ : ByteArray).toList = [102, 110] := by decide +kernel
    have t3 : (⟨#[110, 101, 119]⟩ : ByteArray).toList = [110, 101, 119] := by decide +kernel
    have t4 : (⟨#[99, 97, 108, 108]⟩ : ByteArray).toList = [99, 97, 108, 108] := by decide +kernel
    simp only [memB, reserved, List.any_cons, List.any_nil, Bool.or_false, eqB, t1, t2, t3, t4]
  cases hm : memB s reserved with
  | true =>
    have Hr := hid (show nameOk s = false by unfold nameOk; rw [hm]; rfl)
    rw [hm] at hres
    have Hres := hid hres
    clear hm hres
    cases h1 : (s.toList == [118, 97, 114]) with
    | true =>
      go_wp2
      go_ret
      exact ⟨by rw [Hr.out]; rfl, rfl⟩
    | false =>
      cases h2 : (s.toList == [102, 110]) with
      | true =>
        go_wp2
        go_ret
        exact ⟨by rw [Hr.out]; rfl, rfl⟩
      | false =>
        cases h3 : (s.toList == [110, 101, 119]) with
        | true =>
        go_wp2
        go_ret
        exact ⟨by rw [Hr.out]; rfl, rfl⟩
        | false =>
          cases h4 : (s.toList == [99, 97, 108, 108]) with
          | true =>
        go_wp2
        go_ret
        exact ⟨by rw [Hr.out]; rfl, rfl⟩
          | false => have hres := Hres.out; rw [h1, h2, h3, h4] at hres; cases hres
  | false =>
    have Hm := hid hm
    rw [hm] at hres
    obtain ⟨h1, h2, h3, h4⟩ : (s.toList == [118, 97, 114]) = false ∧ (s.toList == [102, 110]) = false ∧ (s.toList == [110, 101, 119]) = false ∧ (s.toList == [99, 97, 108, 108]) = false := by
      have := hres.symm
      simp only [Bool.or_eq_false_iff] at this
      exact ⟨this.1, this.2.1, this.2.2.1, this.2.2.2⟩
    clear hm hres
    go_wp2
    clear h1 h2 h3 h4
    go_loop [3] (fun t3 => ∃ k : Nat, t3 = .int .i64 (k : Int) ∧ k ≤ s.size ∧ ∀ (j : Nat) (h : j < s.size), j < k → okAt s[j].toNat j = true) (fun t3 => s.size - (intOf t3).toNat)
    case atStart => exact ⟨0, rfl, Nat.zero_le _, fun j h hj => by omega⟩
    case round =>
      obtain ⟨k, rfl, hk, hp⟩ := hrel
      have Hp := hid hp
      clear hp
      by_cases hlt : k < s.size
      · have hb : s[k].toNat < 256 := byte_lt _
        by_cases l1 : 97 ≤ s[k].toNat
        · by_cases l2 : s[k].toNat ≤ 122
          · have Hok := hid (show okAt s[k].toNat k = true by unfold okAt; simp [l1, l2])
            have d1 : 48 ≤ s[k].toNat := by omega
            have d2 : ¬ s[k].toNat ≤ 57 := by omega
            go_wp2
            refine ⟨⟨k + 1, by go_num, by omega, fun j h hj => ?_⟩, by simp [intOf]; omega⟩
            by_cases hjk : j = k
            · subst hjk
              exact Hok.out
            · exact Hp.out j h (by omega)
          · have d1 : 48 ≤ s[k].toNat := by omega
            have d2 : ¬ s[k].toNat ≤ 57 := by omega
            have e1 : decide ((s[k].toNat : Int) ≤ 122) = false := decide_eq_false (by omega)
            have e2 : decide ((s[k].toNat : Int) ≤ 57) = false := decide_eq_false (by omega)
            have Hr := hid (show nameOk s = false by
              cases hn : nameOk s with
              | false => rfl
              | true =>
                have h := ((nameOk_iff s).1 hn).2.2.2 k hlt
                unfold okAt at h
                simp at h
                omega)
            go_wp2
            go_ret
            exact ⟨by rw [Hr.out]; rfl, rfl⟩
        · by_cases d1 : 48 ≤ s[k].toNat
          · by_cases d2 : s[k].toNat ≤ 57
            · by_cases h0 : k = 0
              · subst h0
                have Hr := hid (show nameOk s = false by
                  cases hn : nameOk s with
                  | false => rfl
                  | true =>
                    have h := ((nameOk_iff s).1 hn).2.2.2 0 hlt
                    unfold okAt at h
                    simp at h
                    omega)
                go_wp2
                go_ret
                exact ⟨by rw [Hr.out]; rfl, rfl⟩
              · have Hok := hid (show okAt s[k].toNat k = true by unfold okAt; simp [d1, d2, h0])
                go_wp2
                refine ⟨⟨k + 1, by go_num, by omega, fun j h hj => ?_⟩, by simp [intOf]; omega⟩
                by_cases hjk : j = k
                · subst hjk
                  exact Hok.out
                · exact Hp.out j h (by omega)
            · have e2 : decide ((s[k].toNat : Int) ≤ 57) = false := decide_eq_false (by omega)
              have Hr := hid (show nameOk s = false by
                cases hn : nameOk s with
                | false => rfl
                | true =>
                  have h := ((nameOk_iff s).1 hn).2.2.2 k hlt
                  unfold okAt at h
                  simp at h
                  omega)
              go_wp2
              go_ret
              exact ⟨by rw [Hr.out]; rfl, rfl⟩
          · have Hr := hid (show nameOk s = false by
              cases hn : nameOk s with
              | false => rfl
              | true =>
                have h := ((nameOk_iff s).1 hn).2.2.2 k hlt
                unfold okAt at h
                simp at h
                omega)
            go_wp2
            go_ret
            exact ⟨by rw [Hr.out]; rfl, rfl⟩
      · obtain rfl : k = s.size := by omega
        have Hall := hid (show ∀ (j : Nat) (h : j < s.size), okAt s[j].toNat j = true from fun j h => Hp.out j h h)
        by_cases z1 : 1 ≤ s.size
        · by_cases z2 : s.size ≤ 8
          · have Hr := hid ((nameOk_iff s).2 ⟨Hm.out, z1, z2, Hall.out⟩)
            have H8 := hid (show decide ((s.size : Int) ≤ 8) = true from decide_eq_true (by omega))
            go_wp2
            go_ret
            exact ⟨by rw [Hr.out]; exact congrArg (fun b => Ending.returned (Value.bool b)) H8.out, rfl⟩
          · have Hr := hid (show nameOk s = false by
              cases hn : nameOk s with
              | false => rfl
              | true => exact absurd ((nameOk_iff s).1 hn).2.2.1 z2)
            have H8 := hid (show decide ((s.size : Int) ≤ 8) = false from decide_eq_false (by omega))
            go_wp2
            go_ret
            exact ⟨by rw [Hr.out]; exact congrArg (fun b => Ending.returned (Value.bool b)) H8.out, rfl⟩
        · have Hr := hid (show nameOk s = false by
            cases hn : nameOk s with
            | false => rfl
            | true => exact absurd ((nameOk_iff s).1 hn).2.1 z1)
          go_wp2
          go_ret
          exact ⟨by rw [Hr.out]; rfl, rfl⟩
end Go.Proofs.YtihdpijgngooaaaGreatDoor
