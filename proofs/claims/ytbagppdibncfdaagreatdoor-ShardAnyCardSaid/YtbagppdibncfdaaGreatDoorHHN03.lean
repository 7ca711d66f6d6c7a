/- Texts of one proof, put together: U4 U5 U6. -/
import Derived.Test.YtbagppdibncfdaaGreatDoorHHN02
import Derived.Test.YtbagppdibncfdaaGreatDoorHHN01
set_option linter.unusedSimpArgs false
set_option linter.unusedVariables false
namespace Go.Proofs.YtbagppdibncfdaaGreatDoor
open Go Go.RowKit
def IdxF (p : Int → Bool) (l : List Int) (r : Int) : Prop := (r = -1 ∧ ∀ x ∈ l, p x = false) ∨ ∃ (i : Nat) (x : Int), r = (i : Int) ∧ i < l.length ∧ l[i]? = some x ∧ p x = true ∧ ∀ j y, j < i → l[j]? = some y → p y = false
set_option maxRecDepth 100000 in
set_option maxHeartbeats 800000 in
theorem indexfi_pv (b : Value) (p : Int → Bool) (v : Value) (l : List Int) (w : World) (n0 : Nat) (h : IntsR w n0 v l) (hF : ∀ n w1, Ext w w1 → Calls Tryz.prog 150 #[.int .i64 n, b] w1 fun e w' => e = .returned (.bool (p n)) ∧ Ext w1 w') :
    Calls Tryz.prog 138 #[v, .func (.func 150) #[] #[b]] w fun e w' => ∃ r : Int, e = .returned (.int .i64 r) ∧ IdxF p l r ∧ Ext w w' := by
  have HS := hid h
  have HF := hid hF
  obtain ⟨a, cap, rfl, h2, h3, h4, _⟩ := h
  have H4 := hid h4
  have hml : (l.length : Int) ≤ 9223372036854775807 := by omega
  clear h2 h3 h4 hF
  go_enter Tryz.func138, Tryz.ntmps138
  go_wp2
  go_loopw [8] (fun t8 wr => ∃ k : Nat, t8 = .int .i64 (k : Int) ∧ k ≤ l.length ∧ (∀ j t, j < k → l[j]? = some t → p t = false) ∧ Ext w wr) (fun t8 _ => l.length - (intOf t8).toNat)
  case atStart => exact ⟨0, rfl, Nat.zero_le _, fun j t h => by omega, Ext.refl _⟩
  case round =>
    obtain ⟨k, rfl, hk, hne, hx⟩ := hrel
    have Hne := hid hne
    clear hne
    by_cases hlt : k < l.length
    · obtain ⟨y, rfl⟩ := H4.out (by omega)
      have hxk : l[k]? = some (l[k]'hlt) := List.getElem?_eq_getElem hlt
      obtain ⟨t, ht⟩ : ∃ t, t = l[k]'hlt := ⟨_, rfl⟩
      rw [← ht] at hxk
      obtain ⟨a', cap', h1, _, _, _, h5⟩ := HS.out.old (hx.old n0)
      obtain ⟨rfl, rfl⟩ : some y = a' ∧ cap = cap' := by simpa using h1
      have hc := (h5 y rfl (by omega)).2 k hlt t hxk
      have HN := hid (HF.out t wr hx)
      have Hxk := hid hxk
      have Hx := hid hx
      clear hxk ht h1 h5 hx
      go_wp2_with fail
      refine HN.out.mono ?_
      intro e w1 hx1
      obtain ⟨rfl, hx1⟩ := hx1
      have Hx1 := hid (Hx.out.trans hx1)
      clear HN hx1 Hx hc
      cases he : p t with
      | true =>
        have Hin := hid (show IdxF p l (k : Int) from .inr ⟨k, t, rfl, hlt, Hxk.out, he, Hne.out⟩)
        go_wp2
        go_ret
        exact ⟨(k : Int), rfl, Hin.out, Hx1.out⟩
      | false =>
        have Hf := hid he
        clear he
        go_wp2
        go_roundw
        case rel =>
          refine ⟨k + 1, by go_num, by omega, fun j u hj hu => ?_, Hx1.out⟩
          by_cases hjk : j = k
          · subst hjk
            obtain rfl := Option.some.inj (Hxk.out.symm.trans hu)
            exact Hf.out
          · exact Hne.out j u (by omega) hu
        case measure => simp [intOf]; omega
    · obtain rfl : k = l.length := by omega
      have Hx := hid hx
      clear hx
      have Hnot := hid (show IdxF p l (-1) from .inl ⟨rfl, fun x hx => by
        obtain ⟨j, hj, e2⟩ := List.mem_iff_getElem.1 hx
        exact Hne.out j x hj (by rw [List.getElem?_eq_getElem hj, e2])⟩)
      go_wp2
      go_ret
      exact ⟨(-1 : Int), rfl, Hnot.out, Hx.out⟩
set_option maxRecDepth 100000 in
set_option maxHeartbeats 800000 in
theorem containsfi_pv (b : Value) (p : Int → Bool) (v : Value) (l : List Int) (w : World) (n0 : Nat) (h : IntsR w n0 v l) (hF : ∀ n w1, Ext w w1 → Calls Tryz.prog 150 #[.int .i64 n, b] w1 fun e w' => e = .returned (.bool (p n)) ∧ Ext w1 w') :
    Calls Tryz.prog 97 #[v, .func (.func 150) #[] #[b]] w fun e w' => e = .returned (.bool (l.any p)) ∧ Ext w w' := by
  have H := hid (indexfi_pv b p v l w n0 h hF)
  obtain ⟨a, cap, rfl, h2, h3, _⟩ := h
  have hml : (l.length : Int) ≤ 9223372036854775807 := by omega
  clear hF
  go_enter Tryz.func97, Tryz.ntmps97
  go_wp2_with fail
  refine H.out.mono ?_
  intro e w1 hx
  obtain ⟨r, rfl, hr, hx⟩ := hx
  clear H
  rcases hr with ⟨rfl, hr⟩ | ⟨i, x, rfl, hi, hxi, hp, _⟩
  · have Hr := hid (show l.any p = false from List.any_eq_false.2 fun x hx => by rw [hr x hx]; simp)
    clear hr
    go_wp2
    go_ret
    exact ⟨by rw [Hr.out]; rfl, hx⟩
  · have Hr := hid (show l.any p = true from List.any_eq_true.2 ⟨x, List.mem_of_getElem? hxi, hp⟩)
    clear hp hxi
    go_wp2
    go_ret
    exact ⟨by rw [Hr.out]; rfl, hx⟩
def pval (a1 a2 a3 : Option Addr) (c1 c2 c3 : Nat) (P : PP) : Value := .agg #[.slice a1 P.vars.length c1, .slice a2 P.funs.length c2, .slice a3 P.stmts.length c3]
def pcells (a1 a2 a3 : Option Addr) (c1 c2 c3 : Nat) (P : PP) : Array Value := #[.slice a1 P.vars.length c1, .slice a2 P.funs.length c2, .slice a3 P.stmts.length c3]
set_option maxRecDepth 100000 in
set_option maxHeartbeats 800000 in
theorem pvarsc_any (g : Nat) (a1 a2 a3 : Option Addr) (c1 c2 c3 : Nat) (P : PP) (n : Int) (w : World) (h : Blk w g (pcells a1 a2 a3 c1 c2 c3 P) 26) :
    Calls Tryz.prog 150 #[.int .i64 n, .pointer (some ⟨g, 0, none⟩)] w fun e w' => e = .returned (.bool (!P.inV n)) ∧ Ext w w' := by
  have h0 := h.av 0 rfl
  have Hr := hid (show (!P.inV n) = (decide (n < 0) || decide ((P.vars.length : Int) ≤ n)) by unfold PP.inV; simp)
  generalize hm : P.vars.length = m at *
  simp only [pcells, hm, qA0, qA1] at h0
  clear h hm
  go_enter Tryz.func150, Tryz.ntmps150
  by_cases hn : n < 0
  · go_wp2
    go_ret
    exact ⟨by rw [Hr.out, decide_eq_true hn]; rfl, Ext.refl _⟩
  · have Hn := hid hn
    by_cases hn2 : (m : Int) ≤ n
    · have Hn2 := hid hn2
      go_wp2
      go_ret
      exact ⟨by rw [Hr.out, decide_eq_false (show ¬ n < 0 by have := Hn.out; omega), decide_eq_true (show (m : Int) ≤ n by have := Hn2.out; omega)]; rfl, Ext.refl _⟩
    · have Hn2 := hid hn2
      go_wp2
      go_ret
      exact ⟨by rw [Hr.out, decide_eq_false (show ¬ n < 0 by have := Hn.out; omega), decide_eq_false (show ¬ (m : Int) ≤ n by have := Hn2.out; omega)]; rfl, Ext.refl _⟩
set_option maxRecDepth 100000 in
set_option maxHeartbeats 800000 in
theorem pvars_any (a1 a2 a3 : Option Addr) (c1 c2 c3 : Nat) (P : PP) (v : Value) (l : List Int) (w : World) (n0 : Nat) (h : IntsR w n0 v l) :
    Calls Tryz.prog 109 #[pval a1 a2 a3 c1 c2 c3 P, v] w fun e w' => e = .returned (.bool (P.allV l)) ∧ Ext w w' := by
  obtain ⟨W, hW⟩ : ∃ W, W = w.alloc (.cells (pcells a1 a2 a3 c1 c2 c3 P) 26) := ⟨_, rfl⟩
  have hx : Ext w W := by rw [hW]; exact (Ext.refl _).alloc _
  have hB : Blk W w.heap.size (pcells a1 a2 a3 c1 c2 c3 P) 26 := by rw [hW]; exact Blk.new _ _ _
  have H := hid (containsfi_pv (.pointer (some ⟨w.heap.size, 0, none⟩)) (fun n => !P.inV n) v l W n0 (h.old (hx.old n0)) (fun n w1 x => pvarsc_any _ a1 a2 a3 c1 c2 c3 P n w1 (hB.ext x)))
  have Hr := hid (show P.allV l = !l.any (fun n => !P.inV n) by unfold PP.allV; rw [List.not_any_eq_all_not]; simp)
  unfold pcells at hW
  have HW := hid hW
  obtain ⟨a, cap, rfl, _⟩ := h
  unfold pval
  generalize P.vars.length = m1 at *
  generalize P.funs.length = m2 at *
  generalize P.stmts.length = m3 at *
  clear hW hB
  go_enter Tryz.func109, Tryz.ntmps109
  go_wp2_with fail
  rw [← HW.out]
  refine H.out.mono ?_
  intro e w1 hx1
  obtain ⟨rfl, hx1⟩ := hx1
  clear H
  go_wp2
  go_ret
  exact ⟨by rw [Hr.out]; rfl, hx.trans hx1⟩
def PS.isK (s : PS) (k : List UInt8) : Bool := s.kind.toList == k
def kFun : List UInt8 := [102, 117, 110]
def kNew : List UInt8 := [110, 101, 119]
def kCall : List UInt8 := [99, 97, 108, 108]
def PP.boundY (P : PP) (s : PS) : Bool := bif s.isK kFun then decide (0 ≤ s.y) && decide (s.y < (P.funs.length : Int)) else bif s.isK kNew then true else P.inV s.y
def PP.bound (P : PP) (s : PS) : Bool := P.inV s.x && P.boundY s && P.allV s.args
def kindsS : List ByteArray := [⟨#[97, 100, 100, 114]⟩, ⟨#[99, 111, 112, 121]⟩, ⟨#[108, 111, 97, 100]⟩, ⟨#[115, 116, 111, 114, 101]⟩, ⟨#[110, 101, 119]⟩, ⟨#[102, 117, 110]⟩, ⟨#[99, 97, 108, 108]⟩]
def PP.stmtErr (P : PP) (s : PS) : Nat := bif !memB s.kind kindsS then 4 else bif !P.bound s then 2 else bif s.isK kCall && decide (3 < s.args.length) then 9 else bif (!s.isK kCall && decide (0 < s.args.length)) || (s.isK kNew && !decide (s.y = 0)) then 3 else 0
def sval (s : PS) (a : Option Addr) (cap : Nat) : Value := .agg #[.string s.kind, .int .i64 s.x, .int .i64 s.y, .slice a s.args.length cap]
def scells (s : PS) (a : Option Addr) (cap : Nat) : Array Value := #[.string s.kind, .int .i64 s.x, .int .i64 s.y, .slice a s.args.length cap]
theorem allV_one (P : PP) (n : Int) : P.allV [n] = P.inV n := by simp [PP.allV]
theorem pvars_one (a1 a2 a3 : Option Addr) (c1 c2 c3 : Nat) (P : PP) (n : Int) (w : World) :
    Calls Tryz.prog 109 #[.agg #[.slice a1 P.vars.length c1, .slice a2 P.funs.length c2, .slice a3 P.stmts.length c3], .slice (some ⟨w.heap.size, 0, none⟩) 1 1] (w.alloc (.cells #[.int .i64 n] 3)) fun e w' => e = .returned (.bool (P.inV n)) ∧ Ext w w' :=
  (pvars_any a1 a2 a3 c1 c2 c3 P _ [n] _ _ (IntsR.blk (l := [n]) (Blk.new w #[.int .i64 n] 3) rfl (by simp))).mono fun e w' ⟨h1, h2⟩ => ⟨by rw [h1, allV_one], ((Ext.refl w).alloc _).trans h2⟩
set_option maxRecDepth 100000 in
set_option maxHeartbeats 3200000 in
theorem pbound_any (a1 a2 a3 : Option Addr) (c1 c2 c3 : Nat) (P : PP) (s : PS) (a : Option Addr) (cap : Nat) (w : World) (n0 : Nat) (h : IntsR w n0 (.slice a s.args.length cap) s.args) :
    Calls Tryz.prog 111 #[pval a1 a2 a3 c1 c2 c3 P, sval s a cap] w fun e w' => e = .returned (.bool (P.bound s)) ∧ Ext w w' := by
  have HI := hid h
  clear h
  obtain ⟨W2, hW2⟩ : ∃ W2, W2 = (w.alloc (.cells (pcells a1 a2 a3 c1 c2 c3 P) 26)).alloc (.cells (scells s a cap) 77) := ⟨_, rfl⟩
  have HW2 : Hid (Ext w W2) := hid (by rw [hW2]; exact ((Ext.refl _).alloc _).alloc _)
  have hsz : W2.heap.size = w.heap.size + 1 + 1 := by rw [hW2, heap_size_alloc, heap_size_alloc]
  have HB1 : Hid (Blk W2 w.heap.size (pcells a1 a2 a3 c1 c2 c3 P) 26) := hid (by rw [hW2]; exact (Blk.new _ _ _).alloc _)
  have HB2 : Hid (Blk W2 (w.heap.size + 1) (scells s a cap) 77) := hid (by
    rw [hW2]
    have := Blk.new (w.alloc (.cells (pcells a1 a2 a3 c1 c2 c3 P) 26)) (scells s a cap) 77
    rwa [heap_size_alloc] at this)
  have H1 := hid (pvars_one a1 a2 a3 c1 c2 c3 P s.y W2)
  rw [hsz] at H1
  unfold pcells scells at hW2
  have HWe := hid hW2
  clear hW2 hsz
  unfold pval sval
  go_enter Tryz.func111, Tryz.ntmps111
  go_wp2_with fail
  rw [← HWe.out]
  refine H1.out.mono ?_
  intro e w3 hx
  obtain ⟨rfl, hx3⟩ := hx
  clear H1
  have d0 := (HB1.out.ext hx3).av 0 rfl
  have d1 := (HB1.out.ext hx3).av 1 rfl
  have d2 := (HB1.out.ext hx3).av 2 rfl
  have k0 := (HB2.out.ext hx3).av 0 rfl
  have k1 := (HB2.out.ext hx3).av 1 rfl
  have k2 := (HB2.out.ext hx3).av 2 rfl
  have k3 := (HB2.out.ext hx3).av 3 rfl
  simp only [pcells, scells, qA0, qA1, qA2] at d0 d1 d2 k0 k1 k2 k3
  have HX := hid (pvars_one a1 a2 a3 c1 c2 c3 P s.x w3)
  cases hf : (s.kind.toList == [102, 117, 110]) with
  | true =>
    have Hb := hid (show P.boundY s = (decide (0 ≤ s.y) && decide (s.y < (P.funs.length : Int))) by unfold PP.boundY PS.isK kFun; rw [hf]; rfl)
    by_cases y0 : 0 ≤ s.y
    · by_cases y1 : s.y < (P.funs.length : Int)
      · have HY := hid (show P.boundY s = true by rw [Hb.out, decide_eq_true y0, decide_eq_true y1]; rfl)
        go_wp2_with fail
        refine HX.out.mono ?_
        intro e w4 hx
        obtain ⟨rfl, hx4⟩ := hx
        have Hx4 := hid (hx3.trans hx4)
        clear HX
        cases hX : P.inV s.x with
        | false =>
          have Hr := hid (show P.bound s = false by unfold PP.bound; rw [hX]; rfl)
          go_wp2
          go_ret
          exact ⟨by rw [Hr.out]; rfl, HW2.out.trans Hx4.out⟩
        | true =>
          have Hr := hid (show P.bound s = P.allV s.args by unfold PP.bound; rw [hX, HY.out]; rfl)
          have HA := hid (pvars_any a1 a2 a3 c1 c2 c3 P _ s.args w4 n0 (HI.out.old ((HW2.out.trans Hx4.out).old n0)))
          unfold pval at HA
          clear d0 d1 d2 k0 k1 k2 k3
          have e0 := (HB1.out.ext Hx4.out).av 0 rfl
          have e1 := (HB1.out.ext Hx4.out).av 1 rfl
          have e2 := (HB1.out.ext Hx4.out).av 2 rfl
          have m0 := (HB2.out.ext Hx4.out).av 0 rfl
          have m1 := (HB2.out.ext Hx4.out).av 1 rfl
          have m2 := (HB2.out.ext Hx4.out).av 2 rfl
          have m3 := (HB2.out.ext Hx4.out).av 3 rfl
          simp only [pcells, scells, qA0, qA1, qA2] at e0 e1 e2 m0 m1 m2 m3
          go_wp2_with fail
          refine HA.out.mono ?_
          intro e w5 hx
          obtain ⟨rfl, hx5⟩ := hx
          clear HA
          go_wp2
          go_ret
          exact ⟨by rw [Hr.out]; rfl, (HW2.out.trans Hx4.out).trans hx5⟩
      · have HY := hid (show P.boundY s = false by rw [Hb.out, decide_eq_false y1]; simp)
        go_wp2_with fail
        refine HX.out.mono ?_
        intro e w4 hx
        obtain ⟨rfl, hx4⟩ := hx
        have Hx4 := hid (hx3.trans hx4)
        clear HX
        cases hX : P.inV s.x with
        | false =>
          have Hr := hid (show P.bound s = false by unfold PP.bound; rw [hX]; rfl)
          go_wp2
          go_ret
          exact ⟨by rw [Hr.out]; rfl, HW2.out.trans Hx4.out⟩
        | true =>
          have Hr := hid (show P.bound s = false by unfold PP.bound; rw [HY.out]; simp)
          go_wp2
          go_ret
          exact ⟨by rw [Hr.out]; rfl, HW2.out.trans Hx4.out⟩
    · have HY := hid (show P.boundY s = false by rw [Hb.out, decide_eq_false y0]; simp)
      go_wp2_with fail
      refine HX.out.mono ?_
      intro e w4 hx
      obtain ⟨rfl, hx4⟩ := hx
      have Hx4 := hid (hx3.trans hx4)
      clear HX
      cases hX : P.inV s.x with
      | false =>
        have Hr := hid (show P.bound s = false by unfold PP.bound; rw [hX]; rfl)
        go_wp2
        go_ret
        exact ⟨by rw [Hr.out]; rfl, HW2.out.trans Hx4.out⟩
      | true =>
        have Hr := hid (show P.bound s = false by unfold PP.bound; rw [HY.out]; simp)
        go_wp2
        go_ret
        exact ⟨by rw [Hr.out]; rfl, HW2.out.trans Hx4.out⟩
  | false =>
    cases hn : (s.kind.toList == [110, 101, 119]) with
    | true =>
      have HY := hid (show P.boundY s = true by unfold PP.boundY PS.isK kFun kNew; rw [hf, hn]; rfl)
      go_wp2_with fail
      refine HX.out.mono ?_
      intro e w4 hx
      obtain ⟨rfl, hx4⟩ := hx
      have Hx4 := hid (hx3.trans hx4)
      clear HX
      cases hX : P.inV s.x with
      | false =>
        have Hr := hid (show P.bound s = false by unfold PP.bound; rw [hX]; rfl)
        go_wp2
        go_ret
        exact ⟨by rw [Hr.out]; rfl, HW2.out.trans Hx4.out⟩
      | true =>
        have Hr := hid (show P.bound s = P.allV s.args by unfold PP.bound; rw [hX, HY.out]; rfl)
        have HA := hid (pvars_any a1 a2 a3 c1 c2 c3 P _ s.args w4 n0 (HI.out.old ((HW2.out.trans Hx4.out).old n0)))
        unfold pval at HA
        clear d0 d1 d2 k0 k1 k2 k3
        have e0 := (HB1.out.ext Hx4.out).av 0 rfl
        have e1 := (HB1.out.ext Hx4.out).av 1 rfl
        have e2 := (HB1.out.ext Hx4.out).av 2 rfl
        have m0 := (HB2.out.ext Hx4.out).av 0 rfl
        have m1 := (HB2.out.ext Hx4.out).av 1 rfl
        have m2 := (HB2.out.ext Hx4.out).av 2 rfl
        have m3 := (HB2.out.ext Hx4.out).av 3 rfl
        simp only [pcells, scells, qA0, qA1, qA2] at e0 e1 e2 m0 m1 m2 m3
        go_wp2_with fail
        refine HA.out.mono ?_
        intro e w5 hx
        obtain ⟨rfl, hx5⟩ := hx
        clear HA
        go_wp2
        go_ret
        exact ⟨by rw [Hr.out]; rfl, (HW2.out.trans Hx4.out).trans hx5⟩
    | false =>
      have Hb := hid (show P.boundY s = P.inV s.y by unfold PP.boundY PS.isK kFun kNew; rw [hf, hn]; rfl)
      cases hy : P.inV s.y with
      | true =>
        have HY := hid (show P.boundY s = true by rw [Hb.out, hy])
        go_wp2_with fail
        refine HX.out.mono ?_
        intro e w4 hx
        obtain ⟨rfl, hx4⟩ := hx
        have Hx4 := hid (hx3.trans hx4)
        clear HX
        cases hX : P.inV s.x with
        | false =>
          have Hr := hid (show P.bound s = false by unfold PP.bound; rw [hX]; rfl)
          go_wp2
          go_ret
          exact ⟨by rw [Hr.out]; rfl, HW2.out.trans Hx4.out⟩
        | true =>
          have Hr := hid (show P.bound s = P.allV s.args by unfold PP.bound; rw [hX, HY.out]; rfl)
          have HA := hid (pvars_any a1 a2 a3 c1 c2 c3 P _ s.args w4 n0 (HI.out.old ((HW2.out.trans Hx4.out).old n0)))
          unfold pval at HA
          clear d0 d1 d2 k0 k1 k2 k3
          have e0 := (HB1.out.ext Hx4.out).av 0 rfl
          have e1 := (HB1.out.ext Hx4.out).av 1 rfl
          have e2 := (HB1.out.ext Hx4.out).av 2 rfl
          have m0 := (HB2.out.ext Hx4.out).av 0 rfl
          have m1 := (HB2.out.ext Hx4.out).av 1 rfl
          have m2 := (HB2.out.ext Hx4.out).av 2 rfl
          have m3 := (HB2.out.ext Hx4.out).av 3 rfl
          simp only [pcells, scells, qA0, qA1, qA2] at e0 e1 e2 m0 m1 m2 m3
          go_wp2_with fail
          refine HA.out.mono ?_
          intro e w5 hx
          obtain ⟨rfl, hx5⟩ := hx
          clear HA
          go_wp2
          go_ret
          exact ⟨by rw [Hr.out]; rfl, (HW2.out.trans Hx4.out).trans hx5⟩
      | false =>
        have HY := hid (show P.boundY s = false by rw [Hb.out, hy])
        go_wp2_with fail
        refine HX.out.mono ?_
        intro e w4 hx
        obtain ⟨rfl, hx4⟩ := hx
        have Hx4 := hid (hx3.trans hx4)
        clear HX
        cases hX : P.inV s.x with
        | false =>
          have Hr := hid (show P.bound s = false by unfold PP.bound; rw [hX]; rfl)
          go_wp2
          go_ret
          exact ⟨by rw [Hr.out]; rfl, HW2.out.trans Hx4.out⟩
        | true =>
          have Hr := hid (show P.bound s = false by unfold PP.bound; rw [HY.out]; simp)
          go_wp2
          go_ret
          exact ⟨by rw [Hr.out]; rfl, HW2.out.trans Hx4.out⟩
set_option maxRecDepth 100000 in
set_option maxHeartbeats 3200000 in
theorem pstmt_any (a1 a2 a3 : Option Addr) (c1 c2 c3 : Nat) (P : PP) (s : PS) (a : Option Addr) (cap : Nat) (w : World) (n0 : Nat) (ad : Nat → Addr) (hE : ErrsP w ad) (h : IntsR w n0 (.slice a s.args.length cap) s.args) :
    Calls Tryz.prog 60 #[pval a1 a2 a3 c1 c2 c3 P, sval s a cap] w fun e w' => e = .returned (errv (evOf ad) (P.stmtErr s)) ∧ Ext w w' := by
  have HI := hid h
  have HE := hid hE
  clear h hE
  obtain ⟨W2, hW2⟩ : ∃ W2, W2 = (w.alloc (.cells (pcells a1 a2 a3 c1 c2 c3 P) 26)).alloc (.cells (scells s a cap) 77) := ⟨_, rfl⟩
  have HW2 : Hid (Ext w W2) := hid (by rw [hW2]; exact ((Ext.refl _).alloc _).alloc _)
  have hsz : W2.heap.size = w.heap.size + 1 + 1 := by rw [hW2, heap_size_alloc, heap_size_alloc]
  have HB1 : Hid (Blk W2 w.heap.size (pcells a1 a2 a3 c1 c2 c3 P) 26) := hid (by rw [hW2]; exact (Blk.new _ _ _).alloc _)
  have HB2 : Hid (Blk W2 (w.heap.size + 1) (scells s a cap) 77) := hid (by
    rw [hW2]
    have := Blk.new (w.alloc (.cells (pcells a1 a2 a3 c1 c2 c3 P) 26)) (scells s a cap) 77
    rwa [heap_size_alloc] at this)
  obtain ⟨W3, hW3⟩ : ∃ W3, W3 = W2.alloc (.cells #[.string ⟨#[97, 100, 100, 114]⟩, .string ⟨#[99, 111, 112, 121]⟩, .string ⟨#[108, 111, 97, 100]⟩, .string ⟨#[115, 116, 111, 114, 101]⟩, .string ⟨#[110, 101, 119]⟩, .string ⟨#[102, 117, 110]⟩, .string ⟨#[99, 97, 108, 108]⟩] 9) := ⟨_, rfl⟩
  have hx3 : Ext W2 W3 := by rw [hW3]; exact (Ext.refl _).alloc _
  have H1 : Hid (Calls Tryz.prog 108 #[.slice (some ⟨W2.heap.size, 0, none⟩) 7 7, .string s.kind] W3 fun e w' => e = .returned (.bool (memB s.kind kindsS)) ∧ W3 = w') := hid (by
    refine containss_any (.slice (some ⟨W2.heap.size, 0, none⟩) 7 7) kindsS s.kind W3 W3.heap.size (StrsR.blk (l := kindsS) (c := #[.string ⟨#[97, 100, 100, 114]⟩, .string ⟨#[99, 111, 112, 121]⟩, .string ⟨#[108, 111, 97, 100]⟩, .string ⟨#[115, 116, 111, 114, 101]⟩, .string ⟨#[110, 101, 119]⟩, .string ⟨#[102, 117, 110]⟩, .string ⟨#[99, 97, 108, 108]⟩]) (t := 9) ?_ rfl (by decide))
    rw [hW3]; exact Blk.new _ _ _)
  rw [hsz] at H1
  unfold pcells scells at hW2
  rw [hW2] at hW3
  have HW3 := hid hW3
  have H2 := hid (pbound_any a1 a2 a3 c1 c2 c3 P s a cap W3 n0 (HI.out.old ((HW2.out.trans hx3).old n0)))
  unfold pval sval at H2
  clear hW2 hsz hW3
  unfold pval sval
  have hx := HW2.out.trans hx3
  have Hx := hid hx
  have g4 := (HE.out.ext hx).at4
  unfold evOf at g4
  have d0 := (HB1.out.ext hx3).av 0 rfl
  have d1 := (HB1.out.ext hx3).av 1 rfl
  have d2 := (HB1.out.ext hx3).av 2 rfl
  have k0 := (HB2.out.ext hx3).av 0 rfl
  have k1 := (HB2.out.ext hx3).av 1 rfl
  have k2 := (HB2.out.ext hx3).av 2 rfl
  have k3 := (HB2.out.ext hx3).av 3 rfl
  simp only [pcells, scells, qA0, qA1, qA2] at d0 d1 d2 k0 k1 k2 k3
  go_enter Tryz.func60, Tryz.ntmps60
  go_wp2_with fail
  rw [← HW3.out]
  refine H1.out.mono ?_
  intro e w3 hx
  obtain ⟨rfl, rfl⟩ := hx
  clear H1
  cases hm : memB s.kind kindsS with
  | false =>
    have Hr := hid (show P.stmtErr s = 4 by unfold PP.stmtErr; rw [hm]; rfl)
    clear hm
    go_wp2
    go_ret
    exact ⟨by rw [Hr.out]; rfl, Hx.out⟩
  | true =>
  have Hm := hid hm
  clear hm
  go_wp2_with fail
  refine H2.out.mono ?_
  intro e w5 hx5
  obtain ⟨rfl, hx5⟩ := hx5
  clear H2 d0 d1 d2 k0 k1 k2 k3 g4
  have Hx5 := hid (Hx.out.trans hx5)
  have g2 := (HE.out.ext Hx5.out).at2
  have g3 := (HE.out.ext Hx5.out).at3
  have g9 := (HE.out.ext Hx5.out).at9
  unfold evOf at g2 g3 g9
  have d0 := (HB1.out.ext (hx3.trans hx5)).av 0 rfl
  have d1 := (HB1.out.ext (hx3.trans hx5)).av 1 rfl
  have d2 := (HB1.out.ext (hx3.trans hx5)).av 2 rfl
  have k0 := (HB2.out.ext (hx3.trans hx5)).av 0 rfl
  have k1 := (HB2.out.ext (hx3.trans hx5)).av 1 rfl
  have k2 := (HB2.out.ext (hx3.trans hx5)).av 2 rfl
  have k3 := (HB2.out.ext (hx3.trans hx5)).av 3 rfl
  simp only [pcells, scells, qA0, qA1, qA2] at d0 d1 d2 k0 k1 k2 k3
  clear hx5
  cases hb : P.bound s with
  | false =>
    have Hr := hid (show P.stmtErr s = 2 by unfold PP.stmtErr; rw [Hm.out, hb]; rfl)
    clear hb
    go_wp2
    go_ret
    exact ⟨by rw [Hr.out]; rfl, Hx5.out⟩
  | true =>
  have HBd := hid hb
  clear hb
  cases hc : (s.kind.toList == [99, 97, 108, 108]) with
  | true =>
    have Hc := hid (show s.isK kCall = true from hc)
    have hn : (s.kind.toList == [110, 101, 119]) = false := by
      rw [eq_of_beq hc]; rfl
    have Hn := hid (show s.isK kNew = false from hn)
    by_cases h3 : 3 < s.args.length
    · have Hr := hid (show P.stmtErr s = 9 by unfold PP.stmtErr; rw [Hm.out]; simp only [HBd.out, Hc.out, Hn.out]; simp [*])
      go_wp2
      go_ret
      exact ⟨by rw [Hr.out]; rfl, Hx5.out⟩
    · have Hr := hid (show P.stmtErr s = 0 by unfold PP.stmtErr; rw [Hm.out]; simp only [HBd.out, Hc.out, Hn.out]; simp [*])
      go_wp2
      go_ret
      exact ⟨by rw [Hr.out]; rfl, Hx5.out⟩
  | false =>
    have Hc := hid (show s.isK kCall = false from hc)
    by_cases h0 : 0 < s.args.length
    · have Hr := hid (show P.stmtErr s = 3 by unfold PP.stmtErr; rw [Hm.out]; simp only [HBd.out, Hc.out]; simp [h0])
      go_wp2
      go_ret
      exact ⟨by rw [Hr.out]; rfl, Hx5.out⟩
    · cases hn : (s.kind.toList == [110, 101, 119]) with
      | true =>
        have Hn := hid (show s.isK kNew = true from hn)
        by_cases hy : s.y = 0
        · have Hr := hid (show P.stmtErr s = 0 by unfold PP.stmtErr; rw [Hm.out]; simp only [HBd.out, Hc.out, Hn.out]; simp [*])
          go_wp2
          go_ret
          exact ⟨by rw [Hr.out]; rfl, Hx5.out⟩
        · have Hr := hid (show P.stmtErr s = 3 by unfold PP.stmtErr; rw [Hm.out]; simp only [HBd.out, Hc.out, Hn.out]; simp [*])
          go_wp2
          go_ret
          exact ⟨by rw [Hr.out]; rfl, Hx5.out⟩
      | false =>
        have Hn := hid (show s.isK kNew = false from hn)
        have Hr := hid (show P.stmtErr s = 0 by unfold PP.stmtErr; rw [Hm.out]; simp only [HBd.out, Hc.out, Hn.out]; simp [*])
        go_wp2
        go_ret
        exact ⟨by rw [Hr.out]; rfl, Hx5.out⟩
end Go.Proofs.YtbagppdibncfdaaGreatDoor
