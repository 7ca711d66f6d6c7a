/- Texts of one proof, put together: T2 T5. -/
import Derived.Test.YtbagppdibncfdaaGreatDoorHHN09
import Derived.Test.YtbagppdibncfdaaGreatDoorHHN10
import Derived.Test.YtbagppdibncfdaaGreatDoorHHN11
import Derived.Test.YtbagppdibncfdaaGreatDoorHHN14
import Derived.Test.YtbagppdibncfdaaGreatDoorHHN01
set_option linter.unusedSimpArgs false
set_option linter.unusedVariables false
namespace Go.Proofs.YtbagppdibncfdaaGreatDoor
open Go Go.RowKit
def PP.ruleR (P : PP) (k : Nat) (x : PS) : RV :=
  bif x.isK kAddr then ⟨bBase, x.x, x.y, k, []⟩ else
  bif x.isK kNew then ⟨bBase, x.x, P.placeV k, k, []⟩ else
  bif x.isK kFun then ⟨bBase, x.x, (P.nodesV : Int) + x.y, k, []⟩ else ⟨x.kind, x.y, x.x, k, x.args⟩
theorem noArgs {P : PP} {x : PS} (h0 : P.stmtErr x = 0) (h : x.isK kCall = false) : x.args = [] := by
  unfold PP.stmtErr at h0
  cases h1 : memB x.kind kindsS with
  | false => rw [h1] at h0; simp at h0
  | true =>
    cases h2 : P.bound x with
    | false => rw [h1, h2] at h0; simp at h0
    | true =>
      rw [h1, h2, h] at h0
      cases ha : x.args with
      | nil => rfl
      | cons a r => rw [ha] at h0; simp at h0
theorem rule_same {P : PP} {x : PS} (h0 : P.stmtErr x = 0) (k : Nat) : (P.ruleR k x).kind.toList = (P.ruleV k x).kind.toList ∧ (P.ruleR k x).a = (P.ruleV k x).a ∧ (P.ruleR k x).b = (P.ruleV k x).b ∧ (P.ruleR k x).k = k ∧ (P.ruleV k x).k = k ∧ (P.ruleR k x).args = (P.ruleV k x).args := by
  unfold PP.ruleR PP.ruleV
  cases h1 : x.isK kAddr with
  | true => exact ⟨rfl, rfl, rfl, rfl, rfl, rfl⟩
  | false =>
    cases h2 : x.isK kNew with
    | true => exact ⟨rfl, rfl, rfl, rfl, rfl, rfl⟩
    | false =>
      cases h3 : x.isK kFun with
      | true => exact ⟨rfl, rfl, rfl, rfl, rfl, rfl⟩
      | false =>
        cases h4 : x.isK kCall with
        | true =>
          refine ⟨?_, rfl, rfl, rfl, rfl, rfl⟩
          have : x.kind.toList = kCall := eq_of_beq h4
          exact this.trans (show kCall = bCall.toList by decide +kernel)
        | false => exact ⟨rfl, rfl, rfl, rfl, rfl, noArgs h0 h4⟩
theorem intsR_nil (w : World) (n0 : Nat) : IntsR w n0 (.slice none 0 0) [] := ⟨none, 0, rfl, Nat.le_refl _, by decide, fun h => absurd h (by decide), fun y hy => by cases hy⟩
set_option maxRecDepth 100000 in
set_option maxHeartbeats 6400000 in
theorem rruleof_addr (a1 a2 a3 : Option Addr) (c1 c2 c3 : Nat) (P : PP) (k : Nat) (x : PS) (hxk : P.stmts[k]? = some x) (w : World) (n0 : Nat) (h : ProgR w n0 (.slice a1 P.vars.length c1) (.slice a2 P.funs.length c2) (.slice a3 P.stmts.length c3) P) (hf1 : P.vars.length ≤ 1000) (hf3 : P.stmts.length ≤ 1000) (hkx : x.isK kAddr = true)  :
    Calls Tryz.prog 125 #[pval a1 a2 a3 c1 c2 c3 P, .int .i64 (k : Int)] w fun e w' => ∃ av, e = .returned ((P.ruleR k x).val av) ∧ IntsR w n0 av (P.ruleR k x).args ∧ Ext w w' := by
  obtain ⟨W1, hW1⟩ : ∃ W1, W1 = w.alloc (.cells (pcells a1 a2 a3 c1 c2 c3 P) 26) := ⟨_, rfl⟩
  have hx1 : Ext w W1 := by rw [hW1]; exact (Ext.refl _).alloc _
  obtain ⟨W2, hW2⟩ : ∃ W2, W2 = W1.alloc (.cells #[.string ⟨#[]⟩, .int .i64 0, .int .i64 0, .int .i64 0, .slice none 0 0] 166) := ⟨_, rfl⟩
  have hx2 : Ext W1 W2 := by rw [hW2]; exact (Ext.refl _).alloc _
  have hk : k < P.stmts.length := by
    rcases Nat.lt_or_ge k P.stmts.length with h | h
    · exact h
    · rw [List.getElem?_eq_none h] at hxk; cases hxk
  have hml := h.stmts.len
  obtain ⟨y, x', av, cv, rfl, hxk', e0, e1, e2, e3, hI⟩ := (h.ext (hx1.trans hx2)).stmts.at hk
  obtain rfl := Option.some.inj (hxk.symm.trans hxk')
  obtain ⟨W3, hW3⟩ : ∃ W3, W3 = W2.alloc (.cells (scells x av cv) 77) := ⟨_, rfl⟩
  have hx3 : Ext W2 W3 := by rw [hW3]; exact (Ext.refl _).alloc _
  obtain ⟨W4, hW4⟩ : ∃ W4, W4 = W3.alloc (.cells #[.string x.kind, .int .i64 x.y, .int .i64 x.x, .int .i64 (k : Int), .slice av x.args.length cv] 166) := ⟨_, rfl⟩
  have hx4 : Ext W3 W4 := by rw [hW4]; exact (Ext.refl _).alloc _
  have s1 : W1.heap.size = w.heap.size + 1 := by rw [hW1, heap_size_alloc]
  have s2 : W2.heap.size = w.heap.size + 1 + 1 := by rw [hW2, heap_size_alloc, s1]
  have s3 : W3.heap.size = w.heap.size + 1 + 1 + 1 := by rw [hW3, heap_size_alloc, s2]
  have HX := hid (((hx1.trans hx2).trans hx3).trans hx4)
  have HB0 : Hid (Blk W4 w.heap.size (pcells a1 a2 (some y) c1 c2 c3 P) 26) := hid (by
    have : Blk W1 w.heap.size (pcells a1 a2 (some y) c1 c2 c3 P) 26 := by rw [hW1]; exact Blk.new _ _ _
    exact this.ext ((hx2.trans hx3).trans hx4))
  have HB1 : Hid (Blk W4 (w.heap.size + 1) #[.string ⟨#[]⟩, .int .i64 0, .int .i64 0, .int .i64 0, .slice none 0 0] 166) := hid (by
    have : Blk W2 (w.heap.size + 1) #[.string ⟨#[]⟩, .int .i64 0, .int .i64 0, .int .i64 0, .slice none 0 0] 166 := by rw [← s1, hW2]; exact Blk.new _ _ _
    exact this.ext (hx3.trans hx4))
  have HB2 : Hid (Blk W4 (w.heap.size + 1 + 1) (scells x av cv) 77) := hid (by
    have : Blk W3 (w.heap.size + 1 + 1) (scells x av cv) 77 := by rw [← s2, hW3]; exact Blk.new _ _ _
    exact this.ext hx4)
  have HB3 : Hid (Blk W4 (w.heap.size + 1 + 1 + 1) #[.string x.kind, .int .i64 x.y, .int .i64 x.x, .int .i64 (k : Int), .slice av x.args.length cv] 166) := hid (by rw [← s3, hW4]; exact Blk.new _ _ _)
  have HI := hid hI
  have HP := hid h
  rw [hW2, hW1] at e0 e1 e2 e3
  unfold pcells at e0 e1 e2 e3
  have HWe : Hid (W4 = (((w.alloc (.cells #[.slice a1 P.vars.length c1, .slice a2 P.funs.length c2, .slice (some y) P.stmts.length c3] 26)).alloc (.cells #[.string ⟨#[]⟩, .int .i64 0, .int .i64 0, .int .i64 0, .slice none 0 0] 166)).alloc (.cells #[.string x.kind, .int .i64 x.x, .int .i64 x.y, .slice av x.args.length cv] 77)).alloc (.cells #[.string x.kind, .int .i64 x.y, .int .i64 x.x, .int .i64 (k : Int), .slice av x.args.length cv] 166)) := hid (by rw [hW4, hW3, hW2, hW1]; rfl)
  have HI0 : Hid (IntsR w n0 (.slice av x.args.length cv) x.args) := hid (by
    obtain ⟨y', x', av', cv', hy', hxk2, f0, f1, f2, f3, hI'⟩ := HP.out.stmts.at hk
    obtain rfl := Option.some.inj hy'
    obtain rfl := Option.some.inj (hxk.symm.trans hxk2)
    have g3 := (hx1.trans hx2).cellx f3
    rw [hW2, hW1] at g3
    unfold pcells at g3
    rw [e3] at g3
    obtain ⟨rfl, rfl⟩ : av = av' ∧ cv = cv' := by simpa using g3
    exact hI')
  clear hW1 hW2 hW3 hW4 hx1 hx2 hx3 hx4 s1 s2 s3 hxk hxk' hI h
  unfold pval
  have Hr : Hid (P.ruleR k x = ⟨bBase, x.x, x.y, k, []⟩) := hid (by unfold PP.ruleR; rw [hkx]; rfl)
  have hkk := hkx
  unfold PS.isK kAddr at hkk
  clear hkx
  clear HWe
  go_enter Tryz.func125, Tryz.ntmps125
  go_wp2
  obtain ⟨V, hV⟩ : ∃ V, V = (((w.alloc (.cells #[.slice a1 P.vars.length c1, .slice a2 P.funs.length c2, .slice (some y) P.stmts.length c3] 26)).alloc (.cells #[.string ⟨#[98, 97, 115, 101]⟩, .int .i64 x.x, .int .i64 x.y, .int .i64 (k : Int), .slice none 0 0] 166)).alloc (.cells #[.string x.kind, .int .i64 x.x, .int .i64 x.y, .slice av x.args.length cv] 77)).alloc (.cells #[.string ⟨#[98, 97, 115, 101]⟩, .int .i64 x.x, .int .i64 x.y, .int .i64 (k : Int), .slice none 0 0] 166) := ⟨_, rfl⟩
  have hxV : Ext w V := by rw [hV]; exact ((((Ext.refl _).alloc _).alloc _).alloc _).alloc _
  have HB9 : Blk V (w.heap.size + 1) #[.string ⟨#[98, 97, 115, 101]⟩, .int .i64 x.x, .int .i64 x.y, .int .i64 (k : Int), .slice none 0 0] 166 := by
    rw [hV]
    have := ((Blk.new (w.alloc (.cells #[.slice a1 P.vars.length c1, .slice a2 P.funs.length c2, .slice (some y) P.stmts.length c3] 26)) #[.string ⟨#[98, 97, 115, 101]⟩, .int .i64 x.x, .int .i64 x.y, .int .i64 (k : Int), .slice none 0 0] 166).alloc (.cells #[.string x.kind, .int .i64 x.x, .int .i64 x.y, .slice av x.args.length cv] 77)).alloc (.cells #[.string ⟨#[98, 97, 115, 101]⟩, .int .i64 x.x, .int .i64 x.y, .int .i64 (k : Int), .slice none 0 0] 166)
    rwa [heap_size_alloc] at this
  rw [← hV]
  exact bodyPost_ret (v := .agg #[.string ⟨#[98, 97, 115, 101]⟩, .int .i64 x.x, .int .i64 x.y, .int .i64 (k : Int), .slice none 0 0]) (by simp [results, Tryz.results125, go_sem, HB9.av 0 rfl, HB9.av 1 rfl, HB9.av 2 rfl, HB9.av 3 rfl, HB9.av 4 rfl]) rfl ⟨_, by rw [Hr.out]; rfl, by rw [Hr.out]; exact intsR_nil _ _, hxV⟩
set_option maxRecDepth 100000 in
set_option maxHeartbeats 6400000 in
theorem rruleof_rest (a1 a2 a3 : Option Addr) (c1 c2 c3 : Nat) (P : PP) (k : Nat) (x : PS) (hxk : P.stmts[k]? = some x) (w : World) (n0 : Nat) (h : ProgR w n0 (.slice a1 P.vars.length c1) (.slice a2 P.funs.length c2) (.slice a3 P.stmts.length c3) P) (hf1 : P.vars.length ≤ 1000) (hf3 : P.stmts.length ≤ 1000) (hkx : x.isK kAddr = false ∧ x.isK kNew = false ∧ x.isK kFun = false)  :
    Calls Tryz.prog 125 #[pval a1 a2 a3 c1 c2 c3 P, .int .i64 (k : Int)] w fun e w' => ∃ av, e = .returned ((P.ruleR k x).val av) ∧ IntsR w n0 av (P.ruleR k x).args ∧ Ext w w' := by
  obtain ⟨W1, hW1⟩ : ∃ W1, W1 = w.alloc (.cells (pcells a1 a2 a3 c1 c2 c3 P) 26) := ⟨_, rfl⟩
  have hx1 : Ext w W1 := by rw [hW1]; exact (Ext.refl _).alloc _
  obtain ⟨W2, hW2⟩ : ∃ W2, W2 = W1.alloc (.cells #[.string ⟨#[]⟩, .int .i64 0, .int .i64 0, .int .i64 0, .slice none 0 0] 166) := ⟨_, rfl⟩
  have hx2 : Ext W1 W2 := by rw [hW2]; exact (Ext.refl _).alloc _
  have hk : k < P.stmts.length := by
    rcases Nat.lt_or_ge k P.stmts.length with h | h
    · exact h
    · rw [List.getElem?_eq_none h] at hxk; cases hxk
  have hml := h.stmts.len
  obtain ⟨y, x', av, cv, rfl, hxk', e0, e1, e2, e3, hI⟩ := (h.ext (hx1.trans hx2)).stmts.at hk
  obtain rfl := Option.some.inj (hxk.symm.trans hxk')
  obtain ⟨W3, hW3⟩ : ∃ W3, W3 = W2.alloc (.cells (scells x av cv) 77) := ⟨_, rfl⟩
  have hx3 : Ext W2 W3 := by rw [hW3]; exact (Ext.refl _).alloc _
  obtain ⟨W4, hW4⟩ : ∃ W4, W4 = W3.alloc (.cells #[.string x.kind, .int .i64 x.y, .int .i64 x.x, .int .i64 (k : Int), .slice av x.args.length cv] 166) := ⟨_, rfl⟩
  have hx4 : Ext W3 W4 := by rw [hW4]; exact (Ext.refl _).alloc _
  have s1 : W1.heap.size = w.heap.size + 1 := by rw [hW1, heap_size_alloc]
  have s2 : W2.heap.size = w.heap.size + 1 + 1 := by rw [hW2, heap_size_alloc, s1]
  have s3 : W3.heap.size = w.heap.size + 1 + 1 + 1 := by rw [hW3, heap_size_alloc, s2]
  have HX := hid (((hx1.trans hx2).trans hx3).trans hx4)
  have HB0 : Hid (Blk W4 w.heap.size (pcells a1 a2 (some y) c1 c2 c3 P) 26) := hid (by
    have : Blk W1 w.heap.size (pcells a1 a2 (some y) c1 c2 c3 P) 26 := by rw [hW1]; exact Blk.new _ _ _
    exact this.ext ((hx2.trans hx3).trans hx4))
  have HB1 : Hid (Blk W4 (w.heap.size + 1) #[.string ⟨#[]⟩, .int .i64 0, .int .i64 0, .int .i64 0, .slice none 0 0] 166) := hid (by
    have : Blk W2 (w.heap.size + 1) #[.string ⟨#[]⟩, .int .i64 0, .int .i64 0, .int .i64 0, .slice none 0 0] 166 := by rw [← s1, hW2]; exact Blk.new _ _ _
    exact this.ext (hx3.trans hx4))
  have HB2 : Hid (Blk W4 (w.heap.size + 1 + 1) (scells x av cv) 77) := hid (by
    have : Blk W3 (w.heap.size + 1 + 1) (scells x av cv) 77 := by rw [← s2, hW3]; exact Blk.new _ _ _
    exact this.ext hx4)
  have HB3 : Hid (Blk W4 (w.heap.size + 1 + 1 + 1) #[.string x.kind, .int .i64 x.y, .int .i64 x.x, .int .i64 (k : Int), .slice av x.args.length cv] 166) := hid (by rw [← s3, hW4]; exact Blk.new _ _ _)
  have HI := hid hI
  have HP := hid h
  rw [hW2, hW1] at e0 e1 e2 e3
  unfold pcells at e0 e1 e2 e3
  have HWe : Hid (W4 = (((w.alloc (.cells #[.slice a1 P.vars.length c1, .slice a2 P.funs.length c2, .slice (some y) P.stmts.length c3] 26)).alloc (.cells #[.string ⟨#[]⟩, .int .i64 0, .int .i64 0, .int .i64 0, .slice none 0 0] 166)).alloc (.cells #[.string x.kind, .int .i64 x.x, .int .i64 x.y, .slice av x.args.length cv] 77)).alloc (.cells #[.string x.kind, .int .i64 x.y, .int .i64 x.x, .int .i64 (k : Int), .slice av x.args.length cv] 166)) := hid (by rw [hW4, hW3, hW2, hW1]; rfl)
  have HI0 : Hid (IntsR w n0 (.slice av x.args.length cv) x.args) := hid (by
    obtain ⟨y', x', av', cv', hy', hxk2, f0, f1, f2, f3, hI'⟩ := HP.out.stmts.at hk
    obtain rfl := Option.some.inj hy'
    obtain rfl := Option.some.inj (hxk.symm.trans hxk2)
    have g3 := (hx1.trans hx2).cellx f3
    rw [hW2, hW1] at g3
    unfold pcells at g3
    rw [e3] at g3
    obtain ⟨rfl, rfl⟩ : av = av' ∧ cv = cv' := by simpa using g3
    exact hI')
  clear hW1 hW2 hW3 hW4 hx1 hx2 hx3 hx4 s1 s2 s3 hxk hxk' hI h
  unfold pval
  obtain ⟨g1, g2, g3⟩ := hkx
  have Hr : Hid (P.ruleR k x = ⟨x.kind, x.y, x.x, k, x.args⟩) := hid (by unfold PP.ruleR; rw [g1, g2, g3]; rfl)
  have h1 : (x.kind.toList == [97, 100, 100, 114]) = false := g1
  have h5 : (x.kind.toList == [110, 101, 119]) = false := g2
  have h6 : (x.kind.toList == [102, 117, 110]) = false := g3
  clear g1 g2 g3
  clear HWe
  go_enter Tryz.func125, Tryz.ntmps125
  go_wp2
  obtain ⟨V, hV⟩ : ∃ V, V = (((w.alloc (.cells #[.slice a1 P.vars.length c1, .slice a2 P.funs.length c2, .slice (some y) P.stmts.length c3] 26)).alloc (.cells #[.string x.kind, .int .i64 x.y, .int .i64 x.x, .int .i64 (k : Int), .slice av x.args.length cv] 166)).alloc (.cells #[.string x.kind, .int .i64 x.x, .int .i64 x.y, .slice av x.args.length cv] 77)).alloc (.cells #[.string x.kind, .int .i64 x.y, .int .i64 x.x, .int .i64 (k : Int), .slice av x.args.length cv] 166) := ⟨_, rfl⟩
  have hxV : Ext w V := by rw [hV]; exact ((((Ext.refl _).alloc _).alloc _).alloc _).alloc _
  have HB9 : Blk V (w.heap.size + 1) #[.string x.kind, .int .i64 x.y, .int .i64 x.x, .int .i64 (k : Int), .slice av x.args.length cv] 166 := by
    rw [hV]
    have := ((Blk.new (w.alloc (.cells #[.slice a1 P.vars.length c1, .slice a2 P.funs.length c2, .slice (some y) P.stmts.length c3] 26)) #[.string x.kind, .int .i64 x.y, .int .i64 x.x, .int .i64 (k : Int), .slice av x.args.length cv] 166).alloc (.cells #[.string x.kind, .int .i64 x.x, .int .i64 x.y, .slice av x.args.length cv] 77)).alloc (.cells #[.string x.kind, .int .i64 x.y, .int .i64 x.x, .int .i64 (k : Int), .slice av x.args.length cv] 166)
    rwa [heap_size_alloc] at this
  rw [← hV]
  exact bodyPost_ret (v := .agg #[.string x.kind, .int .i64 x.y, .int .i64 x.x, .int .i64 (k : Int), .slice av x.args.length cv]) (by simp [results, Tryz.results125, go_sem, HB9.av 0 rfl, HB9.av 1 rfl, HB9.av 2 rfl, HB9.av 3 rfl, HB9.av 4 rfl]) rfl ⟨_, by rw [Hr.out]; rfl, by rw [Hr.out]; exact HI0.out, hxV⟩
set_option maxRecDepth 100000 in
set_option maxHeartbeats 6400000 in
theorem rruleof_new (a1 a2 a3 : Option Addr) (c1 c2 c3 : Nat) (P : PP) (k : Nat) (x : PS) (hxk : P.stmts[k]? = some x) (w : World) (n0 : Nat) (h : ProgR w n0 (.slice a1 P.vars.length c1) (.slice a2 P.funs.length c2) (.slice a3 P.stmts.length c3) P) (hf1 : P.vars.length ≤ 1000) (hf3 : P.stmts.length ≤ 1000) (hkx : x.isK kNew = true)  :
    Calls Tryz.prog 125 #[pval a1 a2 a3 c1 c2 c3 P, .int .i64 (k : Int)] w fun e w' => ∃ av, e = .returned ((P.ruleR k x).val av) ∧ IntsR w n0 av (P.ruleR k x).args ∧ Ext w w' := by
  have HPl := fun w1 (y : Ext w w1) => hid (rplaceof_any a1 a2 a3 c1 c2 c3 P (k : Int) w1 n0 (h.ext y) hf1 hf3)
  obtain ⟨W1, hW1⟩ : ∃ W1, W1 = w.alloc (.cells (pcells a1 a2 a3 c1 c2 c3 P) 26) := ⟨_, rfl⟩
  have hx1 : Ext w W1 := by rw [hW1]; exact (Ext.refl _).alloc _
  obtain ⟨W2, hW2⟩ : ∃ W2, W2 = W1.alloc (.cells #[.string ⟨#[]⟩, .int .i64 0, .int .i64 0, .int .i64 0, .slice none 0 0] 166) := ⟨_, rfl⟩
  have hx2 : Ext W1 W2 := by rw [hW2]; exact (Ext.refl _).alloc _
  have hk : k < P.stmts.length := by
    rcases Nat.lt_or_ge k P.stmts.length with h | h
    · exact h
    · rw [List.getElem?_eq_none h] at hxk; cases hxk
  have hml := h.stmts.len
  obtain ⟨y, x', av, cv, rfl, hxk', e0, e1, e2, e3, hI⟩ := (h.ext (hx1.trans hx2)).stmts.at hk
  obtain rfl := Option.some.inj (hxk.symm.trans hxk')
  obtain ⟨W3, hW3⟩ : ∃ W3, W3 = W2.alloc (.cells (scells x av cv) 77) := ⟨_, rfl⟩
  have hx3 : Ext W2 W3 := by rw [hW3]; exact (Ext.refl _).alloc _
  obtain ⟨W4, hW4⟩ : ∃ W4, W4 = W3.alloc (.cells #[.string x.kind, .int .i64 x.y, .int .i64 x.x, .int .i64 (k : Int), .slice av x.args.length cv] 166) := ⟨_, rfl⟩
  have hx4 : Ext W3 W4 := by rw [hW4]; exact (Ext.refl _).alloc _
  have s1 : W1.heap.size = w.heap.size + 1 := by rw [hW1, heap_size_alloc]
  have s2 : W2.heap.size = w.heap.size + 1 + 1 := by rw [hW2, heap_size_alloc, s1]
  have s3 : W3.heap.size = w.heap.size + 1 + 1 + 1 := by rw [hW3, heap_size_alloc, s2]
  have HX := hid (((hx1.trans hx2).trans hx3).trans hx4)
  have HB0 : Hid (Blk W4 w.heap.size (pcells a1 a2 (some y) c1 c2 c3 P) 26) := hid (by
    have : Blk W1 w.heap.size (pcells a1 a2 (some y) c1 c2 c3 P) 26 := by rw [hW1]; exact Blk.new _ _ _
    exact this.ext ((hx2.trans hx3).trans hx4))
  have HB1 : Hid (Blk W4 (w.heap.size + 1) #[.string ⟨#[]⟩, .int .i64 0, .int .i64 0, .int .i64 0, .slice none 0 0] 166) := hid (by
    have : Blk W2 (w.heap.size + 1) #[.string ⟨#[]⟩, .int .i64 0, .int .i64 0, .int .i64 0, .slice none 0 0] 166 := by rw [← s1, hW2]; exact Blk.new _ _ _
    exact this.ext (hx3.trans hx4))
  have HB2 : Hid (Blk W4 (w.heap.size + 1 + 1) (scells x av cv) 77) := hid (by
    have : Blk W3 (w.heap.size + 1 + 1) (scells x av cv) 77 := by rw [← s2, hW3]; exact Blk.new _ _ _
    exact this.ext hx4)
  have HB3 : Hid (Blk W4 (w.heap.size + 1 + 1 + 1) #[.string x.kind, .int .i64 x.y, .int .i64 x.x, .int .i64 (k : Int), .slice av x.args.length cv] 166) := hid (by rw [← s3, hW4]; exact Blk.new _ _ _)
  have HI := hid hI
  have HP := hid h
  rw [hW2, hW1] at e0 e1 e2 e3
  unfold pcells at e0 e1 e2 e3
  have HWe : Hid (W4 = (((w.alloc (.cells #[.slice a1 P.vars.length c1, .slice a2 P.funs.length c2, .slice (some y) P.stmts.length c3] 26)).alloc (.cells #[.string ⟨#[]⟩, .int .i64 0, .int .i64 0, .int .i64 0, .slice none 0 0] 166)).alloc (.cells #[.string x.kind, .int .i64 x.x, .int .i64 x.y, .slice av x.args.length cv] 77)).alloc (.cells #[.string x.kind, .int .i64 x.y, .int .i64 x.x, .int .i64 (k : Int), .slice av x.args.length cv] 166)) := hid (by rw [hW4, hW3, hW2, hW1]; rfl)
  have HI0 : Hid (IntsR w n0 (.slice av x.args.length cv) x.args) := hid (by
    obtain ⟨y', x', av', cv', hy', hxk2, f0, f1, f2, f3, hI'⟩ := HP.out.stmts.at hk
    obtain rfl := Option.some.inj hy'
    obtain rfl := Option.some.inj (hxk.symm.trans hxk2)
    have g3 := (hx1.trans hx2).cellx f3
    rw [hW2, hW1] at g3
    unfold pcells at g3
    rw [e3] at g3
    obtain ⟨rfl, rfl⟩ : av = av' ∧ cv = cv' := by simpa using g3
    exact hI')
  clear hW1 hW2 hW3 hW4 hx1 hx2 hx3 hx4 s1 s2 s3 hxk hxk' hI h
  unfold pval
  unfold pval at HPl
  have h1 : (x.kind.toList == [97, 100, 100, 114]) = false := isK_ne hkx (k' := kAddr) rfl
  have hkk := hkx
  unfold PS.isK kNew at hkk
  have Hr : Hid (P.ruleR k x = ⟨bBase, x.x, P.placeV k, k, []⟩) := hid (by unfold PP.ruleR; rw [isK_ne hkx (k' := kAddr) rfl, hkx]; rfl)
  clear hkx
  have x0 := Ext.refl W4
  have m0 := (HB2.out.ext x0).kc (X := fun _ => False) (fun e => e) 0 rfl
  have m1 := (HB2.out.ext x0).kc (X := fun _ => False) (fun e => e) 1 rfl
  have m2 := (HB2.out.ext x0).kc (X := fun _ => False) (fun e => e) 2 rfl
  have m3 := (HB2.out.ext x0).kc (X := fun _ => False) (fun e => e) 3 rfl
  have d0 := (HB0.out.ext x0).kc (X := fun _ => False) (fun e => e) 0 rfl
  have d1 := (HB0.out.ext x0).kc (X := fun _ => False) (fun e => e) 1 rfl
  have d2 := (HB0.out.ext x0).kc (X := fun _ => False) (fun e => e) 2 rfl
  simp only [pcells, scells, qA0, qA1, qA2] at m0 m1 m2 m3 d0 d1 d2
  clear x0
  go_enter Tryz.func125, Tryz.ntmps125
  go_wp2
  rw [← HWe.out]
  refine wp_flowT (fun _ => False) (by kernel_rfl) (by kernel_rfl) ?_
  repeat (apply FlowT.d; (intro w1 hk; unfold does; go_simp; (try go_ints); (first | exact DetR.mk | (simp only [↓IntWalk.iteOmega, Oper.doesUpon_value]; exact DetR.mk) | (simp only [↓IntWalk.iteOmega]; go_simp; (try go_ints); exact DetR.mk))); simp only [Act.put, qS0, qS1, qS2])
  apply FlowT.d
  · intro w1 hk
    unfold does
    go_simp
    exact CallR.det ((HPl w1 (HX.out.trans hk.ext)).out)
  simp only [Act.put, qS0, qS1, qS2]
  repeat (apply FlowT.d; (intro w1 hk; unfold does; go_simp; (try go_ints); (first | exact DetR.mk | (simp only [↓IntWalk.iteOmega, Oper.doesUpon_value]; exact DetR.mk) | (simp only [↓IntWalk.iteOmega]; go_simp; (try go_ints); exact DetR.mk))); simp only [Act.put, qS0, qS1, qS2])
  refine FlowT.last (fun _ w' => Blk w' (w.heap.size + 1 + 1 + 1) #[.string ⟨#[98, 97, 115, 101]⟩, .int .i64 x.x, .int .i64 (P.placeV k), .int .i64 (k : Int), .slice none 0 0] 166 ∧ Blk w' (w.heap.size + 1) #[.string ⟨#[]⟩, .int .i64 0, .int .i64 0, .int .i64 0, .slice none 0 0] 166 ∧ Ext w w') 7 rfl (by kernel_rfl) (by kernel_rfl) (fun w1 hC hk => ?_) (fun _ w2 hR => ?_)
  · have hB := HB3.out.ext hC
    have c0 := hB.av 0 rfl
    have c1 := hB.av 1 rfl
    have c2 := hB.av 2 rfl
    have c3 := hB.av 3 rfl
    have c4 := hB.av 4 rfl
    have f0 := hB.free
    have hZ := HB1.out.ext hC
    unfold does
    go_simp
    exact ⟨store5 hB, hZ.keep (store5_keep _ _ _ _ _ _ _) (fun e => by omega), Keep.new (HX.out.trans hC) (store5_keep _ _ _ _ _ _ _) (fun b hb => by omega)⟩
  obtain ⟨hB, hZ, hxw⟩ := hR
  simp only [Act.put]
  have Hxw := hid hxw
  have HZ := hid hZ
  have c0 := hB.av 0 rfl
  have c1 := hB.av 1 rfl
  have c2 := hB.av 2 rfl
  have c3 := hB.av 3 rfl
  have c4 := hB.av 4 rfl
  have z0 := hZ.av 0 rfl
  have z1 := hZ.av 1 rfl
  have z2 := hZ.av 2 rfl
  have z3 := hZ.av 3 rfl
  have z4 := hZ.av 4 rfl
  have f0 := hZ.free
  simp only [qA0, qA1, qA2] at c0 c1 c2 c3 c4 z0 z1 z2 z3 z4
  clear hB hZ hxw m0 m1 m2 m3 d0 d1 d2
  go_wp2
  have h9 := store5 (b0 := .string ⟨#[98, 97, 115, 101]⟩) (b1 := .int .i64 x.x) (b2 := .int .i64 (P.placeV k)) (b3 := .int .i64 (k : Int)) (b4 := .slice none 0 0) HZ.out
  have x9 := Keep.new Hxw.out (store5_keep w2 (w.heap.size + 1) (.string ⟨#[98, 97, 115, 101]⟩) (.int .i64 x.x) (.int .i64 (P.placeV k)) (.int .i64 (k : Int)) (.slice none 0 0)) (fun b hb => by omega)
  exact bodyPost_ret (v := .agg #[.string ⟨#[98, 97, 115, 101]⟩, .int .i64 x.x, .int .i64 (P.placeV k), .int .i64 (k : Int), .slice none 0 0]) (by simp [results, Tryz.results125, go_sem, h9.av 0 rfl, h9.av 1 rfl, h9.av 2 rfl, h9.av 3 rfl, h9.av 4 rfl]) rfl ⟨_, by rw [Hr.out]; rfl, by rw [Hr.out]; exact intsR_nil _ _, x9⟩
set_option maxRecDepth 100000 in
set_option maxHeartbeats 6400000 in
theorem rruleof_fun (a1 a2 a3 : Option Addr) (c1 c2 c3 : Nat) (P : PP) (k : Nat) (x : PS) (hxk : P.stmts[k]? = some x) (w : World) (n0 : Nat) (h : ProgR w n0 (.slice a1 P.vars.length c1) (.slice a2 P.funs.length c2) (.slice a3 P.stmts.length c3) P) (hf1 : P.vars.length ≤ 1000) (hf3 : P.stmts.length ≤ 1000) (hkx : x.isK kFun = true) (hyy : 0 ≤ x.y ∧ x.y ≤ 100000) :
    Calls Tryz.prog 125 #[pval a1 a2 a3 c1 c2 c3 P, .int .i64 (k : Int)] w fun e w' => ∃ av, e = .returned ((P.ruleR k x).val av) ∧ IntsR w n0 av (P.ruleR k x).args ∧ Ext w w' := by
  have HNo := fun w1 (y : Ext w w1) => hid (rnodesof_any a1 a2 a3 c1 c2 c3 P w1 n0 (h.ext y) hf1 hf3)
  have hnl := P.nodesV_le2
  obtain ⟨W1, hW1⟩ : ∃ W1, W1 = w.alloc (.cells (pcells a1 a2 a3 c1 c2 c3 P) 26) := ⟨_, rfl⟩
  have hx1 : Ext w W1 := by rw [hW1]; exact (Ext.refl _).alloc _
  obtain ⟨W2, hW2⟩ : ∃ W2, W2 = W1.alloc (.cells #[.string ⟨#[]⟩, .int .i64 0, .int .i64 0, .int .i64 0, .slice none 0 0] 166) := ⟨_, rfl⟩
  have hx2 : Ext W1 W2 := by rw [hW2]; exact (Ext.refl _).alloc _
  have hk : k < P.stmts.length := by
    rcases Nat.lt_or_ge k P.stmts.length with h | h
    · exact h
    · rw [List.getElem?_eq_none h] at hxk; cases hxk
  have hml := h.stmts.len
  obtain ⟨y, x', av, cv, rfl, hxk', e0, e1, e2, e3, hI⟩ := (h.ext (hx1.trans hx2)).stmts.at hk
  obtain rfl := Option.some.inj (hxk.symm.trans hxk')
  obtain ⟨W3, hW3⟩ : ∃ W3, W3 = W2.alloc (.cells (scells x av cv) 77) := ⟨_, rfl⟩
  have hx3 : Ext W2 W3 := by rw [hW3]; exact (Ext.refl _).alloc _
  obtain ⟨W4, hW4⟩ : ∃ W4, W4 = W3.alloc (.cells #[.string x.kind, .int .i64 x.y, .int .i64 x.x, .int .i64 (k : Int), .slice av x.args.length cv] 166) := ⟨_, rfl⟩
  have hx4 : Ext W3 W4 := by rw [hW4]; exact (Ext.refl _).alloc _
  have s1 : W1.heap.size = w.heap.size + 1 := by rw [hW1, heap_size_alloc]
  have s2 : W2.heap.size = w.heap.size + 1 + 1 := by rw [hW2, heap_size_alloc, s1]
  have s3 : W3.heap.size = w.heap.size + 1 + 1 + 1 := by rw [hW3, heap_size_alloc, s2]
  have HX := hid (((hx1.trans hx2).trans hx3).trans hx4)
  have HB0 : Hid (Blk W4 w.heap.size (pcells a1 a2 (some y) c1 c2 c3 P) 26) := hid (by
    have : Blk W1 w.heap.size (pcells a1 a2 (some y) c1 c2 c3 P) 26 := by rw [hW1]; exact Blk.new _ _ _
    exact this.ext ((hx2.trans hx3).trans hx4))
  have HB1 : Hid (Blk W4 (w.heap.size + 1) #[.string ⟨#[]⟩, .int .i64 0, .int .i64 0, .int .i64 0, .slice none 0 0] 166) := hid (by
    have : Blk W2 (w.heap.size + 1) #[.string ⟨#[]⟩, .int .i64 0, .int .i64 0, .int .i64 0, .slice none 0 0] 166 := by rw [← s1, hW2]; exact Blk.new _ _ _
    exact this.ext (hx3.trans hx4))
  have HB2 : Hid (Blk W4 (w.heap.size + 1 + 1) (scells x av cv) 77) := hid (by
    have : Blk W3 (w.heap.size + 1 + 1) (scells x av cv) 77 := by rw [← s2, hW3]; exact Blk.new _ _ _
    exact this.ext hx4)
  have HB3 : Hid (Blk W4 (w.heap.size + 1 + 1 + 1) #[.string x.kind, .int .i64 x.y, .int .i64 x.x, .int .i64 (k : Int), .slice av x.args.length cv] 166) := hid (by rw [← s3, hW4]; exact Blk.new _ _ _)
  have HI := hid hI
  have HP := hid h
  rw [hW2, hW1] at e0 e1 e2 e3
  unfold pcells at e0 e1 e2 e3
  have HWe : Hid (W4 = (((w.alloc (.cells #[.slice a1 P.vars.length c1, .slice a2 P.funs.length c2, .slice (some y) P.stmts.length c3] 26)).alloc (.cells #[.string ⟨#[]⟩, .int .i64 0, .int .i64 0, .int .i64 0, .slice none 0 0] 166)).alloc (.cells #[.string x.kind, .int .i64 x.x, .int .i64 x.y, .slice av x.args.length cv] 77)).alloc (.cells #[.string x.kind, .int .i64 x.y, .int .i64 x.x, .int .i64 (k : Int), .slice av x.args.length cv] 166)) := hid (by rw [hW4, hW3, hW2, hW1]; rfl)
  have HI0 : Hid (IntsR w n0 (.slice av x.args.length cv) x.args) := hid (by
    obtain ⟨y', x', av', cv', hy', hxk2, f0, f1, f2, f3, hI'⟩ := HP.out.stmts.at hk
    obtain rfl := Option.some.inj hy'
    obtain rfl := Option.some.inj (hxk.symm.trans hxk2)
    have g3 := (hx1.trans hx2).cellx f3
    rw [hW2, hW1] at g3
    unfold pcells at g3
    rw [e3] at g3
    obtain ⟨rfl, rfl⟩ : av = av' ∧ cv = cv' := by simpa using g3
    exact hI')
  clear hW1 hW2 hW3 hW4 hx1 hx2 hx3 hx4 s1 s2 s3 hxk hxk' hI h
  unfold pval
  unfold pval at HNo
  have h1 : (x.kind.toList == [97, 100, 100, 114]) = false := isK_ne hkx (k' := kAddr) rfl
  have h5 : (x.kind.toList == [110, 101, 119]) = false := isK_ne hkx (k' := kNew) rfl
  have hkk := hkx
  unfold PS.isK kFun at hkk
  obtain ⟨N, hN⟩ : ∃ N, N = P.nodesV := ⟨_, rfl⟩
  have Hr : Hid (P.ruleR k x = ⟨bBase, x.x, (N : Int) + x.y, k, []⟩) := hid (by unfold PP.ruleR; rw [isK_ne hkx (k' := kAddr) rfl, isK_ne hkx (k' := kNew) rfl, hkx, hN]; rfl)
  rw [← hN] at HNo hnl
  obtain ⟨hg1, hg2⟩ := hyy
  clear hkx hN
  have x0 := Ext.refl W4
  have m0 := (HB2.out.ext x0).kc (X := fun _ => False) (fun e => e) 0 rfl
  have m1 := (HB2.out.ext x0).kc (X := fun _ => False) (fun e => e) 1 rfl
  have m2 := (HB2.out.ext x0).kc (X := fun _ => False) (fun e => e) 2 rfl
  have m3 := (HB2.out.ext x0).kc (X := fun _ => False) (fun e => e) 3 rfl
  have d0 := (HB0.out.ext x0).kc (X := fun _ => False) (fun e => e) 0 rfl
  have d1 := (HB0.out.ext x0).kc (X := fun _ => False) (fun e => e) 1 rfl
  have d2 := (HB0.out.ext x0).kc (X := fun _ => False) (fun e => e) 2 rfl
  simp only [pcells, scells, qA0, qA1, qA2] at m0 m1 m2 m3 d0 d1 d2
  clear x0
  go_enter Tryz.func125, Tryz.ntmps125
  go_wp2
  rw [← HWe.out]
  refine wp_flowT (fun _ => False) (by kernel_rfl) (by kernel_rfl) ?_
  repeat (apply FlowT.d; (intro w1 hk; unfold does; go_simp; (try go_ints); (first | exact DetR.mk | (simp only [↓IntWalk.iteOmega, Oper.doesUpon_value]; exact DetR.mk) | (simp only [↓IntWalk.iteOmega]; go_simp; (try go_ints); exact DetR.mk))); simp only [Act.put, qS0, qS1, qS2])
  apply FlowT.d
  · intro w1 hk
    unfold does
    go_simp
    exact CallR.det ((HNo w1 (HX.out.trans hk.ext)).out)
  simp only [Act.put, qS0, qS1, qS2]
  repeat (apply FlowT.d; (intro w1 hk; unfold does; go_simp; (try go_ints); (first | exact DetR.mk | (simp only [↓IntWalk.iteOmega, Oper.doesUpon_value]; exact DetR.mk) | (simp only [↓IntWalk.iteOmega]; go_simp; (try go_ints); exact DetR.mk))); simp only [Act.put, qS0, qS1, qS2])
  refine FlowT.last (fun _ w' => Blk w' (w.heap.size + 1 + 1 + 1) #[.string ⟨#[98, 97, 115, 101]⟩, .int .i64 x.x, .int .i64 ((N : Int) + x.y), .int .i64 (k : Int), .slice none 0 0] 166 ∧ Blk w' (w.heap.size + 1) #[.string ⟨#[]⟩, .int .i64 0, .int .i64 0, .int .i64 0, .slice none 0 0] 166 ∧ Ext w w') 9 rfl (by kernel_rfl) (by kernel_rfl) (fun w1 hC hk => ?_) (fun _ w2 hR => ?_)
  · have hB := HB3.out.ext hC
    have c0 := hB.av 0 rfl
    have c1 := hB.av 1 rfl
    have c2 := hB.av 2 rfl
    have c3 := hB.av 3 rfl
    have c4 := hB.av 4 rfl
    have f0 := hB.free
    have hZ := HB1.out.ext hC
    unfold does
    go_simp
    exact ⟨store5 hB, hZ.keep (store5_keep _ _ _ _ _ _ _) (fun e => by omega), Keep.new (HX.out.trans hC) (store5_keep _ _ _ _ _ _ _) (fun b hb => by omega)⟩
  obtain ⟨hB, hZ, hxw⟩ := hR
  simp only [Act.put]
  have Hxw := hid hxw
  have HZ := hid hZ
  have c0 := hB.av 0 rfl
  have c1 := hB.av 1 rfl
  have c2 := hB.av 2 rfl
  have c3 := hB.av 3 rfl
  have c4 := hB.av 4 rfl
  have z0 := hZ.av 0 rfl
  have z1 := hZ.av 1 rfl
  have z2 := hZ.av 2 rfl
  have z3 := hZ.av 3 rfl
  have z4 := hZ.av 4 rfl
  have f0 := hZ.free
  simp only [qA0, qA1, qA2] at c0 c1 c2 c3 c4 z0 z1 z2 z3 z4
  clear hB hZ hxw m0 m1 m2 m3 d0 d1 d2
  go_wp2
  have h9 := store5 (b0 := .string ⟨#[98, 97, 115, 101]⟩) (b1 := .int .i64 x.x) (b2 := .int .i64 ((N : Int) + x.y)) (b3 := .int .i64 (k : Int)) (b4 := .slice none 0 0) HZ.out
  have x9 := Keep.new Hxw.out (store5_keep w2 (w.heap.size + 1) (.string ⟨#[98, 97, 115, 101]⟩) (.int .i64 x.x) (.int .i64 ((N : Int) + x.y)) (.int .i64 (k : Int)) (.slice none 0 0)) (fun b hb => by omega)
  exact bodyPost_ret (v := .agg #[.string ⟨#[98, 97, 115, 101]⟩, .int .i64 x.x, .int .i64 ((N : Int) + x.y), .int .i64 (k : Int), .slice none 0 0]) (by simp [results, Tryz.results125, go_sem, h9.av 0 rfl, h9.av 1 rfl, h9.av 2 rfl, h9.av 3 rfl, h9.av 4 rfl]) rfl ⟨_, by rw [Hr.out]; rfl, by rw [Hr.out]; exact intsR_nil _ _, x9⟩
theorem rruleof_any (a1 a2 a3 : Option Addr) (c1 c2 c3 : Nat) (P : PP) (k : Nat) (x : PS) (hxk : P.stmts[k]? = some x) (w : World) (n0 : Nat) (h : ProgR w n0 (.slice a1 P.vars.length c1) (.slice a2 P.funs.length c2) (.slice a3 P.stmts.length c3) P) (hw : P.Well) :
    Calls Tryz.prog 125 #[pval a1 a2 a3 c1 c2 c3 P, .int .i64 (k : Int)] w fun e w' => ∃ av, e = .returned ((P.ruleR k x).val av) ∧ IntsR w n0 av (P.ruleR k x).args ∧ Ext w w' := by
  have hk : k < P.stmts.length := by
    rcases Nat.lt_or_ge k P.stmts.length with h | h
    · exact h
    · rw [List.getElem?_eq_none h] at hxk; cases hxk
  have h0 := hw.2 k x hk hxk
  have hg := PP.good h0
  obtain ⟨f1, f2, f3⟩ := hw.few
  cases h1 : x.isK kAddr with
  | true =>
    have hy := hg.yv (isK_ne h1 (k' := kFun) rfl) (isK_ne h1 (k' := kNew) rfl)
    exact rruleof_addr a1 a2 a3 c1 c2 c3 P k x hxk w n0 h (by omega) (by omega) h1
  | false =>
    cases h2 : x.isK kNew with
    | true => exact rruleof_new a1 a2 a3 c1 c2 c3 P k x hxk w n0 h (by omega) (by omega) h2
    | false =>
      cases h3 : x.isK kFun with
      | true =>
        have hy := hg.yf h3
        exact rruleof_fun a1 a2 a3 c1 c2 c3 P k x hxk w n0 h (by omega) (by omega) h3 (by omega)
      | false => exact rruleof_rest a1 a2 a3 c1 c2 c3 P k x hxk w n0 h (by omega) (by omega) ⟨h1, h2, h3⟩
theorem isE_congr {P : PP} {r s : RV} (h1 : r.kind.toList = s.kind.toList) (h2 : r.a = s.a) (h3 : r.b = s.b) (h4 : r.args = s.args) (has : List (List Int)) (a b : Int) : P.isE r has a b = P.isE s has a b := by
  unfold PP.isE fEdge
  rw [h1, h2, h3, h4]
def PP.rulesRUp (P : PP) (n : Nat) : List RV := ((List.range n).map fun k => P.ruleR k (P.stAt k)).filter fun r => !(r.kind.toList == bBase.toList)
theorem rulesRUp_succ (P : PP) (n : Nat) : P.rulesRUp (n + 1) = P.rulesRUp n ++ (if (P.ruleR n (P.stAt n)).kind.toList == bBase.toList then [] else [P.ruleR n (P.stAt n)]) := by
  unfold PP.rulesRUp
  rw [List.range_succ, List.map_append, List.filter_append]
  congr 1
  simp only [List.map_cons, List.map_nil, List.filter_cons, List.filter_nil]
  cases (P.ruleR n (P.stAt n)).kind.toList == bBase.toList <;> rfl
theorem rulesRUp_len (P : PP) (n : Nat) : (P.rulesRUp n).length ≤ n := by
  unfold PP.rulesRUp
  have := List.length_filter_le (fun r : RV => !(r.kind.toList == bBase.toList)) ((List.range n).map fun k => P.ruleR k (P.stAt k))
  rwa [List.length_map, List.length_range] at this
theorem any_rules {P : PP} (hw : P.Well) (has : List (List Int)) (a b : Int) : (P.rulesRUp P.stmts.length).any (fun r => P.isE r has a b) = P.rulesE.any fun r => P.isE r has a b := by
  unfold PP.rulesRUp PP.rulesE PP.rulesV PP.rulesUp
  rw [List.any_filter, List.any_filter, List.any_map, List.any_map]
  rw [Bool.eq_iff_iff, List.any_eq_true, List.any_eq_true]
  have c : ∀ k, k ∈ List.range P.stmts.length → (((fun r : RV => !(r.kind.toList == bBase.toList) && P.isE r has a b) ∘ fun k => P.ruleR k (P.stAt k)) k = ((fun r : RV => !(r.kind.toList == bBase.toList) && P.isE r has a b) ∘ fun k => P.ruleV k (P.stAt k)) k) := fun k hk => by
    have hk := List.mem_range.1 hk
    obtain ⟨h1, h2, h3, _, _, h4⟩ := rule_same (hw.2 k (P.stAt k) hk (stAt_some hk)) k
    simp only [Function.comp_apply]
    rw [isE_congr h1 h2 h3 h4, h1]
  exact ⟨fun ⟨k, hk, h⟩ => ⟨k, hk, by rw [← c k hk]; exact h⟩, fun ⟨k, hk, h⟩ => ⟨k, hk, by rw [c k hk]; exact h⟩⟩
structure REdge (n : Nat) (r : RV) : Prop where
  kd : (r.kind.toList == kCopy) = true ∨ (r.kind.toList == kLoad) = true ∨ (r.kind.toList == kStore) = true ∨ (r.kind.toList == kCall) = true
  a : 0 ≤ r.a ∧ r.a < n
  b : 0 ≤ r.b ∧ r.b < n
theorem ruleR_edge {P : PP} (hw : P.Well) {k : Nat} (hk : k < P.stmts.length) (hb : ((P.ruleR k (P.stAt k)).kind.toList == bBase.toList) = false) : REdge P.nodesV (P.ruleR k (P.stAt k)) := by
  have h0 := hw.2 k (P.stAt k) hk (stAt_some hk)
  have hg := PP.good h0
  have hnv := nodes_vars P
  obtain ⟨x, hx⟩ : ∃ x, x = P.stAt k := ⟨_, rfl⟩
  rw [← hx] at h0 hg hb ⊢
  have hgx := hg.gx
  have base : ∀ r : RV, r.kind = bBase → (r.kind.toList == bBase.toList) = true := fun r h => by rw [h]; exact beq_self_eq_true _
  have go : ∀ (g3 : x.isK kFun = false) (g2 : x.isK kNew = false) (g1 : x.isK kAddr = false), (x.isK kCopy = true ∨ x.isK kLoad = true ∨ x.isK kStore = true ∨ x.isK kCall = true) → REdge P.nodesV (P.ruleR k x) := fun g3 g2 g1 g => by
    have e : P.ruleR k x = ⟨x.kind, x.y, x.x, k, x.args⟩ := by unfold PP.ruleR; rw [g1, g2, g3]; rfl
    have hy := hg.yv g3 g2
    rw [e]
    exact ⟨g, by show 0 ≤ x.y ∧ x.y < (P.nodesV : Int); omega, by show 0 ≤ x.x ∧ x.x < (P.nodesV : Int); omega⟩
  rcases kind_cases h0 with g | g | g | g | g | g | g
  · rw [base _ (by unfold PP.ruleR; rw [g]; rfl)] at hb; cases hb
  · exact go (isK_ne g (k' := kFun) rfl) (isK_ne g (k' := kNew) rfl) (isK_ne g (k' := kAddr) rfl) (.inl g)
  · exact go (isK_ne g (k' := kFun) rfl) (isK_ne g (k' := kNew) rfl) (isK_ne g (k' := kAddr) rfl) (.inr (.inl g))
  · exact go (isK_ne g (k' := kFun) rfl) (isK_ne g (k' := kNew) rfl) (isK_ne g (k' := kAddr) rfl) (.inr (.inr (.inl g)))
  · rw [base _ (by unfold PP.ruleR; rw [isK_ne g (k' := kAddr) rfl, g]; rfl)] at hb; cases hb
  · rw [base _ (by unfold PP.ruleR; rw [isK_ne g (k' := kAddr) rfl, isK_ne g (k' := kNew) rfl, g]; rfl)] at hb; cases hb
  · exact go (isK_ne g (k' := kFun) rfl) (isK_ne g (k' := kNew) rfl) (isK_ne g (k' := kAddr) rfl) (.inr (.inr (.inr g)))
theorem rulesRUp_edge {P : PP} (hw : P.Well) {n : Nat} (hn : n ≤ P.stmts.length) : ∀ r ∈ P.rulesRUp n, REdge P.nodesV r := by
  intro r hr
  unfold PP.rulesRUp at hr
  obtain ⟨h1, h2⟩ := List.mem_filter.1 hr
  obtain ⟨k, hk, rfl⟩ := List.mem_map.1 h1
  have hk := List.mem_range.1 hk
  exact ruleR_edge hw (by omega) (by simpa using h2)
theorem risedge_any (a1 a2 a3 : Option Addr) (c1 c2 c3 : Nat) (P : PP) (r : RV) (av hv : Value) (has : List (List Int)) (p q : Int) (w : World) (n0 : Nat) (h : ProgR w n0 (.slice a1 P.vars.length c1) (.slice a2 P.funs.length c2) (.slice a3 P.stmts.length c3) P) (hf1 : P.vars.length ≤ 1000) (hf3 : P.stmts.length ≤ 1000) (hf2 : P.funs.length ≤ 1000) (ha : IntsR w n0 av r.args) (hh : SetsR w n0 hv has) (hr : REdge has.length r) :
    Calls Tryz.prog 163 #[pval a1 a2 a3 c1 c2 c3 P, r.val av, hv, .int .i64 p, .int .i64 q] w fun e w' => e = .returned (.bool (P.isE r has p q)) ∧ Ext w w' := by
  rcases hr.kd with g | g | g | g
  · exact risedge_copy a1 a2 a3 c1 c2 c3 P r av hv has p q w n0 h hf1 hf3 ha hh g
  · exact risedge_load a1 a2 a3 c1 c2 c3 P r av hv has p q w n0 h hf1 hf3 ha hh g hr.a
  · exact risedge_store a1 a2 a3 c1 c2 c3 P r av hv has p q w n0 h hf1 hf3 ha hh g hr.b
  · exact risedge_call a1 a2 a3 c1 c2 c3 P r av hv has p q w n0 h hf1 hf3 ha hh g hr.a hf2
def RERow (base : Nat) (w : World) (v : Value) (l : List (Int × Int)) : Prop := w.ownsRow base 170 2 v l.length (l.flatMap eCells)
theorem redge_info : (Tryz.prog.info? 170).map (fun i => (i.zero, i.size, i.bytes)) = some (some (.agg #[.int .i64 0, .int .i64 0]), 2, 16) := by kernel_rfl
theorem rrule_info : (Tryz.prog.info? 166).map (fun i => (i.zero, i.size, i.bytes)) = some (some (.agg #[.string ⟨#[]⟩, .int .i64 0, .int .i64 0, .int .i64 0, .slice none 0 0]), 5, 64) := by kernel_rfl
theorem own_rr {w : World} {base g n cap : Nat} {t : TypeId} {rs : List R2} (h : w.ownsRow base t 5 (.slice (some ⟨g, 0, none⟩) n cap) n (rs.flatMap R2.cells)) {i : Nat} {x : R2} (hx : rs[i]? = some x) :
    w.cell? ⟨g, i * 5, none⟩ = some (.string x.r.kind) ∧ w.cell? ⟨g, i * 5 + 1, none⟩ = some (.int .i64 x.r.a) ∧ w.cell? ⟨g, i * 5 + 2, none⟩ = some (.int .i64 x.r.b) ∧ w.cell? ⟨g, i * 5 + 3, none⟩ = some (.int .i64 x.r.k) ∧ w.cell? ⟨g, i * 5 + 4, none⟩ = some x.v := by
  have c : ∀ j v, x.cells[j]? = some v → j < 5 → w.cell? ⟨g, i * 5 + j, none⟩ = some v := fun j v hv hj => own_get h _ ((fm_get R2.cells 5 R2.cells_len rs i j x hx hj).trans hv)
  exact ⟨c 0 _ rfl (by omega), c 1 _ rfl (by omega), c 2 _ rfl (by omega), c 3 _ rfl (by omega), c 4 _ rfl (by omega)⟩
theorem rowE_succ (P : PP) (has : List (List Int)) (a n : Nat) : P.rowE has a (n + 1) = P.rowE has a n ++ (if P.edgeB has a n then [((a : Int), (n : Int))] else []) := by
  unfold PP.rowE
  rw [List.range_succ, List.filter_append, List.map_append]
  congr 1
  simp only [List.filter_cons, List.filter_nil]
  cases P.edgeB has a n <;> rfl
theorem refE_succ (P : PP) (has : List (List Int)) (n : Nat) : P.refE has (n + 1) = P.refE has n ++ P.rowE has n P.nodesV := by
  unfold PP.refE
  rw [List.range_succ, List.flatMap_append]
  simp
theorem rowE_len (P : PP) (has : List (List Int)) (a n : Nat) : (P.rowE has a n).length ≤ n := by
  unfold PP.rowE
  rw [List.length_map]
  have := List.length_filter_le (fun b : Nat => P.edgeB has (a : Int) (b : Int)) (List.range n)
  rwa [List.length_range] at this
theorem refE_len {P : PP} (hw : P.Well) (has : List (List Int)) {n : Nat} (hn : n ≤ P.nodesV) : (P.refE has n).length ≤ 14400 := by
  have hN := nodesV_le P hw
  have h1 := flatMap_len (fun a => P.rowE has a P.nodesV) 120 (List.range n) fun a _ => Nat.le_trans (rowE_len P has a _) hN
  rw [List.length_range] at h1
  unfold PP.refE
  have : n * 120 ≤ 120 * 120 := Nat.mul_le_mul_right _ (by omega)
  omega
theorem any_take_succ {α : Type} {l : List α} {k : Nat} {x : α} (h : l[k]? = some x) (g : α → Bool) : (l.take (k + 1)).any g = ((l.take k).any g || g x) := by
  rw [List.take_add_one, h, List.any_append]
  simp
end Go.Proofs.YtbagppdibncfdaaGreatDoor
