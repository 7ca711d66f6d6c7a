/- Texts of one proof, put together: T2 T5 T6 T1 T7 ZW ZX ZZWf ZZWg ZZWh ZZWi ZY ZZ ZZ1 ZZ2 ZZ3 ZZ4 ZZ5 ZZWj E3. -/
import Derived.Test.YtngdpnlgnpdkcaaGreatDoorHWC02
import Derived.Test.YtngdpnlgnpdkcaaGreatDoorHWC03
import Derived.Test.YtngdpnlgnpdkcaaGreatDoorHWC04
import Derived.Test.YtngdpnlgnpdkcaaGreatDoorHWC05
import Derived.Test.YtngdpnlgnpdkcaaGreatDoorHWC01
set_option linter.unusedSimpArgs false
set_option linter.unusedVariables false
namespace Go.Proofs.YtngdpnlgnpdkcaaGreatDoor
open Go Go.RowKit
def PP.ruleR (P : PP) (k : Nat) (x : PS) : RV :=
 bif x.isK kAddr then ⟨bBase, x.x, x.y, k, []⟩ else
 bif x.isK kNew then ⟨bBase, x.x, P.placeV k, k, []⟩ else
 bif x.isK kFun then ⟨bBase, x.x, (P.nodesV : Int) + x.y, k, []⟩ else ⟨x.kind, x.y, x.x, k, x.args⟩
theorem noArgs {P : PP} {x : PS} (h0 : P.stmtErr x = 0) (h : x.isK kCall = false) : x.args = [] := by
 unfold PP.stmtErr at h0
 cases h1 : memB x.kind kindsS with
 | false => rw [h1] at h0; simp at h0
 | true =>
  cases h2 : P.bound x with
  | false => rw [h1, h2] at h0; simp at h0
  | true =>
   rw [h1, h2, h] at h0
   cases ha : x.args with
   | nil => rfl
   | cons a r => rw [ha] at h0; simp at h0
theorem rule_same {P : PP} {x : PS} (h0 : P.stmtErr x = 0) (k : Nat) : (P.ruleR k x).kind.toList = (P.ruleV k x).kind.toList ∧ (P.ruleR k x).a = (P.ruleV k x).a ∧ (P.ruleR k x).b = (P.ruleV k x).b ∧ (P.ruleR k x).k = k ∧ (P.ruleV k x).k = k ∧ (P.ruleR k x).args = (P.ruleV k x).args := by
 unfold PP.ruleR PP.ruleV
 cases h1 : x.isK kAddr with
 | true => exact ⟨rfl, rfl, rfl, rfl, rfl, rfl⟩
 | false =>
  cases h2 : x.isK kNew with
  | true => exact ⟨rfl, rfl, rfl, rfl, rfl, rfl⟩
  | false =>
   cases h3 : x.isK kFun with
   | true => exact ⟨rfl, rfl, rfl, rfl, rfl, rfl⟩
   | false =>
    cases h4 : x.isK kCall with
    | true =>
     refine ⟨?_, rfl, rfl, rfl, rfl, rfl⟩
     have : x.kind.toList = kCall := eq_of_beq h4
     exact this.trans (show kCall = bCall.toList by decide +kernel)
    | false => exact ⟨rfl, rfl, rfl, rfl, rfl, noArgs h0 h4⟩
theorem intsR_nil (w : World) (n0 : Nat) : IntsR w n0 (.slice none 0 0) [] := ⟨none, 0, rfl, Nat.le_refl _, by decide, fun h => absurd h (by decide), fun y hy => by cases hy⟩
set_option maxRecDepth 100000 in
set_option maxHeartbeats 6400000 in
theorem rruleof_addr (a1 a2 a3 : Option Addr) (c1 c2 c3 : Nat) (P : PP) (k : Nat) (x : PS) (hxk : P.stmts[k]? = some x) (w : World) (n0 : Nat) (h : ProgR w n0 (.slice a1 P.vars.length c1) (.slice a2 P.funs.length c2) (.slice a3 P.stmts.length c3) P) (hf1 : P.vars.length ≤ 1000) (hf3 : P.stmts.length ≤ 1000) (hkx : x.isK kAddr = true)  :
  Calls Tryz.prog 78 #[pval a1 a2 a3 c1 c2 c3 P, .int .i64 (k : Int)] w fun e w' => ∃ av, e = .returned ((P.ruleR k x).val av) ∧ IntsR w n0 av (P.ruleR k x).args ∧ Ext w w' := by
 obtain ⟨W1, hW1⟩ : ∃ W1, W1 = w.alloc (.cells (pcells a1 a2 a3 c1 c2 c3 P) 26) := ⟨_, rfl⟩
 have hx1 : Ext w W1 := by rw [hW1]; exact (Ext.refl _).alloc _
 obtain ⟨W2, hW2⟩ : ∃ W2, W2 = W1.alloc (.cells #[.string ⟨#[]⟩, .int .i64 0, .int .i64 0, .int .i64 0, .slice none 0 0] 139) := ⟨_, rfl⟩
 have hx2 : Ext W1 W2 := by rw [hW2]; exact (Ext.refl _).alloc _
 have hk : k < P.stmts.length := by
  rcases Nat.lt_or_ge k P.stmts.length with h | h
  ·exact h
  ·rw [List.getElem?_eq_none h] at hxk; cases hxk
 have hml := h.stmts.len
 obtain ⟨y, x', av, cv, rfl, hxk', e0, e1, e2, e3, hI⟩ := (h.ext (hx1.trans hx2)).stmts.at hk
 obtain rfl := Option.some.inj (hxk.symm.trans hxk')
 obtain ⟨W3, hW3⟩ : ∃ W3, W3 = W2.alloc (.cells (scells x av cv) 76) := ⟨_, rfl⟩
 have hx3 : Ext W2 W3 := by rw [hW3]; exact (Ext.refl _).alloc _
 obtain ⟨W4, hW4⟩ : ∃ W4, W4 = W3.alloc (.cells #[.string x.kind, .int .i64 x.y, .int .i64 x.x, .int .i64 (k : Int), .slice av x.args.length cv] 139) := ⟨_, rfl⟩
 have hx4 : Ext W3 W4 := by rw [hW4]; exact (Ext.refl _).alloc _
 have s1 : W1.heap.size = w.heap.size + 1 := by rw [hW1, heap_size_alloc]
 have s2 : W2.heap.size = w.heap.size + 1 + 1 := by rw [hW2, heap_size_alloc, s1]
 have s3 : W3.heap.size = w.heap.size + 1 + 1 + 1 := by rw [hW3, heap_size_alloc, s2]
 have HX := hid (((hx1.trans hx2).trans hx3).trans hx4)
 have HB0 : Hid (Blk W4 w.heap.size (pcells a1 a2 (some y) c1 c2 c3 P) 26) := hid (by
  have : Blk W1 w.heap.size (pcells a1 a2 (some y) c1 c2 c3 P) 26 := by rw [hW1]; exact Blk.new _ _ _
  exact this.ext ((hx2.trans hx3).trans hx4))
 have HB1 : Hid (Blk W4 (w.heap.size + 1) #[.string ⟨#[]⟩, .int .i64 0, .int .i64 0, .int .i64 0, .slice none 0 0] 139) := hid (by
  have : Blk W2 (w.heap.size + 1) #[.string ⟨#[]⟩, .int .i64 0, .int .i64 0, .int .i64 0, .slice none 0 0] 139 := by rw [← s1, hW2]; exact Blk.new _ _ _
  exact this.ext (hx3.trans hx4))
 have HB2 : Hid (Blk W4 (w.heap.size + 1 + 1) (scells x av cv) 76) := hid (by
  have : Blk W3 (w.heap.size + 1 + 1) (scells x av cv) 76 := by rw [← s2, hW3]; exact Blk.new _ _ _
  exact this.ext hx4)
 have HB3 : Hid (Blk W4 (w.heap.size + 1 + 1 + 1) #[.string x.kind, .int .i64 x.y, .int .i64 x.x, .int .i64 (k : Int), .slice av x.args.length cv] 139) := hid (by rw [← s3, hW4]; exact Blk.new _ _ _)
 have HI := hid hI
 have HP := hid h
 rw [hW2, hW1] at e0 e1 e2 e3
 unfold pcells at e0 e1 e2 e3
 have HWe : Hid (W4 = (((w.alloc (.cells #[.slice a1 P.vars.length c1, .slice a2 P.funs.length c2, .slice (some y) P.stmts.length c3] 26)).alloc (.cells #[.string ⟨#[]⟩, .int .i64 0, .int .i64 0, .int .i64 0, .slice none 0 0] 139)).alloc (.cells #[.string x.kind, .int .i64 x.x, .int .i64 x.y, .slice av x.args.length cv] 76)).alloc (.cells #[.string x.kind, .int .i64 x.y, .int .i64 x.x, .int .i64 (k : Int), .slice av x.args.length cv] 139)) := hid (by rw [hW4, hW3, hW2, hW1]; rfl)
 have HI0 : Hid (IntsR w n0 (.slice av x.args.length cv) x.args) := hid (by
  obtain ⟨y', x', av', cv', hy', hxk2, f0, f1, f2, f3, hI'⟩ := HP.out.stmts.at hk
  obtain rfl := Option.some.inj hy'
  obtain rfl := Option.some.inj (hxk.symm.trans hxk2)
  have g3 := (hx1.trans hx2).cellx f3
  rw [hW2, hW1] at g3
  unfold pcells at g3
  rw [e3] at g3
  obtain ⟨rfl, rfl⟩ : av = av' ∧ cv = cv' := by simpa using g3
  exact hI')
 clear hW1 hW2 hW3 hW4 hx1 hx2 hx3 hx4 s1 s2 s3 hxk hxk' hI h
 unfold pval
 have Hr : Hid (P.ruleR k x = ⟨bBase, x.x, x.y, k, []⟩) := hid (by unfold PP.ruleR; rw [hkx]; rfl)
 have hkk := hkx
 unfold PS.isK kAddr at hkk
 clear hkx
 clear HWe
 go_enter Tryz.func78, Tryz.ntmps78
 go_wp2
 obtain ⟨V, hV⟩ : ∃ V, V = (((w.alloc (.cells #[.slice a1 P.vars.length c1, .slice a2 P.funs.length c2, .slice (some y) P.stmts.length c3] 26)).alloc (.cells #[.string ⟨#[98, 97, 115, 101]⟩, .int .i64 x.x, .int .i64 x.y, .int .i64 (k : Int), .slice none 0 0] 139)).alloc (.cells #[.string x.kind, .int .i64 x.x, .int .i64 x.y, .slice av x.args.length cv] 76)).alloc (.cells #[.string ⟨#[98, 97, 115, 101]⟩, .int .i64 x.x, .int .i64 x.y, .int .i64 (k : Int), .slice none 0 0] 139) := ⟨_, rfl⟩
 have hxV : Ext w V := by rw [hV]; exact ((((Ext.refl _).alloc _).alloc _).alloc _).alloc _
 have HB9 : Blk V (w.heap.size + 1) #[.string ⟨#[98, 97, 115, 101]⟩, .int .i64 x.x, .int .i64 x.y, .int .i64 (k : Int), .slice none 0 0] 139 := by
  rw [hV]
  have := ((Blk.new (w.alloc (.cells #[.slice a1 P.vars.length c1, .slice a2 P.funs.length c2, .slice (some y) P.stmts.length c3] 26)) #[.string ⟨#[98, 97, 115, 101]⟩, .int .i64 x.x, .int .i64 x.y, .int .i64 (k : Int), .slice none 0 0] 139).alloc (.cells #[.string x.kind, .int .i64 x.x, .int .i64 x.y, .slice av x.args.length cv] 76)).alloc (.cells #[.string ⟨#[98, 97, 115, 101]⟩, .int .i64 x.x, .int .i64 x.y, .int .i64 (k : Int), .slice none 0 0] 139)
  rwa [heap_size_alloc] at this
 rw [← hV]
 exact bodyPost_ret (v := .agg #[.string ⟨#[98, 97, 115, 101]⟩, .int .i64 x.x, .int .i64 x.y, .int .i64 (k : Int), .slice none 0 0]) (by simp [results, Tryz.results78, go_sem, HB9.av 0 rfl, HB9.av 1 rfl, HB9.av 2 rfl, HB9.av 3 rfl, HB9.av 4 rfl]) rfl ⟨_, by rw [Hr.out]; rfl, by rw [Hr.out]; exact intsR_nil _ _, hxV⟩
set_option maxRecDepth 100000 in
set_option maxHeartbeats 6400000 in
theorem rruleof_rest (a1 a2 a3 : Option Addr) (c1 c2 c3 : Nat) (P : PP) (k : Nat) (x : PS) (hxk : P.stmts[k]? = some x) (w : World) (n0 : Nat) (h : ProgR w n0 (.slice a1 P.vars.length c1) (.slice a2 P.funs.length c2) (.slice a3 P.stmts.length c3) P) (hf1 : P.vars.length ≤ 1000) (hf3 : P.stmts.length ≤ 1000) (hkx : x.isK kAddr = false ∧ x.isK kNew = false ∧ x.isK kFun = false)  :
  Calls Tryz.prog 78 #[pval a1 a2 a3 c1 c2 c3 P, .int .i64 (k : Int)] w fun e w' => ∃ av, e = .returned ((P.ruleR k x).val av) ∧ IntsR w n0 av (P.ruleR k x).args ∧ Ext w w' := by
 obtain ⟨W1, hW1⟩ : ∃ W1, W1 = w.alloc (.cells (pcells a1 a2 a3 c1 c2 c3 P) 26) := ⟨_, rfl⟩
 have hx1 : Ext w W1 := by rw [hW1]; exact (Ext.refl _).alloc _
 obtain ⟨W2, hW2⟩ : ∃ W2, W2 = W1.alloc (.cells #[.string ⟨#[]⟩, .int .i64 0, .int .i64 0, .int .i64 0, .slice none 0 0] 139) := ⟨_, rfl⟩
 have hx2 : Ext W1 W2 := by rw [hW2]; exact (Ext.refl _).alloc _
 have hk : k < P.stmts.length := by
  rcases Nat.lt_or_ge k P.stmts.length with h | h
  ·exact h
  ·rw [List.getElem?_eq_none h] at hxk; cases hxk
 have hml := h.stmts.len
 obtain ⟨y, x', av, cv, rfl, hxk', e0, e1, e2, e3, hI⟩ := (h.ext (hx1.trans hx2)).stmts.at hk
 obtain rfl := Option.some.inj (hxk.symm.trans hxk')
 obtain ⟨W3, hW3⟩ : ∃ W3, W3 = W2.alloc (.cells (scells x av cv) 76) := ⟨_, rfl⟩
 have hx3 : Ext W2 W3 := by rw [hW3]; exact (Ext.refl _).alloc _
 obtain ⟨W4, hW4⟩ : ∃ W4, W4 = W3.alloc (.cells #[.string x.kind, .int .i64 x.y, .int .i64 x.x, .int .i64 (k : Int), .slice av x.args.length cv] 139) := ⟨_, rfl⟩
 have hx4 : Ext W3 W4 := by rw [hW4]; exact (Ext.refl _).alloc _
 have s1 : W1.heap.size = w.heap.size + 1 := by rw [hW1, heap_size_alloc]
 have s2 : W2.heap.size = w.heap.size + 1 + 1 := by rw [hW2, heap_size_alloc, s1]
 have s3 : W3.heap.size = w.heap.size + 1 + 1 + 1 := by rw [hW3, heap_size_alloc, s2]
 have HX := hid (((hx1.trans hx2).trans hx3).trans hx4)
 have HB0 : Hid (Blk W4 w.heap.size (pcells a1 a2 (some y) c1 c2 c3 P) 26) := hid (by
  have : Blk W1 w.heap.size (pcells a1 a2 (some y) c1 c2 c3 P) 26 := by rw [hW1]; exact Blk.new _ _ _
  exact this.ext ((hx2.trans hx3).trans hx4))
 have HB1 : Hid (Blk W4 (w.heap.size + 1) #[.string ⟨#[]⟩, .int .i64 0, .int .i64 0, .int .i64 0, .slice none 0 0] 139) := hid (by
  have : Blk W2 (w.heap.size + 1) #[.string ⟨#[]⟩, .int .i64 0, .int .i64 0, .int .i64 0, .slice none 0 0] 139 := by rw [← s1, hW2]; exact Blk.new _ _ _
  exact this.ext (hx3.trans hx4))
 have HB2 : Hid (Blk W4 (w.heap.size + 1 + 1) (scells x av cv) 76) := hid (by
  have : Blk W3 (w.heap.size + 1 + 1) (scells x av cv) 76 := by rw [← s2, hW3]; exact Blk.new _ _ _
  exact this.ext hx4)
 have HB3 : Hid (Blk W4 (w.heap.size + 1 + 1 + 1) #[.string x.kind, .int .i64 x.y, .int .i64 x.x, .int .i64 (k : Int), .slice av x.args.length cv] 139) := hid (by rw [← s3, hW4]; exact Blk.new _ _ _)
 have HI := hid hI
 have HP := hid h
 rw [hW2, hW1] at e0 e1 e2 e3
 unfold pcells at e0 e1 e2 e3
 have HWe : Hid (W4 = (((w.alloc (.cells #[.slice a1 P.vars.length c1, .slice a2 P.funs.length c2, .slice (some y) P.stmts.length c3] 26)).alloc (.cells #[.string ⟨#[]⟩, .int .i64 0, .int .i64 0, .int .i64 0, .slice none 0 0] 139)).alloc (.cells #[.string x.kind, .int .i64 x.x, .int .i64 x.y, .slice av x.args.length cv] 76)).alloc (.cells #[.string x.kind, .int .i64 x.y, .int .i64 x.x, .int .i64 (k : Int), .slice av x.args.length cv] 139)) := hid (by rw [hW4, hW3, hW2, hW1]; rfl)
 have HI0 : Hid (IntsR w n0 (.slice av x.args.length cv) x.args) := hid (by
  obtain ⟨y', x', av', cv', hy', hxk2, f0, f1, f2, f3, hI'⟩ := HP.out.stmts.at hk
  obtain rfl := Option.some.inj hy'
  obtain rfl := Option.some.inj (hxk.symm.trans hxk2)
  have g3 := (hx1.trans hx2).cellx f3
  rw [hW2, hW1] at g3
  unfold pcells at g3
  rw [e3] at g3
  obtain ⟨rfl, rfl⟩ : av = av' ∧ cv = cv' := by simpa using g3
  exact hI')
 clear hW1 hW2 hW3 hW4 hx1 hx2 hx3 hx4 s1 s2 s3 hxk hxk' hI h
 unfold pval
 obtain ⟨g1, g2, g3⟩ := hkx
 have Hr : Hid (P.ruleR k x = ⟨x.kind, x.y, x.x, k, x.args⟩) := hid (by unfold PP.ruleR; rw [g1, g2, g3]; rfl)
 have h1 : (x.kind.toList == [97, 100, 100, 114]) = false := g1
 have h5 : (x.kind.toList == [110, 101, 119]) = false := g2
 have h6 : (x.kind.toList == [102, 117, 110]) = false := g3
 clear g1 g2 g3
 clear HWe
 go_enter Tryz.func78, Tryz.ntmps78
 go_wp2
 obtain ⟨V, hV⟩ : ∃ V, V = (((w.alloc (.cells #[.slice a1 P.vars.length c1, .slice a2 P.funs.length c2, .slice (some y) P.stmts.length c3] 26)).alloc (.cells #[.string x.kind, .int .i64 x.y, .int .i64 x.x, .int .i64 (k : Int), .slice av x.args.length cv] 139)).alloc (.cells #[.string x.kind, .int .i64 x.x, .int .i64 x.y, .slice av x.args.length cv] 76)).alloc (.cells #[.string x.kind, .int .i64 x.y, .int .i64 x.x, .int .i64 (k : Int), .slice av x.args.length cv] 139) := ⟨_, rfl⟩
 have hxV : Ext w V := by rw [hV]; exact ((((Ext.refl _).alloc _).alloc _).alloc _).alloc _
 have HB9 : Blk V (w.heap.size + 1) #[.string x.kind, .int .i64 x.y, .int .i64 x.x, .int .i64 (k : Int), .slice av x.args.length cv] 139 := by
  rw [hV]
  have := ((Blk.new (w.alloc (.cells #[.slice a1 P.vars.length c1, .slice a2 P.funs.length c2, .slice (some y) P.stmts.length c3] 26)) #[.string x.kind, .int .i64 x.y, .int .i64 x.x, .int .i64 (k : Int), .slice av x.args.length cv] 139).alloc (.cells #[.string x.kind, .int .i64 x.x, .int .i64 x.y, .slice av x.args.length cv] 76)).alloc (.cells #[.string x.kind, .int .i64 x.y, .int .i64 x.x, .int .i64 (k : Int), .slice av x.args.length cv] 139)
  rwa [heap_size_alloc] at this
 rw [← hV]
 exact bodyPost_ret (v := .agg #[.string x.kind, .int .i64 x.y, .int .i64 x.x, .int .i64 (k : Int), .slice av x.args.length cv]) (by simp [results, Tryz.results78, go_sem, HB9.av 0 rfl, HB9.av 1 rfl, HB9.av 2 rfl, HB9.av 3 rfl, HB9.av 4 rfl]) rfl ⟨_, by rw [Hr.out]; rfl, by rw [Hr.out]; exact HI0.out, hxV⟩
set_option maxRecDepth 100000 in
set_option maxHeartbeats 6400000 in
theorem rruleof_new (a1 a2 a3 : Option Addr) (c1 c2 c3 : Nat) (P : PP) (k : Nat) (x : PS) (hxk : P.stmts[k]? = some x) (w : World) (n0 : Nat) (h : ProgR w n0 (.slice a1 P.vars.length c1) (.slice a2 P.funs.length c2) (.slice a3 P.stmts.length c3) P) (hf1 : P.vars.length ≤ 1000) (hf3 : P.stmts.length ≤ 1000) (hkx : x.isK kNew = true)  :
  Calls Tryz.prog 78 #[pval a1 a2 a3 c1 c2 c3 P, .int .i64 (k : Int)] w fun e w' => ∃ av, e = .returned ((P.ruleR k x).val av) ∧ IntsR w n0 av (P.ruleR k x).args ∧ Ext w w' := by
 have HPl := fun w1 (y : Ext w w1) => hid (rplaceof_any a1 a2 a3 c1 c2 c3 P (k : Int) w1 n0 (h.ext y) hf1 hf3)
 obtain ⟨W1, hW1⟩ : ∃ W1, W1 = w.alloc (.cells (pcells a1 a2 a3 c1 c2 c3 P) 26) := ⟨_, rfl⟩
 have hx1 : Ext w W1 := by rw [hW1]; exact (Ext.refl _).alloc _
 obtain ⟨W2, hW2⟩ : ∃ W2, W2 = W1.alloc (.cells #[.string ⟨#[]⟩, .int .i64 0, .int .i64 0, .int .i64 0, .slice none 0 0] 139) := ⟨_, rfl⟩
 have hx2 : Ext W1 W2 := by rw [hW2]; exact (Ext.refl _).alloc _
 have hk : k < P.stmts.length := by
  rcases Nat.lt_or_ge k P.stmts.length with h | h
  ·exact h
  ·rw [List.getElem?_eq_none h] at hxk; cases hxk
 have hml := h.stmts.len
 obtain ⟨y, x', av, cv, rfl, hxk', e0, e1, e2, e3, hI⟩ := (h.ext (hx1.trans hx2)).stmts.at hk
 obtain rfl := Option.some.inj (hxk.symm.trans hxk')
 obtain ⟨W3, hW3⟩ : ∃ W3, W3 = W2.alloc (.cells (scells x av cv) 76) := ⟨_, rfl⟩
 have hx3 : Ext W2 W3 := by rw [hW3]; exact (Ext.refl _).alloc _
 obtain ⟨W4, hW4⟩ : ∃ W4, W4 = W3.alloc (.cells #[.string x.kind, .int .i64 x.y, .int .i64 x.x, .int .i64 (k : Int), .slice av x.args.length cv] 139) := ⟨_, rfl⟩
 have hx4 : Ext W3 W4 := by rw [hW4]; exact (Ext.refl _).alloc _
 have s1 : W1.heap.size = w.heap.size + 1 := by rw [hW1, heap_size_alloc]
 have s2 : W2.heap.size = w.heap.size + 1 + 1 := by rw [hW2, heap_size_alloc, s1]
 have s3 : W3.heap.size = w.heap.size + 1 + 1 + 1 := by rw [hW3, heap_size_alloc, s2]
 have HX := hid (((hx1.trans hx2).trans hx3).trans hx4)
 have HB0 : Hid (Blk W4 w.heap.size (pcells a1 a2 (some y) c1 c2 c3 P) 26) := hid (by
  have : Blk W1 w.heap.size (pcells a1 a2 (some y) c1 c2 c3 P) 26 := by rw [hW1]; exact Blk.new _ _ _
  exact this.ext ((hx2.trans hx3).trans hx4))
 have HB1 : Hid (Blk W4 (w.heap.size + 1) #[.string ⟨#[]⟩, .int .i64 0, .int .i64 0, .int .i64 0, .slice none 0 0] 139) := hid (by
  have : Blk W2 (w.heap.size + 1) #[.string ⟨#[]⟩, .int .i64 0, .int .i64 0, .int .i64 0, .slice none 0 0] 139 := by rw [← s1, hW2]; exact Blk.new _ _ _
  exact this.ext (hx3.trans hx4))
 have HB2 : Hid (Blk W4 (w.heap.size + 1 + 1) (scells x av cv) 76) := hid (by
  have : Blk W3 (w.heap.size + 1 + 1) (scells x av cv) 76 := by rw [← s2, hW3]; exact Blk.new _ _ _
  exact this.ext hx4)
 have HB3 : Hid (Blk W4 (w.heap.size + 1 + 1 + 1) #[.string x.kind, .int .i64 x.y, .int .i64 x.x, .int .i64 (k : Int), .slice av x.args.length cv] 139) := hid (by rw [← s3, hW4]; exact Blk.new _ _ _)
 have HI := hid hI
 have HP := hid h
 rw [hW2, hW1] at e0 e1 e2 e3
 unfold pcells at e0 e1 e2 e3
 have HWe : Hid (W4 = (((w.alloc (.cells #[.slice a1 P.vars.length c1, .slice a2 P.funs.length c2, .slice (some y) P.stmts.length c3] 26)).alloc (.cells #[.string ⟨#[]⟩, .int .i64 0, .int .i64 0, .int .i64 0, .slice none 0 0] 139)).alloc (.cells #[.string x.kind, .int .i64 x.x, .int .i64 x.y, .slice av x.args.length cv] 76)).alloc (.cells #[.string x.kind, .int .i64 x.y, .int .i64 x.x, .int .i64 (k : Int), .slice av x.args.length cv] 139)) := hid (by rw [hW4, hW3, hW2, hW1]; rfl)
 have HI0 : Hid (IntsR w n0 (.slice av x.args.length cv) x.args) := hid (by
  obtain ⟨y', x', av', cv', hy', hxk2, f0, f1, f2, f3, hI'⟩ := HP.out.stmts.at hk
  obtain rfl := Option.some.inj hy'
  obtain rfl := Option.some.inj (hxk.symm.trans hxk2)
  have g3 := (hx1.trans hx2).cellx f3
  rw [hW2, hW1] at g3
  unfold pcells at g3
  rw [e3] at g3
  obtain ⟨rfl, rfl⟩ : av = av' ∧ cv = cv' := by simpa using g3
  exact hI')
 clear hW1 hW2 hW3 hW4 hx1 hx2 hx3 hx4 s1 s2 s3 hxk hxk' hI h
 unfold pval
 unfold pval at HPl
 have h1 : (x.kind.toList == [97, 100, 100, 114]) = false := isK_ne hkx (k' := kAddr) rfl
 have hkk := hkx
 unfold PS.isK kNew at hkk
 have Hr : Hid (P.ruleR k x = ⟨bBase, x.x, P.placeV k, k, []⟩) := hid (by unfold PP.ruleR; rw [isK_ne hkx (k' := kAddr) rfl, hkx]; rfl)
 clear hkx
 have x0 := Ext.refl W4
 have m0 := (HB2.out.ext x0).kc (X := fun _ => False) (fun e => e) 0 rfl
 have m1 := (HB2.out.ext x0).kc (X := fun _ => False) (fun e => e) 1 rfl
 have m2 := (HB2.out.ext x0).kc (X := fun _ => False) (fun e => e) 2 rfl
 have m3 := (HB2.out.ext x0).kc (X := fun _ => False) (fun e => e) 3 rfl
 have d0 := (HB0.out.ext x0).kc (X := fun _ => False) (fun e => e) 0 rfl
 have d1 := (HB0.out.ext x0).kc (X := fun _ => False) (fun e => e) 1 rfl
 have d2 := (HB0.out.ext x0).kc (X := fun _ => False) (fun e => e) 2 rfl
 simp only [pcells, scells, qA0, qA1, qA2] at m0 m1 m2 m3 d0 d1 d2
 clear x0
 go_enter Tryz.func78, Tryz.ntmps78
 go_wp2
 rw [← HWe.out]
 refine wp_flowT (fun _ => False) (by kernel_rfl) (by kernel_rfl) ?_
 repeat (apply FlowT.d; (intro w1 hk; unfold does; go_simp; (try go_ints); (first | exact DetR.mk | (simp only [↓IntWalk.iteOmega, Oper.doesUpon_value]; exact DetR.mk) | (simp only [↓IntWalk.iteOmega]; go_simp; (try go_ints); exact DetR.mk))); simp only [Act.put, qS0, qS1, qS2])
 apply FlowT.d
 ·intro w1 hk
  unfold does
  go_simp
  exact CallR.det ((HPl w1 (HX.out.trans hk.ext)).out)
 simp only [Act.put, qS0, qS1, qS2]
 repeat (apply FlowT.d; (intro w1 hk; unfold does; go_simp; (try go_ints); (first | exact DetR.mk | (simp only [↓IntWalk.iteOmega, Oper.doesUpon_value]; exact DetR.mk) | (simp only [↓IntWalk.iteOmega]; go_simp; (try go_ints); exact DetR.mk))); simp only [Act.put, qS0, qS1, qS2])
 refine FlowT.last (fun _ w' => Blk w' (w.heap.size + 1 + 1 + 1) #[.string ⟨#[98, 97, 115, 101]⟩, .int .i64 x.x, .int .i64 (P.placeV k), .int .i64 (k : Int), .slice none 0 0] 139 ∧ Blk w' (w.heap.size + 1) #[.string ⟨#[]⟩, .int .i64 0, .int .i64 0, .int .i64 0, .slice none 0 0] 139 ∧ Ext w w') 7 rfl (by kernel_rfl) (by kernel_rfl) (fun w1 hC hk => ?_) (fun _ w2 hR => ?_)
 ·have hB := HB3.out.ext hC
  have c0 := hB.av 0 rfl
  have c1 := hB.av 1 rfl
  have c2 := hB.av 2 rfl
  have c3 := hB.av 3 rfl
  have c4 := hB.av 4 rfl
  have f0 := hB.free
  have hZ := HB1.out.ext hC
  unfold does
  go_simp
  exact ⟨store5 hB, hZ.keep (store5_keep _ _ _ _ _ _ _) (fun e => by omega), Keep.new (HX.out.trans hC) (store5_keep _ _ _ _ _ _ _) (fun b hb => by omega)⟩
 obtain ⟨hB, hZ, hxw⟩ := hR
 simp only [Act.put]
 have Hxw := hid hxw
 have HZ := hid hZ
 have c0 := hB.av 0 rfl
 have c1 := hB.av 1 rfl
 have c2 := hB.av 2 rfl
 have c3 := hB.av 3 rfl
 have c4 := hB.av 4 rfl
 have z0 := hZ.av 0 rfl
 have z1 := hZ.av 1 rfl
 have z2 := hZ.av 2 rfl
 have z3 := hZ.av 3 rfl
 have z4 := hZ.av 4 rfl
 have f0 := hZ.free
 simp only [qA0, qA1, qA2] at c0 c1 c2 c3 c4 z0 z1 z2 z3 z4
 clear hB hZ hxw m0 m1 m2 m3 d0 d1 d2
 go_wp2
 have h9 := store5 (b0 := .string ⟨#[98, 97, 115, 101]⟩) (b1 := .int .i64 x.x) (b2 := .int .i64 (P.placeV k)) (b3 := .int .i64 (k : Int)) (b4 := .slice none 0 0) HZ.out
 have x9 := Keep.new Hxw.out (store5_keep w2 (w.heap.size + 1) (.string ⟨#[98, 97, 115, 101]⟩) (.int .i64 x.x) (.int .i64 (P.placeV k)) (.int .i64 (k : Int)) (.slice none 0 0)) (fun b hb => by omega)
 exact bodyPost_ret (v := .agg #[.string ⟨#[98, 97, 115, 101]⟩, .int .i64 x.x, .int .i64 (P.placeV k), .int .i64 (k : Int), .slice none 0 0]) (by simp [results, Tryz.results78, go_sem, h9.av 0 rfl, h9.av 1 rfl, h9.av 2 rfl, h9.av 3 rfl, h9.av 4 rfl]) rfl ⟨_, by rw [Hr.out]; rfl, by rw [Hr.out]; exact intsR_nil _ _, x9⟩
set_option maxRecDepth 100000 in
set_option maxHeartbeats 6400000 in
theorem rruleof_fun (a1 a2 a3 : Option Addr) (c1 c2 c3 : Nat) (P : PP) (k : Nat) (x : PS) (hxk : P.stmts[k]? = some x) (w : World) (n0 : Nat) (h : ProgR w n0 (.slice a1 P.vars.length c1) (.slice a2 P.funs.length c2) (.slice a3 P.stmts.length c3) P) (hf1 : P.vars.length ≤ 1000) (hf3 : P.stmts.length ≤ 1000) (hkx : x.isK kFun = true) (hyy : 0 ≤ x.y ∧ x.y ≤ 100000) :
  Calls Tryz.prog 78 #[pval a1 a2 a3 c1 c2 c3 P, .int .i64 (k : Int)] w fun e w' => ∃ av, e = .returned ((P.ruleR k x).val av) ∧ IntsR w n0 av (P.ruleR k x).args ∧ Ext w w' := by
 have HNo := fun w1 (y : Ext w w1) => hid (rnodesof_any a1 a2 a3 c1 c2 c3 P w1 n0 (h.ext y) hf1 hf3)
 have hnl := P.nodesV_le2
 obtain ⟨W1, hW1⟩ : ∃ W1, W1 = w.alloc (.cells (pcells a1 a2 a3 c1 c2 c3 P) 26) := ⟨_, rfl⟩
 have hx1 : Ext w W1 := by rw [hW1]; exact (Ext.refl _).alloc _
 obtain ⟨W2, hW2⟩ : ∃ W2, W2 = W1.alloc (.cells #[.string ⟨#[]⟩, .int .i64 0, .int .i64 0, .int .i64 0, .slice none 0 0] 139) := ⟨_, rfl⟩
 have hx2 : Ext W1 W2 := by rw [hW2]; exact (Ext.refl _).alloc _
 have hk : k < P.stmts.length := by
  rcases Nat.lt_or_ge k P.stmts.length with h | h
  ·exact h
  ·rw [List.getElem?_eq_none h] at hxk; cases hxk
 have hml := h.stmts.len
 obtain ⟨y, x', av, cv, rfl, hxk', e0, e1, e2, e3, hI⟩ := (h.ext (hx1.trans hx2)).stmts.at hk
 obtain rfl := Option.some.inj (hxk.symm.trans hxk')
 obtain ⟨W3, hW3⟩ : ∃ W3, W3 = W2.alloc (.cells (scells x av cv) 76) := ⟨_, rfl⟩
 have hx3 : Ext W2 W3 := by rw [hW3]; exact (Ext.refl _).alloc _
 obtain ⟨W4, hW4⟩ : ∃ W4, W4 = W3.alloc (.cells #[.string x.kind, .int .i64 x.y, .int .i64 x.x, .int .i64 (k : Int), .slice av x.args.length cv] 139) := ⟨_, rfl⟩
 have hx4 : Ext W3 W4 := by rw [hW4]; exact (Ext.refl _).alloc _
 have s1 : W1.heap.size = w.heap.size + 1 := by rw [hW1, heap_size_alloc]
 have s2 : W2.heap.size = w.heap.size + 1 + 1 := by rw [hW2, heap_size_alloc, s1]
 have s3 : W3.heap.size = w.heap.size + 1 + 1 + 1 := by rw [hW3, heap_size_alloc, s2]
 have HX := hid (((hx1.trans hx2).trans hx3).trans hx4)
 have HB0 : Hid (Blk W4 w.heap.size (pcells a1 a2 (some y) c1 c2 c3 P) 26) := hid (by
  have : Blk W1 w.heap.size (pcells a1 a2 (some y) c1 c2 c3 P) 26 := by rw [hW1]; exact Blk.new _ _ _
  exact this.ext ((hx2.trans hx3).trans hx4))
 have HB1 : Hid (Blk W4 (w.heap.size + 1) #[.string ⟨#[]⟩, .int .i64 0, .int .i64 0, .int .i64 0, .slice none 0 0] 139) := hid (by
  have : Blk W2 (w.heap.size + 1) #[.string ⟨#[]⟩, .int .i64 0, .int .i64 0, .int .i64 0, .slice none 0 0] 139 := by rw [← s1, hW2]; exact Blk.new _ _ _
  exact this.ext (hx3.trans hx4))
 have HB2 : Hid (Blk W4 (w.heap.size + 1 + 1) (scells x av cv) 76) := hid (by
  have : Blk W3 (w.heap.size + 1 + 1) (scells x av cv) 76 := by rw [← s2, hW3]; exact Blk.new _ _ _
  exact this.ext hx4)
 have HB3 : Hid (Blk W4 (w.heap.size + 1 + 1 + 1) #[.string x.kind, .int .i64 x.y, .int .i64 x.x, .int .i64 (k : Int), .slice av x.args.length cv] 139) := hid (by rw [← s3, hW4]; exact Blk.new _ _ _)
 have HI := hid hI
 have HP := hid h
 rw [hW2, hW1] at e0 e1 e2 e3
 unfold pcells at e0 e1 e2 e3
 have HWe : Hid (W4 = (((w.alloc (.cells #[.slice a1 P.vars.length c1, .slice a2 P.funs.length c2, .slice (some y) P.stmts.length c3] 26)).alloc (.cells #[.string ⟨#[]⟩, .int .i64 0, .int .i64 0, .int .i64 0, .slice none 0 0] 139)).alloc (.cells #[.string x.kind, .int .i64 x.x, .int .i64 x.y, .slice av x.args.length cv] 76)).alloc (.cells #[.string x.kind, .int .i64 x.y, .int .i64 x.x, .int .i64 (k : Int), .slice av x.args.length cv] 139)) := hid (by rw [hW4, hW3, hW2, hW1]; rfl)
 have HI0 : Hid (IntsR w n0 (.slice av x.args.length cv) x.args) := hid (by
  obtain ⟨y', x', av', cv', hy', hxk2, f0, f1, f2, f3, hI'⟩ := HP.out.stmts.at hk
  obtain rfl := Option.some.inj hy'
  obtain rfl := Option.some.inj (hxk.symm.trans hxk2)
  have g3 := (hx1.trans hx2).cellx f3
  rw [hW2, hW1] at g3
  unfold pcells at g3
  rw [e3] at g3
  obtain ⟨rfl, rfl⟩ : av = av' ∧ cv = cv' := by simpa using g3
  exact hI')
 clear hW1 hW2 hW3 hW4 hx1 hx2 hx3 hx4 s1 s2 s3 hxk hxk' hI h
 unfold pval
 unfold pval at HNo
 have h1 : (x.kind.toList == [97, 100, 100, 114]) = false := isK_ne hkx (k' := kAddr) rfl
 have h5 : (x.kind.toList == [110, 101, 119]) = false := isK_ne hkx (k' := kNew) rfl
 have hkk := hkx
 unfold PS.isK kFun at hkk
 obtain ⟨N, hN⟩ : ∃ N, N = P.nodesV := ⟨_, rfl⟩
 have Hr : Hid (P.ruleR k x = ⟨bBase, x.x, (N : Int) + x.y, k, []⟩) := hid (by unfold PP.ruleR; rw [isK_ne hkx (k' := kAddr) rfl, isK_ne hkx (k' := kNew) rfl, hkx, hN]; rfl)
 rw [← hN] at HNo hnl
 obtain ⟨hg1, hg2⟩ := hyy
 clear hkx hN
 have x0 := Ext.refl W4
 have m0 := (HB2.out.ext x0).kc (X := fun _ => False) (fun e => e) 0 rfl
 have m1 := (HB2.out.ext x0).kc (X := fun _ => False) (fun e => e) 1 rfl
 have m2 := (HB2.out.ext x0).kc (X := fun _ => False) (fun e => e) 2 rfl
 have m3 := (HB2.out.ext x0).kc (X := fun _ => False) (fun e => e) 3 rfl
 have d0 := (HB0.out.ext x0).kc (X := fun _ => False) (fun e => e) 0 rfl
 have d1 := (HB0.out.ext x0).kc (X := fun _ => False) (fun e => e) 1 rfl
 have d2 := (HB0.out.ext x0).kc (X := fun _ => False) (fun e => e) 2 rfl
 simp only [pcells, scells, qA0, qA1, qA2] at m0 m1 m2 m3 d0 d1 d2
 clear x0
 go_enter Tryz.func78, Tryz.ntmps78
 go_wp2
 rw [← HWe.out]
 refine wp_flowT (fun _ => False) (by kernel_rfl) (by kernel_rfl) ?_
 repeat (apply FlowT.d; (intro w1 hk; unfold does; go_simp; (try go_ints); (first | exact DetR.mk | (simp only [↓IntWalk.iteOmega, Oper.doesUpon_value]; exact DetR.mk) | (simp only [↓IntWalk.iteOmega]; go_simp; (try go_ints); exact DetR.mk))); simp only [Act.put, qS0, qS1, qS2])
 apply FlowT.d
 ·intro w1 hk
  unfold does
  go_simp
  exact CallR.det ((HNo w1 (HX.out.trans hk.ext)).out)
 simp only [Act.put, qS0, qS1, qS2]
 repeat (apply FlowT.d; (intro w1 hk; unfold does; go_simp; (try go_ints); (first | exact DetR.mk | (simp only [↓IntWalk.iteOmega, Oper.doesUpon_value]; exact DetR.mk) | (simp only [↓IntWalk.iteOmega]; go_simp; (try go_ints); exact DetR.mk))); simp only [Act.put, qS0, qS1, qS2])
 refine FlowT.last (fun _ w' => Blk w' (w.heap.size + 1 + 1 + 1) #[.string ⟨#[98, 97, 115, 101]⟩, .int .i64 x.x, .int .i64 ((N : Int) + x.y), .int .i64 (k : Int), .slice none 0 0] 139 ∧ Blk w' (w.heap.size + 1) #[.string ⟨#[]⟩, .int .i64 0, .int .i64 0, .int .i64 0, .slice none 0 0] 139 ∧ Ext w w') 9 rfl (by kernel_rfl) (by kernel_rfl) (fun w1 hC hk => ?_) (fun _ w2 hR => ?_)
 ·have hB := HB3.out.ext hC
  have c0 := hB.av 0 rfl
  have c1 := hB.av 1 rfl
  have c2 := hB.av 2 rfl
  have c3 := hB.av 3 rfl
  have c4 := hB.av 4 rfl
  have f0 := hB.free
  have hZ := HB1.out.ext hC
  unfold does
  go_simp
  exact ⟨store5 hB, hZ.keep (store5_keep _ _ _ _ _ _ _) (fun e => by omega), Keep.new (HX.out.trans hC) (store5_keep _ _ _ _ _ _ _) (fun b hb => by omega)⟩
 obtain ⟨hB, hZ, hxw⟩ := hR
 simp only [Act.put]
 have Hxw := hid hxw
 have HZ := hid hZ
 have c0 := hB.av 0 rfl
 have c1 := hB.av 1 rfl
 have c2 := hB.av 2 rfl
 have c3 := hB.av 3 rfl
 have c4 := hB.av 4 rfl
 have z0 := hZ.av 0 rfl
 have z1 := hZ.av 1 rfl
 have z2 := hZ.av 2 rfl
 have z3 := hZ.av 3 rfl
 have z4 := hZ.av 4 rfl
 have f0 := hZ.free
 simp only [qA0, qA1, qA2] at c0 c1 c2 c3 c4 z0 z1 z2 z3 z4
 clear hB hZ hxw m0 m1 m2 m3 d0 d1 d2
 go_wp2
 have h9 := store5 (b0 := .string ⟨#[98, 97, 115, 101]⟩) (b1 := .int .i64 x.x) (b2 := .int .i64 ((N : Int) + x.y)) (b3 := .int .i64 (k : Int)) (b4 := .slice none 0 0) HZ.out
 have x9 := Keep.new Hxw.out (store5_keep w2 (w.heap.size + 1) (.string ⟨#[98, 97, 115, 101]⟩) (.int .i64 x.x) (.int .i64 ((N : Int) + x.y)) (.int .i64 (k : Int)) (.slice none 0 0)) (fun b hb => by omega)
 exact bodyPost_ret (v := .agg #[.string ⟨#[98, 97, 115, 101]⟩, .int .i64 x.x, .int .i64 ((N : Int) + x.y), .int .i64 (k : Int), .slice none 0 0]) (by simp [results, Tryz.results78, go_sem, h9.av 0 rfl, h9.av 1 rfl, h9.av 2 rfl, h9.av 3 rfl, h9.av 4 rfl]) rfl ⟨_, by rw [Hr.out]; rfl, by rw [Hr.out]; exact intsR_nil _ _, x9⟩
theorem rruleof_any (a1 a2 a3 : Option Addr) (c1 c2 c3 : Nat) (P : PP) (k : Nat) (x : PS) (hxk : P.stmts[k]? = some x) (w : World) (n0 : Nat) (h : ProgR w n0 (.slice a1 P.vars.length c1) (.slice a2 P.funs.length c2) (.slice a3 P.stmts.length c3) P) (hw : P.Well) :
  Calls Tryz.prog 78 #[pval a1 a2 a3 c1 c2 c3 P, .int .i64 (k : Int)] w fun e w' => ∃ av, e = .returned ((P.ruleR k x).val av) ∧ IntsR w n0 av (P.ruleR k x).args ∧ Ext w w' := by
 have hk : k < P.stmts.length := by
  rcases Nat.lt_or_ge k P.stmts.length with h | h
  ·exact h
  ·rw [List.getElem?_eq_none h] at hxk; cases hxk
 have h0 := hw.2 k x hk hxk
 have hg := PP.good h0
 obtain ⟨f1, f2, f3⟩ := hw.few
 cases h1 : x.isK kAddr with
 | true =>
  have hy := hg.yv (isK_ne h1 (k' := kFun) rfl) (isK_ne h1 (k' := kNew) rfl)
  exact rruleof_addr a1 a2 a3 c1 c2 c3 P k x hxk w n0 h (by omega) (by omega) h1
 | false =>
  cases h2 : x.isK kNew with
  | true => exact rruleof_new a1 a2 a3 c1 c2 c3 P k x hxk w n0 h (by omega) (by omega) h2
  | false =>
   cases h3 : x.isK kFun with
   | true =>
    have hy := hg.yf h3
    exact rruleof_fun a1 a2 a3 c1 c2 c3 P k x hxk w n0 h (by omega) (by omega) h3 (by omega)
   | false => exact rruleof_rest a1 a2 a3 c1 c2 c3 P k x hxk w n0 h (by omega) (by omega) ⟨h1, h2, h3⟩
def PP.rulesRUp (P : PP) (n : Nat) : List RV := ((List.range n).map fun k => P.ruleR k (P.stAt k)).filter fun r => !(r.kind.toList == bBase.toList)
structure REdge (n : Nat) (r : RV) : Prop where
 kd : (r.kind.toList == kCopy) = true ∨ (r.kind.toList == kLoad) = true ∨ (r.kind.toList == kStore) = true ∨ (r.kind.toList == kCall) = true
 a : 0 ≤ r.a ∧ r.a < n
 b : 0 ≤ r.b ∧ r.b < n
def RERow (base : Nat) (w : World) (v : Value) (l : List (Int × Int)) : Prop := w.ownsRow base 135 2 v l.length (l.flatMap eCells)
theorem own_rr {w : World} {base g n cap : Nat} {t : TypeId} {rs : List R2} (h : w.ownsRow base t 5 (.slice (some ⟨g, 0, none⟩) n cap) n (rs.flatMap R2.cells)) {i : Nat} {x : R2} (hx : rs[i]? = some x) :
  w.cell? ⟨g, i * 5, none⟩ = some (.string x.r.kind) ∧ w.cell? ⟨g, i * 5 + 1, none⟩ = some (.int .i64 x.r.a) ∧ w.cell? ⟨g, i * 5 + 2, none⟩ = some (.int .i64 x.r.b) ∧ w.cell? ⟨g, i * 5 + 3, none⟩ = some (.int .i64 x.r.k) ∧ w.cell? ⟨g, i * 5 + 4, none⟩ = some x.v := by
 have c : ∀ j v, x.cells[j]? = some v → j < 5 → w.cell? ⟨g, i * 5 + j, none⟩ = some v := fun j v hv hj => own_get h _ ((fm_get R2.cells 5 R2.cells_len rs i j x hx hj).trans hv)
 exact ⟨c 0 _ rfl (by omega), c 1 _ rfl (by omega), c 2 _ rfl (by omega), c 3 _ rfl (by omega), c 4 _ rfl (by omega)⟩
theorem own_e2 {w : World} {base g n cap : Nat} {t : TypeId} {R : List (Int × Int)} (h : w.ownsRow base t 2 (.slice (some ⟨g, 0, none⟩) n cap) n (R.flatMap eCells)) {i : Nat} {x : Int × Int} (hx : R[i]? = some x) :
  w.cell? ⟨g, i * 2, none⟩ = some (.int .i64 x.1) ∧ w.cell? ⟨g, i * 2 + 1, none⟩ = some (.int .i64 x.2) := own_e h hx
theorem erow_one {w : World} {base : Nat} (hb : base ≤ w.heap.size) (e : Int × Int) : ERow base (w.alloc (.cells #[.int .i64 e.1, .int .i64 e.2] 62)) (.slice (some ⟨w.heap.size, 0, none⟩) 1 1) [e] :=
 ⟨by simp [eCells], .inr ⟨w.heap.size, 1, _, rfl, hb, heap_alloc_new w _, Nat.le_refl _, by simp only [maxLen]; omega, by simp, by simp [eCells]⟩⟩
set_option maxRecDepth 100000 in
set_option maxHeartbeats 3200000 in
theorem whypivot_out (P : PP) (l : List ST) (r : RV) (aa : Option Addr) (ca : Nat) (o : Int) (w : World) (G F : Nat → Prop) (g : Nat) (ad : Nat → Addr) {vr : Value} (hS : FindAt w G F g ad P vr l) (h0 : 0 ≤ o ∧ o < P.objectsV) (ha : IntsF w F (.slice aa r.args.length ca) r.args) (hkd : (r.kind.toList == [99, 97, 108, 108]) = false) (hout : (P.nodesV : Int) ≤ o) :
  Calls Tryz.prog 84 #[.pointer (some ⟨g, 0, none⟩), r.val (.slice aa r.args.length ca), .int .i64 o] w fun x w' => ∃ a c, x = .returned (.slice a (P.fires r o).length c) ∧ ERow w.heap.size w' (.slice a (P.fires r o).length c) (P.fires r o) ∧ Ext w w' := by
 obtain ⟨a1, a2, a3, c1, c2, c3, vl, m, f, h⟩ := hS
 have hw := h.pw.well
 obtain ⟨hn1, hn2⟩ := hw.nodes
 obtain ⟨W, hW⟩ : ∃ W, W = w.alloc (.cells #[.string r.kind, .int .i64 r.a, .int .i64 r.b, .int .i64 r.k, .slice aa r.args.length ca] 87) := ⟨_, rfl⟩
 have HX : Hid (Ext w W) := hid (by rw [hW]; exact (Ext.refl _).alloc _)
 have HBx : Hid (Blk W w.heap.size #[.string r.kind, .int .i64 r.a, .int .i64 r.b, .int .i64 r.k, .slice aa r.args.length ca] 87) := hid (by rw [hW]; exact Blk.new _ _ _)
 have HWe : Hid (W = w.alloc (.cells #[.string r.kind, .int .i64 r.a, .int .i64 r.b, .int .i64 r.k, .slice aa r.args.length ca] 87)) := hid hW
 have HS := hid (h.ext HX.out)
 have Hw := hid hw
 have HA := hid (ha.keep (HX.out.keep fun _ => False) (fun _ _ h => h) fun _ h => h)
 have al := ha.form
 have hal : (r.args.length : Int) ≤ 9223372036854775807 := by obtain ⟨a, cap, h1, h2, h3, _⟩ := al; omega
 have m0 := HBx.out.av 0 rfl
 have m1 := HBx.out.av 1 rfl
 have m2 := HBx.out.av 2 rfl
 have b0 := HS.out.blk.av 0 rfl
 have b1 := HS.out.blk.av 1 rfl
 have b2 := HS.out.blk.av 2 rfl
 simp only [qA0, qA1, qA2] at m0 m1 m2 b0 b1 b2
 rw [HWe.out] at m0 m1 m2 b0 b1 b2
 unfold RV.val
 clear h ha al hw hW
 have Hr : Hid (P.fires r o = []) := hid (by unfold PP.fires kCall; rw [hkd, cond_false, if_pos hout])
 rw [Hr.out]
 have HN := hid (prognodes_any a1 a2 a3 c1 c2 c3 P W W.heap.size ad HS.out.pw.pw.errs HS.out.pw.pw.prog HS.out.pw.pw.z1 HS.out.pw.pw.z2 HS.out.pw.pw.well)
 unfold pval at HN
 have Ho := hid h0
 clear h0
 go_enter Tryz.func84, Tryz.ntmps84
 go_wp2_with fail
 rw [← HWe.out]
 refine HN.out.mono ?_
 intro x w1 hx
 obtain ⟨rfl, hx1⟩ := hx
 have Hx1 := hid (HX.out.trans hx1)
 have HB1 := hid (HBx.out.ext hx1)
 clear HN hx1 m0 m1 m2 b0 b1 b2
 have m0 := HB1.out.av 0 rfl
 have m1 := HB1.out.av 1 rfl
 have m2 := HB1.out.av 2 rfl
 simp only [qA0, qA1, qA2] at m0 m1 m2
 go_wp2
 go_ret
 exact ⟨_, _, rfl, ERow.nil _ _, Hx1.out⟩
set_option maxRecDepth 100000 in
set_option maxHeartbeats 3200000 in
theorem whypivot_load (P : PP) (l : List ST) (r : RV) (aa : Option Addr) (ca : Nat) (o : Int) (w : World) (G F : Nat → Prop) (g : Nat) (ad : Nat → Addr) {vr : Value} (hS : FindAt w G F g ad P vr l) (h0 : 0 ≤ o ∧ o < P.objectsV) (ha : IntsF w F (.slice aa r.args.length ca) r.args) (hkd : (r.kind.toList == [99, 97, 108, 108]) = false) (hkl : (r.kind.toList == [108, 111, 97, 100]) = true) (hin : ¬ (P.nodesV : Int) ≤ o) :
  Calls Tryz.prog 84 #[.pointer (some ⟨g, 0, none⟩), r.val (.slice aa r.args.length ca), .int .i64 o] w fun x w' => ∃ a c, x = .returned (.slice a (P.fires r o).length c) ∧ ERow w.heap.size w' (.slice a (P.fires r o).length c) (P.fires r o) ∧ Ext w w' := by
 obtain ⟨a1, a2, a3, c1, c2, c3, vl, m, f, h⟩ := hS
 have hw := h.pw.well
 obtain ⟨hn1, hn2⟩ := hw.nodes
 obtain ⟨W, hW⟩ : ∃ W, W = w.alloc (.cells #[.string r.kind, .int .i64 r.a, .int .i64 r.b, .int .i64 r.k, .slice aa r.args.length ca] 87) := ⟨_, rfl⟩
 have HX : Hid (Ext w W) := hid (by rw [hW]; exact (Ext.refl _).alloc _)
 have HBx : Hid (Blk W w.heap.size #[.string r.kind, .int .i64 r.a, .int .i64 r.b, .int .i64 r.k, .slice aa r.args.length ca] 87) := hid (by rw [hW]; exact Blk.new _ _ _)
 have HWe : Hid (W = w.alloc (.cells #[.string r.kind, .int .i64 r.a, .int .i64 r.b, .int .i64 r.k, .slice aa r.args.length ca] 87)) := hid hW
 have HS := hid (h.ext HX.out)
 have Hw := hid hw
 have HA := hid (ha.keep (HX.out.keep fun _ => False) (fun _ _ h => h) fun _ h => h)
 have al := ha.form
 have hal : (r.args.length : Int) ≤ 9223372036854775807 := by obtain ⟨a, cap, h1, h2, h3, _⟩ := al; omega
 have m0 := HBx.out.av 0 rfl
 have m1 := HBx.out.av 1 rfl
 have m2 := HBx.out.av 2 rfl
 have b0 := HS.out.blk.av 0 rfl
 have b1 := HS.out.blk.av 1 rfl
 have b2 := HS.out.blk.av 2 rfl
 simp only [qA0, qA1, qA2] at m0 m1 m2 b0 b1 b2
 rw [HWe.out] at m0 m1 m2 b0 b1 b2
 unfold RV.val
 clear h ha al hw hW
 have Hr : Hid (P.fires r o = [(o, r.b)]) := hid (by unfold PP.fires kCall kLoad; rw [hkd, cond_false, if_neg hin, hkl]; rfl)
 rw [Hr.out]
 have HN := hid (prognodes_any a1 a2 a3 c1 c2 c3 P W W.heap.size ad HS.out.pw.pw.errs HS.out.pw.pw.prog HS.out.pw.pw.z1 HS.out.pw.pw.z2 HS.out.pw.pw.well)
 unfold pval at HN
 have Ho := hid h0
 clear h0
 go_enter Tryz.func84, Tryz.ntmps84
 go_wp2_with fail
 rw [← HWe.out]
 refine HN.out.mono ?_
 intro x w1 hx
 obtain ⟨rfl, hx1⟩ := hx
 have Hx1 := hid (HX.out.trans hx1)
 have HB1 := hid (HBx.out.ext hx1)
 clear HN hx1 m0 m1 m2 b0 b1 b2
 have m0 := HB1.out.av 0 rfl
 have m1 := HB1.out.av 1 rfl
 have m2 := HB1.out.av 2 rfl
 simp only [qA0, qA1, qA2] at m0 m1 m2
 go_wp2
 go_ret
 exact ⟨_, _, rfl, erow_one Hx1.out.size (o, r.b), Hx1.out.alloc _⟩
set_option maxRecDepth 100000 in
set_option maxHeartbeats 3200000 in
theorem whypivot_store (P : PP) (l : List ST) (r : RV) (aa : Option Addr) (ca : Nat) (o : Int) (w : World) (G F : Nat → Prop) (g : Nat) (ad : Nat → Addr) {vr : Value} (hS : FindAt w G F g ad P vr l) (h0 : 0 ≤ o ∧ o < P.objectsV) (ha : IntsF w F (.slice aa r.args.length ca) r.args) (hkd : (r.kind.toList == [99, 97, 108, 108]) = false) (hkl : (r.kind.toList == [108, 111, 97, 100]) = false) (hin : ¬ (P.nodesV : Int) ≤ o) :
  Calls Tryz.prog 84 #[.pointer (some ⟨g, 0, none⟩), r.val (.slice aa r.args.length ca), .int .i64 o] w fun x w' => ∃ a c, x = .returned (.slice a (P.fires r o).length c) ∧ ERow w.heap.size w' (.slice a (P.fires r o).length c) (P.fires r o) ∧ Ext w w' := by
 obtain ⟨a1, a2, a3, c1, c2, c3, vl, m, f, h⟩ := hS
 have hw := h.pw.well
 obtain ⟨hn1, hn2⟩ := hw.nodes
 obtain ⟨W, hW⟩ : ∃ W, W = w.alloc (.cells #[.string r.kind, .int .i64 r.a, .int .i64 r.b, .int .i64 r.k, .slice aa r.args.length ca] 87) := ⟨_, rfl⟩
 have HX : Hid (Ext w W) := hid (by rw [hW]; exact (Ext.refl _).alloc _)
 have HBx : Hid (Blk W w.heap.size #[.string r.kind, .int .i64 r.a, .int .i64 r.b, .int .i64 r.k, .slice aa r.args.length ca] 87) := hid (by rw [hW]; exact Blk.new _ _ _)
 have HWe : Hid (W = w.alloc (.cells #[.string r.kind, .int .i64 r.a, .int .i64 r.b, .int .i64 r.k, .slice aa r.args.length ca] 87)) := hid hW
 have HS := hid (h.ext HX.out)
 have Hw := hid hw
 have HA := hid (ha.keep (HX.out.keep fun _ => False) (fun _ _ h => h) fun _ h => h)
 have al := ha.form
 have hal : (r.args.length : Int) ≤ 9223372036854775807 := by obtain ⟨a, cap, h1, h2, h3, _⟩ := al; omega
 have m0 := HBx.out.av 0 rfl
 have m1 := HBx.out.av 1 rfl
 have m2 := HBx.out.av 2 rfl
 have b0 := HS.out.blk.av 0 rfl
 have b1 := HS.out.blk.av 1 rfl
 have b2 := HS.out.blk.av 2 rfl
 simp only [qA0, qA1, qA2] at m0 m1 m2 b0 b1 b2
 rw [HWe.out] at m0 m1 m2 b0 b1 b2
 unfold RV.val
 clear h ha al hw hW
 have Hr : Hid (P.fires r o = [(r.a, o)]) := hid (by unfold PP.fires kCall kLoad; rw [hkd, cond_false, if_neg hin, hkl]; rfl)
 rw [Hr.out]
 have HN := hid (prognodes_any a1 a2 a3 c1 c2 c3 P W W.heap.size ad HS.out.pw.pw.errs HS.out.pw.pw.prog HS.out.pw.pw.z1 HS.out.pw.pw.z2 HS.out.pw.pw.well)
 unfold pval at HN
 have Ho := hid h0
 clear h0
 go_enter Tryz.func84, Tryz.ntmps84
 go_wp2_with fail
 rw [← HWe.out]
 refine HN.out.mono ?_
 intro x w1 hx
 obtain ⟨rfl, hx1⟩ := hx
 have Hx1 := hid (HX.out.trans hx1)
 have HB1 := hid (HBx.out.ext hx1)
 clear HN hx1 m0 m1 m2 b0 b1 b2
 have m0 := HB1.out.av 0 rfl
 have m1 := HB1.out.av 1 rfl
 have m2 := HB1.out.av 2 rfl
 simp only [qA0, qA1, qA2] at m0 m1 m2
 go_wp2
 go_ret
 exact ⟨_, _, rfl, erow_one Hx1.out.size (r.a, o), Hx1.out.alloc _⟩
set_option maxRecDepth 100000 in
set_option maxHeartbeats 3200000 in
theorem whypivot_call (P : PP) (l : List ST) (r : RV) (aa : Option Addr) (ca : Nat) (o : Int) (w : World) (G F : Nat → Prop) (g : Nat) (ad : Nat → Addr) {vr : Value} (hS : FindAt w G F g ad P vr l) (h0 : 0 ≤ o ∧ o < P.objectsV) (ha : IntsF w F (.slice aa r.args.length ca) r.args) (hkd : (r.kind.toList == [99, 97, 108, 108]) = true) :
  Calls Tryz.prog 84 #[.pointer (some ⟨g, 0, none⟩), r.val (.slice aa r.args.length ca), .int .i64 o] w fun x w' => ∃ a c, x = .returned (.slice a (P.fires r o).length c) ∧ ERow w.heap.size w' (.slice a (P.fires r o).length c) (P.fires r o) ∧ Ext w w' := by
 obtain ⟨a1, a2, a3, c1, c2, c3, vl, m, f, h⟩ := hS
 have hw := h.pw.well
 obtain ⟨hn1, hn2⟩ := hw.nodes
 obtain ⟨W, hW⟩ : ∃ W, W = w.alloc (.cells #[.string r.kind, .int .i64 r.a, .int .i64 r.b, .int .i64 r.k, .slice aa r.args.length ca] 87) := ⟨_, rfl⟩
 have HX : Hid (Ext w W) := hid (by rw [hW]; exact (Ext.refl _).alloc _)
 have HBx : Hid (Blk W w.heap.size #[.string r.kind, .int .i64 r.a, .int .i64 r.b, .int .i64 r.k, .slice aa r.args.length ca] 87) := hid (by rw [hW]; exact Blk.new _ _ _)
 have HWe : Hid (W = w.alloc (.cells #[.string r.kind, .int .i64 r.a, .int .i64 r.b, .int .i64 r.k, .slice aa r.args.length ca] 87)) := hid hW
 have HS := hid (h.ext HX.out)
 have Hw := hid hw
 have HA := hid (ha.keep (HX.out.keep fun _ => False) (fun _ _ h => h) fun _ h => h)
 have al := ha.form
 have hal : (r.args.length : Int) ≤ 9223372036854775807 := by obtain ⟨a, cap, h1, h2, h3, _⟩ := al; omega
 have m0 := HBx.out.av 0 rfl
 have m1 := HBx.out.av 1 rfl
 have m2 := HBx.out.av 2 rfl
 have b0 := HS.out.blk.av 0 rfl
 have b1 := HS.out.blk.av 1 rfl
 have b2 := HS.out.blk.av 2 rfl
 simp only [qA0, qA1, qA2] at m0 m1 m2 b0 b1 b2
 rw [HWe.out] at m0 m1 m2 b0 b1 b2
 unfold RV.val
 clear h ha al hw hW
 have Hfr : Hid (P.fires r o = P.callsOf r o) := hid (by unfold PP.fires kCall; rw [hkd, cond_true])
 have HF := hid (progfun_any a1 a2 a3 c1 c2 c3 P o W W.heap.size ad HS.out.pw.pw (by have := hn2; omega))
 unfold pval at HF
 obtain ⟨Fn, hFn⟩ : ∃ Fn, Fn = P.funV o := ⟨_, rfl⟩
 rw [← hFn] at HF
 have HFe := hid hFn
 have HNo : Hid (¬ 0 ≤ Fn → P.fires r o = []) := hid fun hF0 => by
  rw [Hfr.out]
  unfold PP.callsOf
  rw [if_neg (by rw [← hFn]; exact hF0)]
 clear hFn
 generalize P.objectsV = OO at *
 go_enter Tryz.func84, Tryz.ntmps84
 go_wp2_with fail
 rw [← HWe.out]
 refine HF.out.mono ?_
 intro x w1 hx
 obtain ⟨rfl, hx1⟩ := hx
 have Hx1 := hid hx1
 have HS1 := hid (HS.out.ext hx1)
 have HBx1 := hid (HBx.out.ext hx1)
 have HA1 := hid (HA.out.keep (hx1.keep fun _ => False) (fun _ _ h => h) fun _ h => h)
 clear HF hx1 m0 m1 m2 b0 b1 b2
 by_cases hF0 : 0 ≤ Fn
 ·obtain ⟨N, rfl⟩ := Int.eq_ofNat_of_zero_le hF0
  have hN : N < P.funs.length := by have := funV_lt (P := P) (o := o) (by rw [← HFe.out]; exact hF0); rw [← HFe.out] at this; omega
  obtain ⟨yf, f, afp, cfp, hyf, hfk, e0, e1, e2, hIp⟩ := HS1.out.pw.pw.prog.funs.at hN
  subst hyf
  have hfm : f ∈ P.funs := List.mem_of_getElem? hfk
  have hq4 := called_few Hw.out hfm r
  have hpf := (PP.goodF (PP.funs_ok Hw.out.1) hfm).few
  obtain ⟨q, hq⟩ : ∃ q, q = calledV f r := ⟨_, rfl⟩
  have Hq : Hid (P.fires r o = q) := hid (by
   rw [Hfr.out]
   unfold PP.callsOf
   rw [if_pos (by rw [← HFe.out]; omega), ← HFe.out, hq]
   show calledV ((P.funs.getD N _)) r = _
   rw [List.getD_eq_getElem?_getD, hfk]; rfl)
  have hlt1 := HS1.out.flt
  have HCl := fun wx (x : Ext w1 wx) => hid (conscalled_any f r (.slice afp f.params.length cfp) (.slice aa r.args.length ca) wx w1.heap.size (hIp.old (x.old _)) ((HA1.out.toR hlt1).old (x.old _)) (by omega))
  rw [← hq] at HCl hq4
  unfold RV.val at HCl
  have f0 : ∀ wx, Keep (fun _ => False) w1 wx → wx.cell? (yf.add (N * 3)) = some (.string f.name) := fun wx kk => kk.ext.cellx e0
  have f1' : ∀ wx, Keep (fun _ => False) w1 wx → wx.cell? ⟨(yf.add (N * 3)).block, (yf.add (N * 3)).off + 1, none⟩ = some (.slice afp f.params.length cfp) := fun wx kk => kk.ext.cellx e1
  have f2 : ∀ wx, Keep (fun _ => False) w1 wx → wx.cell? ⟨(yf.add (N * 3)).block, (yf.add (N * 3)).off + 2, none⟩ = some (.int .i64 f.ret) := fun wx kk => kk.ext.cellx e2
  have b1 := HS1.out.blk.kc (X := fun _ => False) (fun e => e) 1 rfl
  have m0 := HBx1.out.kc (X := fun _ => False) (fun e => e) 0 rfl
  have m1' := HBx1.out.kc (X := fun _ => False) (fun e => e) 1 rfl
  have m2' := HBx1.out.kc (X := fun _ => False) (fun e => e) 2 rfl
  have m3 := HBx1.out.kc (X := fun _ => False) (fun e => e) 3 rfl
  have m4 := HBx1.out.kc (X := fun _ => False) (fun e => e) 4 rfl
  simp only [qA0, qA1, qA2] at b1 m0 m1' m2' m3 m4
  clear hfk e0 e1 e2 hIp hfm hq hlt1
  go_wp2
  refine wp_flow (fun _ => False) (by kernel_rfl) (by kernel_rfl) ?_
  apply Flow.d 0 _ rfl (by simp) (by kernel_rfl)
  ·intro w1 hk; unfold does; go_simp; (try go_ints); exact DetR.mk
  simp only [qA0, qA1, qA2, Act.put, qS0, qS1, qS2]
  apply Flow.d 1 _ rfl (by simp) (by kernel_rfl)
  ·intro w1 hk; unfold does; go_simp; (try go_ints); exact DetR.mk
  simp only [qA0, qA1, qA2, Act.put, qS0, qS1, qS2]
  apply Flow.d 2 _ rfl (by simp) (by kernel_rfl)
  ·intro w1 hk; unfold does; go_simp; (try go_ints); exact DetR.mk
  simp only [qA0, qA1, qA2, Act.put, qS0, qS1, qS2]
  apply Flow.d 3 _ rfl (by simp) (by kernel_rfl)
  ·intro w1 hk; unfold does; go_simp; (try go_ints); exact DetR.mk
  simp only [qA0, qA1, qA2, Act.put, qS0, qS1, qS2]
  apply Flow.d 4 _ rfl (by simp) (by kernel_rfl)
  ·intro w1 hk; unfold does; go_simp; (try go_ints); exact DetR.mk
  simp only [qA0, qA1, qA2, Act.put, qS0, qS1, qS2]
  apply Flow.d 5 _ rfl (by simp) (by kernel_rfl)
  ·intro w1 hk; unfold does; go_simp; (try go_ints); exact DetR.mk
  simp only [qA0, qA1, qA2, Act.put, qS0, qS1, qS2]
  apply Flow.d 6 _ rfl (by simp) (by kernel_rfl)
  ·intro w1 hk; unfold does; go_simp; (try go_ints); exact DetR.mk
  simp only [qA0, qA1, qA2, Act.put, qS0, qS1, qS2]
  apply Flow.d 7 _ rfl (by simp) (by kernel_rfl)
  ·intro w1 hk; unfold does; go_simp; (try go_ints); exact DetR.mk
  simp only [qA0, qA1, qA2, Act.put, qS0, qS1, qS2]
  apply Flow.d 8 _ rfl (by simp) (by kernel_rfl)
  ·intro w1 hk; unfold does; go_simp; (try go_ints); exact DetR.mk
  simp only [qA0, qA1, qA2, Act.put, qS0, qS1, qS2]
  refine Flow.one 9 _ rfl (by kernel_rfl) (fun v w' => (∃ a c, v = .slice a q.length c) ∧ ERow w.heap.size w' v q ∧ Ext w1 w') (fun _ _ _ ⟨h1, h2, h3⟩ y => ⟨h1, h2.ext y, h3.trans y⟩) (fun w2 hC hk2 => ?_) ?_
  ·unfold does
   go_simp
   refine CallR.act ((HCl w2 hC).out.mono ?_)
   rintro e w3 ⟨v, rfl, hr, hx⟩
   exact ⟨v, rfl, hk2.trans (hx.keep _), row_form hr, hr.low (HX.out.trans (Hx1.out.trans hC)).size, hC.trans hx⟩
  rintro _ ⟨_, ⟨a8, c8, rfl⟩, _, _⟩
  simp only [qA0, qA1, qA2, Act.put, qS0, qS1, qS2]
  apply Flow.d 10 _ rfl (by simp) (by kernel_rfl)
  ·intro w1 hk; unfold does; go_simp; (try go_ints); exact DetR.mk
  simp only [qA0, qA1, qA2, Act.put, qS0, qS1, qS2]
  refine Flow.fin (by kernel_rfl) fun w4 hC4 hk4 => ?_
  obtain ⟨_, h5, h6⟩ := hC4
  have Hx4 := hid (HX.out.trans (Hx1.out.trans h6))
  have H5 := hid h5
  clear h5 h6 hk4 HCl f0 f1' f2 b1 m0 m1' m2' m3 m4
  go_wp2
  go_ret
  rw [Hq.out]
  exact ⟨_, _, rfl, H5.out, Hx4.out⟩
 ·have HNo2 := hid (HNo.out (by omega))
  go_wp2
  go_ret
  rw [HNo2.out]
  exact ⟨_, _, rfl, ERow.nil _ _, HX.out.trans Hx1.out⟩
theorem whypivot_any (P : PP) (l : List ST) (r : RV) (aa : Option Addr) (ca : Nat) (o : Int) (w : World) (G F : Nat → Prop) (g : Nat) (ad : Nat → Addr) {vr : Value} (hS : FindAt w G F g ad P vr l) (h0 : 0 ≤ o ∧ o < P.objectsV) (ha : IntsF w F (.slice aa r.args.length ca) r.args) :
  Calls Tryz.prog 84 #[.pointer (some ⟨g, 0, none⟩), r.val (.slice aa r.args.length ca), .int .i64 o] w fun x w' => ∃ a c, x = .returned (.slice a (P.fires r o).length c) ∧ ERow w.heap.size w' (.slice a (P.fires r o).length c) (P.fires r o) ∧ Ext w w' := by
 cases hk : (r.kind.toList == [99, 97, 108, 108]) with
 | true => exact whypivot_call P l r aa ca o w G F g ad hS h0 ha hk
 | false =>
  by_cases hn : (P.nodesV : Int) ≤ o
  ·exact whypivot_out P l r aa ca o w G F g ad hS h0 ha hk hn
  ·cases hl : (r.kind.toList == [108, 111, 97, 100]) with
   | true => exact whypivot_load P l r aa ca o w G F g ad hS h0 ha hk hl hn
   | false => exact whypivot_store P l r aa ca o w G F g ad hS h0 ha hk hl hn
theorem ruleUp_succ {P : PP} {l : List ST} {r : RV} {k : Nat} {x : ST} (h : l[k]? = some x) : ruleUp P l r (k + 1) = if x.node = r.pivot then firesS P r x.obj k (ruleUp P l r k) else ruleUp P l r k := by
 conv => lhs; unfold ruleUp
 rw [h]
theorem ruleUp_len {P : PP} {l : List ST} {r : RV} (k : Nat) : l.length ≤ (ruleUp P l r k).length := (ruleUp_zero P l r k).length_le
theorem WhyOk.obj {P : PP} {S : List (List Int)} {l : List ST} (h : WhyOk P S l) (hg : P.GoodS S) {x : ST} (hx : x ∈ l) : 0 ≤ x.obj ∧ x.obj < P.objectsV := by
 obtain ⟨h1, h2⟩ := h.snd x hx
 exact objs_in hg h1 h2
theorem WhyOk.objs {P : PP} {S : List (List Int)} {l : List ST} (h : WhyOk P S l) (hg : P.GoodS S) : ∀ x ∈ l, 0 ≤ x.obj ∧ x.obj < 1000000 := fun x hx => by
 have h1 := h.obj hg hx
 have h2 := hg.1.nodes.2
 omega
set_option maxRecDepth 100000 in
set_option maxHeartbeats 3200000 in
theorem whyrule_base (P : PP) (S : List (List Int)) (l : List ST) (r : RV) (aa : Option Addr) (ca : Nat) (w : World) (G F : Nat → Prop) (g : Nat) (ad : Nat → Addr) {vr : Value} (hS : FindAt w G F g ad P vr l) (hW : WhyOk P S l) (hg : P.GoodS S) (hc : ClosedP P S) (hr : r ∈ P.rulesV) (ha : IntsF w F (.slice aa r.args.length ca) r.args) (hkb : (r.kind.toList == [98, 97, 115, 101]) = true) :
  Calls Tryz.prog 35 #[.pointer (some ⟨g, 0, none⟩), r.val (.slice aa r.args.length ca)] w fun x w' => x = .returned (.bool (decide (l.length < (ruleS P l r).length))) ∧ FindAt w' G F g ad P vr (ruleS P l r) ∧ Keep (fun b => ¬ F b) w w' := by
 have HGF : Hid (∀ b, G b → F b) := hid (by obtain ⟨_, _, _, _, _, _, _, _, _, h⟩ := hS; exact h.gf)
 have HNew := hid (hW.rule hg hc hr)
 have HNf : Hid ((ruleS P l r).length ≤ 16000) := hid (Nat.le_trans (HNew.out.few hg) (by decide))
 have HOl := hid (hW.objs hg)
 obtain ⟨W, hWd⟩ : ∃ W, W = w.alloc (.cells #[.string r.kind, .int .i64 r.a, .int .i64 r.b, .int .i64 r.k, .slice aa r.args.length ca] 87) := ⟨_, rfl⟩
 have HX : Hid (Ext w W) := hid (by rw [hWd]; exact (Ext.refl _).alloc _)
 have HBx : Hid (Blk W w.heap.size #[.string r.kind, .int .i64 r.a, .int .i64 r.b, .int .i64 r.k, .slice aa r.args.length ca] 87) := hid (by rw [hWd]; exact Blk.new _ _ _)
 have HWe : Hid (W = w.alloc (.cells #[.string r.kind, .int .i64 r.a, .int .i64 r.b, .int .i64 r.k, .slice aa r.args.length ca] 87)) := hid hWd
 have HS := hid (hS.ext HX.out)
 have HWo := hid hW
 have Hg := hid hg
 have Hc := hid hc
 have Hr := hid hr
 have HA := hid (ha.keep (HX.out.keep fun _ => False) (fun _ _ h => h) fun _ h => h)
 have al := ha.form
 have hal : (r.args.length : Int) ≤ 9223372036854775807 := by obtain ⟨a, cap, h1, h2, h3, _⟩ := al; omega
 unfold RV.val
 clear hS ha al hWd hW hg hc hr
 have Hkb : Hid (r.kind.toList = bBase.toList) := hid (by rw [eq_of_beq hkb, eq_of_beq bBase_list])
 have Hrs : Hid (ruleS P l r = addS l ⟨r.a, r.b, r.k, -1, -1⟩) := hid (by unfold ruleS; rw [Hkb.out, beq_self_eq_true, cond_true])
 rw [Hrs.out]
 obtain ⟨k, hk, hke⟩ := List.mem_map.1 Hr.out
 have hk := List.mem_range.1 hk
 have ha1 := rule_a_in Hg.out.1 hk
 have hb0 := Hc.out.base k hk (by rw [hke]; exact Hkb.out)
 rw [hke] at ha1 hb0
 have hnv := nodes_vars P
 have hb1 := objs_in Hg.out (n := r.a) ⟨ha1.1, by omega⟩ hb0
 have hn1 := Hg.out.1.nodes
 have HE := hid (whyadd_any P l ⟨r.a, r.b, r.k, -1, -1⟩ W G F g ad HS.out (by simp only; omega) (by simp only; omega) (by have := HWo.out.few Hg.out; omega))
 simp only at HE
 have m0 := HBx.out.av 0 rfl
 have m1 := HBx.out.av 1 rfl
 have m2 := HBx.out.av 2 rfl
 have m3 := HBx.out.av 3 rfl
 simp only [qA0, qA1, qA2] at m0 m1 m2 m3
 rw [HWe.out] at m0 m1 m2 m3
 clear hke hk ha1 hb0 hnv hb1 hn1
 go_enter Tryz.func35, Tryz.ntmps35
 go_wp2_with fail
 rw [← HWe.out]
 refine HE.out.mono ?_
 intro x w1 hx
 obtain ⟨rfl, hS1, hK1⟩ := hx
 have HS1 := hid hS1
 have HK1 := hid hK1
 clear hS1 hK1 HE m0 m1 m2 m3
 go_wp2
 go_ret
 exact ⟨rfl, HS1.out, (HX.out.keep _).trans HK1.out⟩
set_option maxRecDepth 100000 in
set_option maxHeartbeats 3200000 in
theorem whyrule_copy (P : PP) (S : List (List Int)) (l : List ST) (r : RV) (aa : Option Addr) (ca : Nat) (w : World) (G F : Nat → Prop) (g : Nat) (ad : Nat → Addr) {vr : Value} (hS : FindAt w G F g ad P vr l) (hW : WhyOk P S l) (hg : P.GoodS S) (hc : ClosedP P S) (hr : r ∈ P.rulesV) (ha : IntsF w F (.slice aa r.args.length ca) r.args) (hkb : (r.kind.toList == [98, 97, 115, 101]) = false) (hkc : (r.kind.toList == [99, 111, 112, 121]) = true) :
  Calls Tryz.prog 35 #[.pointer (some ⟨g, 0, none⟩), r.val (.slice aa r.args.length ca)] w fun x w' => x = .returned (.bool (decide (l.length < (ruleS P l r).length))) ∧ FindAt w' G F g ad P vr (ruleS P l r) ∧ Keep (fun b => ¬ F b) w w' := by
 have HGF : Hid (∀ b, G b → F b) := hid (by obtain ⟨_, _, _, _, _, _, _, _, _, h⟩ := hS; exact h.gf)
 have HNew := hid (hW.rule hg hc hr)
 have HNf : Hid ((ruleS P l r).length ≤ 16000) := hid (Nat.le_trans (HNew.out.few hg) (by decide))
 have HOl := hid (hW.objs hg)
 obtain ⟨W, hWd⟩ : ∃ W, W = w.alloc (.cells #[.string r.kind, .int .i64 r.a, .int .i64 r.b, .int .i64 r.k, .slice aa r.args.length ca] 87) := ⟨_, rfl⟩
 have HX : Hid (Ext w W) := hid (by rw [hWd]; exact (Ext.refl _).alloc _)
 have HBx : Hid (Blk W w.heap.size #[.string r.kind, .int .i64 r.a, .int .i64 r.b, .int .i64 r.k, .slice aa r.args.length ca] 87) := hid (by rw [hWd]; exact Blk.new _ _ _)
 have HWe : Hid (W = w.alloc (.cells #[.string r.kind, .int .i64 r.a, .int .i64 r.b, .int .i64 r.k, .slice aa r.args.length ca] 87)) := hid hWd
 have HS := hid (hS.ext HX.out)
 have HWo := hid hW
 have Hg := hid hg
 have Hc := hid hc
 have Hr := hid hr
 have HA := hid (ha.keep (HX.out.keep fun _ => False) (fun _ _ h => h) fun _ h => h)
 have al := ha.form
 have hal : (r.args.length : Int) ≤ 9223372036854775807 := by obtain ⟨a, cap, h1, h2, h3, _⟩ := al; omega
 unfold RV.val
 clear hS ha al hWd hW hg hc hr
 have Hkc : Hid ((r.kind.toList == kCopy) = true) := hid hkc
 have Hrs : Hid (ruleS P l r = edgeS l (r.a, r.b) r.k (-1)) := hid (by unfold ruleS; rw [eq_of_beq bBase_list, hkb, cond_false, Hkc.out, cond_true])
 rw [Hrs.out] at HNf ⊢
 have hsn : SndE P S (r.a, r.b) := sndE_of Hg.out Hc.out Hr.out (by unfold PP.redges; rw [Hkc.out, cond_true]; exact List.mem_singleton.2 rfl)
 have hn1 := Hg.out.1.nodes
 obtain ⟨_, hb1, _⟩ := hsn
 have HE := hid (whyedge_any P l (r.a, r.b) r.k (-1) W G F g ad HS.out (by simp only at hb1 ⊢; omega) HOl.out HNf.out)
 simp only at HE
 have m0 := HBx.out.av 0 rfl
 have m1 := HBx.out.av 1 rfl
 have m2 := HBx.out.av 2 rfl
 have m3 := HBx.out.av 3 rfl
 simp only [qA0, qA1, qA2] at m0 m1 m2 m3
 rw [HWe.out] at m0 m1 m2 m3
 clear hb1 hn1
 go_enter Tryz.func35, Tryz.ntmps35
 go_wp2_with fail
 rw [← HWe.out]
 refine HE.out.mono ?_
 intro x w1 hx
 obtain ⟨rfl, hS1, hK1⟩ := hx
 have HS1 := hid hS1
 have HK1 := hid hK1
 clear hS1 hK1 HE m0 m1 m2 m3
 go_wp2
 go_ret
 exact ⟨rfl, HS1.out, (HX.out.keep _).trans HK1.out⟩
theorem kinds_of {r : RV} (hkb : (r.kind.toList == [98, 97, 115, 101]) = false) (hkc : (r.kind.toList == [99, 111, 112, 121]) = false) (P : PP) (l : List ST) : ruleS P l r = ruleUp P l r l.length := by
 unfold ruleS
 rw [eq_of_beq bBase_list, hkb, cond_false, show (r.kind.toList == kCopy) = false from hkc, cond_false]
def firesUp (r : RV) (k : Nat) (l : List ST) (q : List (Int × Int)) (j : Nat) : List ST := (q.take j).foldl (fun a e => edgeS a e r.k k) l
theorem firesUp_succ {r : RV} {k : Nat} {l : List ST} {q : List (Int × Int)} {j : Nat} {e : Int × Int} (h : q[j]? = some e) : firesUp r k l q (j + 1) = edgeS (firesUp r k l q j) e r.k k := by
 unfold firesUp
 rw [List.take_add_one, h, List.foldl_append]; rfl
theorem firesUp_pre (r : RV) (k : Nat) (l : List ST) (q : List (Int × Int)) (j : Nat) : l <+: firesUp r k l q j := fold_pre (fun a e => edgeS_pre a e r.k k) _ l
theorem WhyOk.firesUp {P : PP} {S : List (List Int)} {l : List ST} (h : WhyOk P S l) (hg : P.GoodS S) (hc : ClosedP P S) {r : RV} (hr : r ∈ P.rulesV) (hf : r.fired = true) {k : Nat} {x : ST} (hx : l[k]? = some x) (hn : x.node = r.pivot) (j : Nat) :
  WhyOk P S (Go.Proofs.YtngdpnlgnpdkcaaGreatDoor.firesUp r k (Go.Proofs.YtngdpnlgnpdkcaaGreatDoor.ruleUp P l r k) (P.fires r x.obj) j) := by
 obtain ⟨i, hi, rfl⟩ := List.mem_map.1 hr
 have hi := List.mem_range.1 hi
 exact WhyOk.fires hg hc hi hf hn _ (h.ruleUp hg hc hi hf k) (pre_at (ruleUp_zero P l _ k) hx) fun e he => List.mem_of_mem_take he
theorem WhyOk.firedE {P : PP} {S : List (List Int)} {l : List ST} (h : WhyOk P S l) (hg : P.GoodS S) (hc : ClosedP P S) {r : RV} (hr : r ∈ P.rulesV) (hf : r.fired = true) {x : ST} (hx : x ∈ l) (hn : x.node = r.pivot) {e : Int × Int} (he : e ∈ P.fires r x.obj) : SndE P S e := by
 have hy := h.snd x hx
 rw [hn] at hy
 exact sndE_of hg hc hr (fires_in hf hy.2 he)
set_option maxRecDepth 100000 in
set_option maxHeartbeats 6400000 in
theorem whyrule_store (P : PP) (S : List (List Int)) (l : List ST) (r : RV) (aa : Option Addr) (ca : Nat) (w : World) (G F : Nat → Prop) (g : Nat) (ad : Nat → Addr) {vr : Value} (hS : FindAt w G F g ad P vr l) (hW : WhyOk P S l) (hg : P.GoodS S) (hc : ClosedP P S) (hr : r ∈ P.rulesV) (ha : IntsF w F (.slice aa r.args.length ca) r.args) (hf : r.fired = true) (hkb : (r.kind.toList == [98, 97, 115, 101]) = false) (hkc : (r.kind.toList == [99, 111, 112, 121]) = false) (hks : (r.kind.toList == [115, 116, 111, 114, 101]) = true) :
  Calls Tryz.prog 35 #[.pointer (some ⟨g, 0, none⟩), r.val (.slice aa r.args.length ca)] w fun x w' => x = .returned (.bool (decide (l.length < (ruleS P l r).length))) ∧ FindAt w' G F g ad P vr (ruleS P l r) ∧ Keep (fun b => ¬ F b) w w' := by
 have HGF : Hid (∀ b, G b → F b) := hid (by obtain ⟨_, _, _, _, _, _, _, _, _, h⟩ := hS; exact h.gf)
 rw [kinds_of hkb hkc]
 have HOb := hid fun x (hx : x ∈ l) => hW.obj hg hx
 have hlen : l.length ≤ 16000 := Nat.le_trans (hW.few hg) (by decide)
 obtain ⟨W, hWd⟩ : ∃ W, W = w.alloc (.cells #[.string r.kind, .int .i64 r.a, .int .i64 r.b, .int .i64 r.k, .slice aa r.args.length ca] 87) := ⟨_, rfl⟩
 have HX : Hid (Ext w W) := hid (by rw [hWd]; exact (Ext.refl _).alloc _)
 have HBx : Hid (Blk W w.heap.size #[.string r.kind, .int .i64 r.a, .int .i64 r.b, .int .i64 r.k, .slice aa r.args.length ca] 87) := hid (by rw [hWd]; exact Blk.new _ _ _)
 have HWe : Hid (W = w.alloc (.cells #[.string r.kind, .int .i64 r.a, .int .i64 r.b, .int .i64 r.k, .slice aa r.args.length ca] 87)) := hid hWd
 have HS0 := hid hS
 obtain ⟨a1, a2, a3, c1, c2, c3, vl, m, f, h⟩ := hS
 have HB := hid (h.ext HX.out)
 have HWo := hid hW
 have Hg := hid hg
 have Hc := hid hc
 have Hr := hid hr
 have Hf := hid hf
 have HA0 := hid ha
 have hwo := hg.1.nodes
 have al := ha.form
 have hal : (r.args.length : Int) ≤ 9223372036854775807 := by obtain ⟨a, cap, h1, h2, h3, _⟩ := al; omega
 have HCl := hid (clonew_any vl l W HB.out.lrow hlen)
 have Hpv : Hid (r.pivot = r.b) := hid (by unfold RV.pivot kStore; rw [hks]; rfl)
 have m0 := HBx.out.av 0 rfl
 have m1 := HBx.out.av 1 rfl
 have m2 := HBx.out.av 2 rfl
 have b4 := HB.out.blk.av 4 rfl
 simp only [qA0, qA1, qA2] at m0 m1 m2 b4
 rw [HWe.out] at m0 m1 m2 b4
 unfold RV.val
 clear h ha al hWd hW hg hc hr hf
 go_enter Tryz.func35, Tryz.ntmps35
 go_wp2_with fail
 rw [← HWe.out]
 refine HCl.out.mono ?_
 intro x w1 hx
 obtain ⟨v1, rfl, hx1, hr1⟩ := hx
 obtain ⟨al, cl, rfl⟩ := row_form hr1
 have Hx1 := hid (HX.out.trans hx1)
 have HS1 : Hid (FindAt w1 G (fun b => F b ∨ (w.heap.size ≤ b ∧ b < w1.heap.size)) g ad P vr l) := hid (HS0.out.frz Hx1.out)
 have HBx1 := hid (HBx.out.ext hx1)
 have HR1 := hid hr1
 have HrF : Hid (∀ b, (Value.slice al l.length cl).ownBlock = some b → F b ∨ (w.heap.size ≤ b ∧ b < w1.heap.size)) := hid fun b hb => by
  have h1 := World.ownsRow.lt hr1 b hb
  exact .inr ⟨Nat.le_trans HX.out.size h1.1, h1.2⟩
 have HbF : Hid (F w.heap.size ∨ (w.heap.size ≤ w.heap.size ∧ w.heap.size < w1.heap.size)) := hid (.inr ⟨Nat.le_refl _, HBx1.out.lt⟩)
 clear hx1 hr1 HCl m0 m1 m2 b4 HB HBx
 generalize hF' : (fun b => F b ∨ (w.heap.size ≤ b ∧ b < w1.heap.size)) = F' at HS1
 have HF1 : Hid (∀ b, F b → F' b) := hid fun b hb => by rw [← hF']; exact .inl hb
 have HrF : Hid (∀ b, (Value.slice al l.length cl).ownBlock = some b → F' b) := hid fun b hb => by rw [← hF']; exact HrF.out b hb
 have HbF : Hid (F' w.heap.size) := hid (by rw [← hF']; exact HbF.out)
 clear hF'
 go_wp2
 go_loopw [6, 48] (fun t6 t48 wr => ∃ k : Nat, t48 = .int .i64 (k : Int) ∧ k ≤ l.length ∧ t6 = .bool (decide (l.length < (ruleUp P l r k).length)) ∧ FindAt wr G F' g ad P vr (ruleUp P l r k) ∧ wr.ownsRow W.heap.size 47 5 (.slice al l.length cl) l.length (l.flatMap stCells) ∧ Blk wr w.heap.size #[.string r.kind, .int .i64 r.a, .int .i64 r.b, .int .i64 r.k, .slice aa r.args.length ca] 87 ∧ Keep (fun b => ¬ F b) w wr) (fun _ t48 _ => l.length - (intOf t48).toNat)
 case atStart => exact ⟨0, rfl, Nat.zero_le _, by unfold ruleUp; rw [decide_eq_false (Nat.lt_irrefl _)], HS1.out, HR1.out, HBx1.out, Hx1.out.keep _⟩
 case round =>
  obtain ⟨k, rfl, hk, rfl, hS, hR, hB, hK⟩ := hrel
  by_cases hlt : k < l.length
  ·obtain ⟨x, hx⟩ : ∃ x, l[k]? = some x := ⟨_, List.getElem?_eq_getElem hlt⟩
   obtain ⟨g8, cp8, hge⟩ := own_some hR (by omega)
   simp only [Value.slice.injEq] at hge
   obtain ⟨rfl, -, rfl⟩ := hge
   obtain ⟨q0, q1, q2, q3, q4⟩ := own_st hR hx
   have Hx := hid hx
   have Hxl := hid (HOb.out x (List.mem_of_getElem? hx))
   obtain ⟨wA, hwA⟩ : ∃ wA, wA = wr.alloc (.cells #[.int .i64 x.node, .int .i64 x.obj, .int .i64 x.stmt, .int .i64 x.frm, .int .i64 x.via] 47) := ⟨_, rfl⟩
   have hxA : Ext wr wA := by rw [hwA]; exact (Ext.refl _).alloc _
   have Hn : Hid (ruleUp P l r (k + 1) = if x.node = r.pivot then firesS P r x.obj k (ruleUp P l r k) else ruleUp P l r k) := hid (ruleUp_succ hx)
   have HwA := hid hwA
   have HS2 := hid (hS.ext hxA)
   have HR2 := hid (own_ext hR hxA)
   have HB2 := hid (hB.ext hxA)
   have HK2 := hid (hK.ext_r hxA)
   have d0 := HB2.out.av 0 rfl
   have d1 := HB2.out.av 1 rfl
   have d2 := HB2.out.av 2 rfl
   have d3 := HB2.out.av 3 rfl
   have d4 := HB2.out.av 4 rfl
   simp only [qA0, qA1, qA2] at d0 d1 d2 d3 d4
   rw [HwA.out] at d0 d1 d2 d3 d4
   clear hS hR hB hK hx hxA hwA
   by_cases hn : x.node = r.pivot
   ·rw [if_pos hn] at Hn
    have Hnp := hid hn
    have hnb : (x.node == r.b) = true := by rw [← Hpv.out]; simpa using hn
    have hnb2 : (x.node != r.b) = false := by unfold bne; rw [hnb]; rfl
    have HA2 := hid (HA0.out.keep HK2.out (fun b h hx => hx h) HF1.out)
    have HPv := hid (whypivot_any P (ruleUp P l r k) r aa ca x.obj wA G F' g ad HS2.out Hxl.out HA2.out)
    unfold RV.val at HPv
    clear hn
    go_wp2_with fail
    rw [← HwA.out]
    refine HPv.out.mono ?_
    intro z w5 hz
    obtain ⟨a8, c8, rfl, hE5, hx5⟩ := hz
    obtain ⟨q, hq⟩ : ∃ q, q = P.fires r x.obj := ⟨_, rfl⟩
    rw [← hq] at hE5
    rw [← hq]
    have Hq := hid hq
    have HE5 := hid hE5
    have Hx5 := hid hx5
    have HS5 : Hid (FindAt w5 G (fun b => F' b ∨ (wA.heap.size ≤ b ∧ b < w5.heap.size)) g ad P vr (ruleUp P l r k)) := hid (HS2.out.frz hx5)
    have HqF : Hid (∀ b, (Value.slice a8 q.length c8).ownBlock = some b → F' b ∨ (wA.heap.size ≤ b ∧ b < w5.heap.size)) := hid fun b hb => .inr (World.ownsRow.lt hE5 b hb)
    have HWf : Hid (∀ j, WhyOk P S (firesUp r k (ruleUp P l r k) q j)) := hid fun j => by rw [Hq.out]; exact HWo.out.firesUp Hg.out Hc.out Hr.out Hf.out Hx.out Hnp.out j
    have HSe : Hid (∀ e ∈ q, SndE P S e) := hid fun e he => HWo.out.firedE Hg.out Hc.out Hr.out Hf.out (List.mem_of_getElem? Hx.out) Hnp.out (by rw [← Hq.out]; exact he)
    have Hn2 : Hid (ruleUp P l r (k + 1) = firesUp r k (ruleUp P l r k) q q.length) := hid (by rw [Hn.out]; unfold firesUp; rw [List.take_length, Hq.out]; rfl)
    have hqe : (q.length : Int) ≤ 9223372036854775807 := by
     rcases hE5.2 with ⟨_, h⟩ | ⟨_, cap, _, _, _, _, h4, h5, _⟩
     ·omega
     ·simp only [maxLen] at h5; omega
    generalize hF2 : (fun b => F' b ∨ (wA.heap.size ≤ b ∧ b < w5.heap.size)) = F2 at HS5
    have HF2 : Hid (∀ b, F' b → F2 b) := hid fun b hb => by rw [← hF2]; exact .inl hb
    have HqF : Hid (∀ b, (Value.slice a8 q.length c8).ownBlock = some b → F2 b) := hid fun b hb => by rw [← hF2]; exact HqF.out b hb
    have HGF' : Hid (∀ b, G b → F' b) := hid fun b hb => HF1.out b (HGF.out b hb)
    clear hF2 hq hE5 hx5 HPv q0 q1 q2 q3 q4 d0 d1 d2 d3 d4 Hn
    go_wp2
    go_loopw [6, 63] (fun t6 t63 wr => ∃ j : Nat, t63 = .int .i64 (j : Int) ∧ j ≤ q.length ∧ t6 = .bool (decide (l.length < (firesUp r k (ruleUp P l r k) q j).length)) ∧ FindAt wr G F2 g ad P vr (firesUp r k (ruleUp P l r k) q j) ∧ ERow wA.heap.size wr (.slice a8 q.length c8) q ∧ Keep (fun b => ¬ F' b) wA wr) (fun _ t63 _ => q.length - (intOf t63).toNat)
    case atStart => exact ⟨0, rfl, Nat.zero_le _, by unfold firesUp; rfl, HS5.out, HE5.out, Hx5.out.keep _⟩
    case round =>
     obtain ⟨j, rfl, hj, rfl, hS, hE, hK⟩ := hrel
     have HE7 := hid hE
     have HK7 := hid hK
     by_cases hjt : j < q.length
     ·obtain ⟨e, he⟩ : ∃ e, q[j]? = some e := ⟨_, List.getElem?_eq_getElem hjt⟩
      obtain ⟨g9, cp9, hge⟩ := own_some hE (by omega)
      simp only [Value.slice.injEq] at hge
      obtain ⟨rfl, -, rfl⟩ := hge
      obtain ⟨p0, p1⟩ := own_e2 hE he
      have hsn := HSe.out e (List.mem_of_getElem? he)
      obtain ⟨wB, hwB⟩ : ∃ wB, wB = wr.alloc (.cells #[.int .i64 e.1, .int .i64 e.2] 62) := ⟨_, rfl⟩
      have hxB : Ext wr wB := by rw [hwB]; exact (Ext.refl _).alloc _
      have HxB := hid hxB
      have HwB := hid hwB
      have Hs : Hid (firesUp r k (ruleUp P l r k) q (j + 1) = edgeS (firesUp r k (ruleUp P l r k) q j) e r.k k) := hid (firesUp_succ he)
      have HE := hid (whyedge_any P (firesUp r k (ruleUp P l r k) q j) e r.k k wB G F2 g ad (hS.ext hxB) (by have := hsn.2.1; have := hwo.1; omega) ((HWf.out j).objs Hg.out) (by rw [← Hs.out]; exact Nat.le_trans ((HWf.out (j + 1)).few Hg.out) (by decide)))
      have HBb := hid ((HB2.out.keep HK7.out fun h => h HbF.out).ext hxB)
      have d3 := HBb.out.av 3 rfl
      simp only [qA0, qA1, qA2] at d3
      rw [HwB.out] at d3
      have Hl1 := hid (Nat.le_trans (ruleUp_len (P := P) (l := l) (r := r) k) (firesUp_pre r k (ruleUp P l r k) q j).length_le)
      have Hl2 := hid (edgeS_pre (firesUp r k (ruleUp P l r k) q j) e r.k k).length_le
      clear hS hE hK he hsn hxB hwB
      go_wp2_with fail
      rw [← HwB.out]
      refine HE.out.mono ?_
      intro z w8 hz
      obtain ⟨rfl, hS8, hK8⟩ := hz
      have HS8 := hid hS8
      have HK8 := hid hK8
      clear hS8 hK8 HE p0 p1 d3
      have Hbe : Hid (l.length < (firesUp r k (ruleUp P l r k) q (j + 1)).length ↔ ((firesUp r k (ruleUp P l r k) q j).length < (edgeS (firesUp r k (ruleUp P l r k) q j) e r.k k).length ∨ l.length < (firesUp r k (ruleUp P l r k) q j).length)) := hid (by
       rw [Hs.out]
       have h1 := Hl1.out
       have h2 := Hl2.out
       omega)
      cases hd : decide ((firesUp r k (ruleUp P l r k) q j).length < (edgeS (firesUp r k (ruleUp P l r k) q j) e r.k k).length) with
      | true =>
       go_wp2
       go_roundw
       case rel =>
        refine ⟨j + 1, by go_num, by omega, ?_, ?_, ?_, ?_⟩
        ·rw [decide_eq_true (Hbe.out.2 (.inl (of_decide_eq_true hd)))]
        ·rw [Hs.out]; exact HS8.out
        ·exact row_keep (HE7.out.ext HxB.out) HK8.out fun b hb hx => hx (HqF.out b hb)
        ·exact (HK7.out.ext_r HxB.out).trans (HK8.out.mono fun b _ hx hF => hx (HF2.out b hF))
       case measure => simp [intOf]; omega
      | false =>
       go_wp2
       go_roundw
       case rel =>
        refine ⟨j + 1, by go_num, by omega, ?_, ?_, ?_, ?_⟩
        ·congr 1
         exact decide_eq_decide.2 ⟨fun h => Hbe.out.2 (.inr h), fun h => (Hbe.out.1 h).resolve_left (of_decide_eq_false hd)⟩
        ·rw [Hs.out]; exact HS8.out
        ·exact row_keep (HE7.out.ext HxB.out) HK8.out fun b hb hx => hx (HqF.out b hb)
        ·exact (HK7.out.ext_r HxB.out).trans (HK8.out.mono fun b _ hx hF => hx (HF2.out b hF))
       case measure => simp [intOf]; omega
     ·obtain rfl : j = q.length := by omega
      have HSz := hid (hS.less HGF'.out HF2.out)
      clear hS hE hK
      go_wp2
      go_roundw
      case rel =>
       refine ⟨k + 1, by go_num, by omega, ?_, ?_, ?_, ?_, ?_⟩
       ·rw [Hn2.out]
       ·rw [Hn2.out]; exact HSz.out
       ·exact row_keep HR2.out HK7.out fun b hb hx => hx (HrF.out b hb)
       ·exact HB2.out.keep HK7.out fun h => h HbF.out
       ·exact HK2.out.trans (HK7.out.mono fun b _ hx hF => hx (HF1.out b hF))
      case measure => simp [intOf]; omega
   ·rw [if_neg hn] at Hn
    have hnb : (x.node == r.b) = false := by rw [← Hpv.out]; simpa using hn
    have hnb2 : (x.node != r.b) = true := by unfold bne; rw [hnb]; rfl
    clear hn
    go_wp2
    rw [← HwA.out]
    clear q0 q1 q2 q3 q4 d0 d1 d2 d3 d4
    go_roundw
    case rel =>
     refine ⟨k + 1, by go_num, by omega, ?_, ?_, HR2.out, HB2.out, HK2.out⟩
     ·rw [Hn.out]
     ·rw [Hn.out]; exact HS2.out
    case measure => simp [intOf]; omega
  ·obtain rfl : k = l.length := by omega
   have HSz := hid (hS.less HGF.out HF1.out)
   have HKz := hid hK
   clear hS hK hR hB
   go_wp2
   go_ret
   exact ⟨rfl, HSz.out, HKz.out⟩
set_option maxRecDepth 100000 in
set_option maxHeartbeats 6400000 in
theorem whyrule_other (P : PP) (S : List (List Int)) (l : List ST) (r : RV) (aa : Option Addr) (ca : Nat) (w : World) (G F : Nat → Prop) (g : Nat) (ad : Nat → Addr) {vr : Value} (hS : FindAt w G F g ad P vr l) (hW : WhyOk P S l) (hg : P.GoodS S) (hc : ClosedP P S) (hr : r ∈ P.rulesV) (ha : IntsF w F (.slice aa r.args.length ca) r.args) (hf : r.fired = true) (hkb : (r.kind.toList == [98, 97, 115, 101]) = false) (hkc : (r.kind.toList == [99, 111, 112, 121]) = false) (hks : (r.kind.toList == [115, 116, 111, 114, 101]) = false) :
  Calls Tryz.prog 35 #[.pointer (some ⟨g, 0, none⟩), r.val (.slice aa r.args.length ca)] w fun x w' => x = .returned (.bool (decide (l.length < (ruleS P l r).length))) ∧ FindAt w' G F g ad P vr (ruleS P l r) ∧ Keep (fun b => ¬ F b) w w' := by
 have HGF : Hid (∀ b, G b → F b) := hid (by obtain ⟨_, _, _, _, _, _, _, _, _, h⟩ := hS; exact h.gf)
 rw [kinds_of hkb hkc]
 have HOb := hid fun x (hx : x ∈ l) => hW.obj hg hx
 have hlen : l.length ≤ 16000 := Nat.le_trans (hW.few hg) (by decide)
 obtain ⟨W, hWd⟩ : ∃ W, W = w.alloc (.cells #[.string r.kind, .int .i64 r.a, .int .i64 r.b, .int .i64 r.k, .slice aa r.args.length ca] 87) := ⟨_, rfl⟩
 have HX : Hid (Ext w W) := hid (by rw [hWd]; exact (Ext.refl _).alloc _)
 have HBx : Hid (Blk W w.heap.size #[.string r.kind, .int .i64 r.a, .int .i64 r.b, .int .i64 r.k, .slice aa r.args.length ca] 87) := hid (by rw [hWd]; exact Blk.new _ _ _)
 have HWe : Hid (W = w.alloc (.cells #[.string r.kind, .int .i64 r.a, .int .i64 r.b, .int .i64 r.k, .slice aa r.args.length ca] 87)) := hid hWd
 have HS0 := hid hS
 obtain ⟨a1, a2, a3, c1, c2, c3, vl, m, f, h⟩ := hS
 have HB := hid (h.ext HX.out)
 have HWo := hid hW
 have Hg := hid hg
 have Hc := hid hc
 have Hr := hid hr
 have Hf := hid hf
 have HA0 := hid ha
 have hwo := hg.1.nodes
 have al := ha.form
 have hal : (r.args.length : Int) ≤ 9223372036854775807 := by obtain ⟨a, cap, h1, h2, h3, _⟩ := al; omega
 have HCl := hid (clonew_any vl l W HB.out.lrow hlen)
 have Hpv : Hid (r.pivot = r.a) := hid (by unfold RV.pivot kStore; rw [hks]; rfl)
 have m0 := HBx.out.av 0 rfl
 have m1 := HBx.out.av 1 rfl
 have m2 := HBx.out.av 2 rfl
 have b4 := HB.out.blk.av 4 rfl
 simp only [qA0, qA1, qA2] at m0 m1 m2 b4
 rw [HWe.out] at m0 m1 m2 b4
 unfold RV.val
 clear h ha al hWd hW hg hc hr hf
 go_enter Tryz.func35, Tryz.ntmps35
 go_wp2_with fail
 rw [← HWe.out]
 refine HCl.out.mono ?_
 intro x w1 hx
 obtain ⟨v1, rfl, hx1, hr1⟩ := hx
 obtain ⟨al, cl, rfl⟩ := row_form hr1
 have Hx1 := hid (HX.out.trans hx1)
 have HS1 : Hid (FindAt w1 G (fun b => F b ∨ (w.heap.size ≤ b ∧ b < w1.heap.size)) g ad P vr l) := hid (HS0.out.frz Hx1.out)
 have HBx1 := hid (HBx.out.ext hx1)
 have HR1 := hid hr1
 have HrF : Hid (∀ b, (Value.slice al l.length cl).ownBlock = some b → F b ∨ (w.heap.size ≤ b ∧ b < w1.heap.size)) := hid fun b hb => by
  have h1 := World.ownsRow.lt hr1 b hb
  exact .inr ⟨Nat.le_trans HX.out.size h1.1, h1.2⟩
 have HbF : Hid (F w.heap.size ∨ (w.heap.size ≤ w.heap.size ∧ w.heap.size < w1.heap.size)) := hid (.inr ⟨Nat.le_refl _, HBx1.out.lt⟩)
 clear hx1 hr1 HCl m0 m1 m2 b4 HB HBx
 generalize hF' : (fun b => F b ∨ (w.heap.size ≤ b ∧ b < w1.heap.size)) = F' at HS1
 have HF1 : Hid (∀ b, F b → F' b) := hid fun b hb => by rw [← hF']; exact .inl hb
 have HrF : Hid (∀ b, (Value.slice al l.length cl).ownBlock = some b → F' b) := hid fun b hb => by rw [← hF']; exact HrF.out b hb
 have HbF : Hid (F' w.heap.size) := hid (by rw [← hF']; exact HbF.out)
 clear hF'
 go_wp2
 go_loopw [6, 48] (fun t6 t48 wr => ∃ k : Nat, t48 = .int .i64 (k : Int) ∧ k ≤ l.length ∧ t6 = .bool (decide (l.length < (ruleUp P l r k).length)) ∧ FindAt wr G F' g ad P vr (ruleUp P l r k) ∧ wr.ownsRow W.heap.size 47 5 (.slice al l.length cl) l.length (l.flatMap stCells) ∧ Blk wr w.heap.size #[.string r.kind, .int .i64 r.a, .int .i64 r.b, .int .i64 r.k, .slice aa r.args.length ca] 87 ∧ Keep (fun b => ¬ F b) w wr) (fun _ t48 _ => l.length - (intOf t48).toNat)
 case atStart => exact ⟨0, rfl, Nat.zero_le _, by unfold ruleUp; rw [decide_eq_false (Nat.lt_irrefl _)], HS1.out, HR1.out, HBx1.out, Hx1.out.keep _⟩
 case round =>
  obtain ⟨k, rfl, hk, rfl, hS, hR, hB, hK⟩ := hrel
  by_cases hlt : k < l.length
  ·obtain ⟨x, hx⟩ : ∃ x, l[k]? = some x := ⟨_, List.getElem?_eq_getElem hlt⟩
   obtain ⟨g8, cp8, hge⟩ := own_some hR (by omega)
   simp only [Value.slice.injEq] at hge
   obtain ⟨rfl, -, rfl⟩ := hge
   obtain ⟨q0, q1, q2, q3, q4⟩ := own_st hR hx
   have Hx := hid hx
   have Hxl := hid (HOb.out x (List.mem_of_getElem? hx))
   obtain ⟨wA, hwA⟩ : ∃ wA, wA = wr.alloc (.cells #[.int .i64 x.node, .int .i64 x.obj, .int .i64 x.stmt, .int .i64 x.frm, .int .i64 x.via] 47) := ⟨_, rfl⟩
   have hxA : Ext wr wA := by rw [hwA]; exact (Ext.refl _).alloc _
   have Hn : Hid (ruleUp P l r (k + 1) = if x.node = r.pivot then firesS P r x.obj k (ruleUp P l r k) else ruleUp P l r k) := hid (ruleUp_succ hx)
   have HwA := hid hwA
   have HS2 := hid (hS.ext hxA)
   have HR2 := hid (own_ext hR hxA)
   have HB2 := hid (hB.ext hxA)
   have HK2 := hid (hK.ext_r hxA)
   have d0 := HB2.out.av 0 rfl
   have d1 := HB2.out.av 1 rfl
   have d2 := HB2.out.av 2 rfl
   have d3 := HB2.out.av 3 rfl
   have d4 := HB2.out.av 4 rfl
   simp only [qA0, qA1, qA2] at d0 d1 d2 d3 d4
   rw [HwA.out] at d0 d1 d2 d3 d4
   clear hS hR hB hK hx hxA hwA
   by_cases hn : x.node = r.pivot
   ·rw [if_pos hn] at Hn
    have Hnp := hid hn
    have hnb : (x.node == r.a) = true := by rw [← Hpv.out]; simpa using hn
    have hnb2 : (x.node != r.a) = false := by unfold bne; rw [hnb]; rfl
    have HA2 := hid (HA0.out.keep HK2.out (fun b h hx => hx h) HF1.out)
    have HPv := hid (whypivot_any P (ruleUp P l r k) r aa ca x.obj wA G F' g ad HS2.out Hxl.out HA2.out)
    unfold RV.val at HPv
    clear hn
    go_wp2_with fail
    rw [← HwA.out]
    refine HPv.out.mono ?_
    intro z w5 hz
    obtain ⟨a8, c8, rfl, hE5, hx5⟩ := hz
    obtain ⟨q, hq⟩ : ∃ q, q = P.fires r x.obj := ⟨_, rfl⟩
    rw [← hq] at hE5
    rw [← hq]
    have Hq := hid hq
    have HE5 := hid hE5
    have Hx5 := hid hx5
    have HS5 : Hid (FindAt w5 G (fun b => F' b ∨ (wA.heap.size ≤ b ∧ b < w5.heap.size)) g ad P vr (ruleUp P l r k)) := hid (HS2.out.frz hx5)
    have HqF : Hid (∀ b, (Value.slice a8 q.length c8).ownBlock = some b → F' b ∨ (wA.heap.size ≤ b ∧ b < w5.heap.size)) := hid fun b hb => .inr (World.ownsRow.lt hE5 b hb)
    have HWf : Hid (∀ j, WhyOk P S (firesUp r k (ruleUp P l r k) q j)) := hid fun j => by rw [Hq.out]; exact HWo.out.firesUp Hg.out Hc.out Hr.out Hf.out Hx.out Hnp.out j
    have HSe : Hid (∀ e ∈ q, SndE P S e) := hid fun e he => HWo.out.firedE Hg.out Hc.out Hr.out Hf.out (List.mem_of_getElem? Hx.out) Hnp.out (by rw [← Hq.out]; exact he)
    have Hn2 : Hid (ruleUp P l r (k + 1) = firesUp r k (ruleUp P l r k) q q.length) := hid (by rw [Hn.out]; unfold firesUp; rw [List.take_length, Hq.out]; rfl)
    have hqe : (q.length : Int) ≤ 9223372036854775807 := by
     rcases hE5.2 with ⟨_, h⟩ | ⟨_, cap, _, _, _, _, h4, h5, _⟩
     ·omega
     ·simp only [maxLen] at h5; omega
    generalize hF2 : (fun b => F' b ∨ (wA.heap.size ≤ b ∧ b < w5.heap.size)) = F2 at HS5
    have HF2 : Hid (∀ b, F' b → F2 b) := hid fun b hb => by rw [← hF2]; exact .inl hb
    have HqF : Hid (∀ b, (Value.slice a8 q.length c8).ownBlock = some b → F2 b) := hid fun b hb => by rw [← hF2]; exact HqF.out b hb
    have HGF' : Hid (∀ b, G b → F' b) := hid fun b hb => HF1.out b (HGF.out b hb)
    clear hF2 hq hE5 hx5 HPv q0 q1 q2 q3 q4 d0 d1 d2 d3 d4 Hn
    go_wp2
    go_loopw [6, 63] (fun t6 t63 wr => ∃ j : Nat, t63 = .int .i64 (j : Int) ∧ j ≤ q.length ∧ t6 = .bool (decide (l.length < (firesUp r k (ruleUp P l r k) q j).length)) ∧ FindAt wr G F2 g ad P vr (firesUp r k (ruleUp P l r k) q j) ∧ ERow wA.heap.size wr (.slice a8 q.length c8) q ∧ Keep (fun b => ¬ F' b) wA wr) (fun _ t63 _ => q.length - (intOf t63).toNat)
    case atStart => exact ⟨0, rfl, Nat.zero_le _, by unfold firesUp; rfl, HS5.out, HE5.out, Hx5.out.keep _⟩
    case round =>
     obtain ⟨j, rfl, hj, rfl, hS, hE, hK⟩ := hrel
     have HE7 := hid hE
     have HK7 := hid hK
     by_cases hjt : j < q.length
     ·obtain ⟨e, he⟩ : ∃ e, q[j]? = some e := ⟨_, List.getElem?_eq_getElem hjt⟩
      obtain ⟨g9, cp9, hge⟩ := own_some hE (by omega)
      simp only [Value.slice.injEq] at hge
      obtain ⟨rfl, -, rfl⟩ := hge
      obtain ⟨p0, p1⟩ := own_e2 hE he
      have hsn := HSe.out e (List.mem_of_getElem? he)
      obtain ⟨wB, hwB⟩ : ∃ wB, wB = wr.alloc (.cells #[.int .i64 e.1, .int .i64 e.2] 62) := ⟨_, rfl⟩
      have hxB : Ext wr wB := by rw [hwB]; exact (Ext.refl _).alloc _
      have HxB := hid hxB
      have HwB := hid hwB
      have Hs : Hid (firesUp r k (ruleUp P l r k) q (j + 1) = edgeS (firesUp r k (ruleUp P l r k) q j) e r.k k) := hid (firesUp_succ he)
      have HE := hid (whyedge_any P (firesUp r k (ruleUp P l r k) q j) e r.k k wB G F2 g ad (hS.ext hxB) (by have := hsn.2.1; have := hwo.1; omega) ((HWf.out j).objs Hg.out) (by rw [← Hs.out]; exact Nat.le_trans ((HWf.out (j + 1)).few Hg.out) (by decide)))
      have HBb := hid ((HB2.out.keep HK7.out fun h => h HbF.out).ext hxB)
      have d3 := HBb.out.av 3 rfl
      simp only [qA0, qA1, qA2] at d3
      rw [HwB.out] at d3
      have Hl1 := hid (Nat.le_trans (ruleUp_len (P := P) (l := l) (r := r) k) (firesUp_pre r k (ruleUp P l r k) q j).length_le)
      have Hl2 := hid (edgeS_pre (firesUp r k (ruleUp P l r k) q j) e r.k k).length_le
      clear hS hE hK he hsn hxB hwB
      go_wp2_with fail
      rw [← HwB.out]
      refine HE.out.mono ?_
      intro z w8 hz
      obtain ⟨rfl, hS8, hK8⟩ := hz
      have HS8 := hid hS8
      have HK8 := hid hK8
      clear hS8 hK8 HE p0 p1 d3
      have Hbe : Hid (l.length < (firesUp r k (ruleUp P l r k) q (j + 1)).length ↔ ((firesUp r k (ruleUp P l r k) q j).length < (edgeS (firesUp r k (ruleUp P l r k) q j) e r.k k).length ∨ l.length < (firesUp r k (ruleUp P l r k) q j).length)) := hid (by
       rw [Hs.out]
       have h1 := Hl1.out
       have h2 := Hl2.out
       omega)
      cases hd : decide ((firesUp r k (ruleUp P l r k) q j).length < (edgeS (firesUp r k (ruleUp P l r k) q j) e r.k k).length) with
      | true =>
       go_wp2
       go_roundw
       case rel =>
        refine ⟨j + 1, by go_num, by omega, ?_, ?_, ?_, ?_⟩
        ·rw [decide_eq_true (Hbe.out.2 (.inl (of_decide_eq_true hd)))]
        ·rw [Hs.out]; exact HS8.out
        ·exact row_keep (HE7.out.ext HxB.out) HK8.out fun b hb hx => hx (HqF.out b hb)
        ·exact (HK7.out.ext_r HxB.out).trans (HK8.out.mono fun b _ hx hF => hx (HF2.out b hF))
       case measure => simp [intOf]; omega
      | false =>
       go_wp2
       go_roundw
       case rel =>
        refine ⟨j + 1, by go_num, by omega, ?_, ?_, ?_, ?_⟩
        ·congr 1
         exact decide_eq_decide.2 ⟨fun h => Hbe.out.2 (.inr h), fun h => (Hbe.out.1 h).resolve_left (of_decide_eq_false hd)⟩
        ·rw [Hs.out]; exact HS8.out
        ·exact row_keep (HE7.out.ext HxB.out) HK8.out fun b hb hx => hx (HqF.out b hb)
        ·exact (HK7.out.ext_r HxB.out).trans (HK8.out.mono fun b _ hx hF => hx (HF2.out b hF))
       case measure => simp [intOf]; omega
     ·obtain rfl : j = q.length := by omega
      have HSz := hid (hS.less HGF'.out HF2.out)
      clear hS hE hK
      go_wp2
      go_roundw
      case rel =>
       refine ⟨k + 1, by go_num, by omega, ?_, ?_, ?_, ?_, ?_⟩
       ·rw [Hn2.out]
       ·rw [Hn2.out]; exact HSz.out
       ·exact row_keep HR2.out HK7.out fun b hb hx => hx (HrF.out b hb)
       ·exact HB2.out.keep HK7.out fun h => h HbF.out
       ·exact HK2.out.trans (HK7.out.mono fun b _ hx hF => hx (HF1.out b hF))
      case measure => simp [intOf]; omega
   ·rw [if_neg hn] at Hn
    have hnb : (x.node == r.a) = false := by rw [← Hpv.out]; simpa using hn
    have hnb2 : (x.node != r.a) = true := by unfold bne; rw [hnb]; rfl
    clear hn
    go_wp2
    rw [← HwA.out]
    clear q0 q1 q2 q3 q4 d0 d1 d2 d3 d4
    go_roundw
    case rel =>
     refine ⟨k + 1, by go_num, by omega, ?_, ?_, HR2.out, HB2.out, HK2.out⟩
     ·rw [Hn.out]
     ·rw [Hn.out]; exact HS2.out
    case measure => simp [intOf]; omega
  ·obtain rfl : k = l.length := by omega
   have HSz := hid (hS.less HGF.out HF1.out)
   have HKz := hid hK
   clear hS hK hR hB
   go_wp2
   go_ret
   exact ⟨rfl, HSz.out, HKz.out⟩
theorem whyrule_any (P : PP) (S : List (List Int)) (l : List ST) (r : RV) (aa : Option Addr) (ca : Nat) (w : World) (G F : Nat → Prop) (g : Nat) (ad : Nat → Addr) {vr : Value} (hS : FindAt w G F g ad P vr l) (hW : WhyOk P S l) (hg : P.GoodS S) (hc : ClosedP P S) (hr : r ∈ P.rulesV) (ha : IntsF w F (.slice aa r.args.length ca) r.args) :
  Calls Tryz.prog 35 #[.pointer (some ⟨g, 0, none⟩), r.val (.slice aa r.args.length ca)] w fun x w' => x = .returned (.bool (decide (l.length < (ruleS P l r).length))) ∧ FindAt w' G F g ad P vr (ruleS P l r) ∧ Keep (fun b => ¬ F b) w w' := by
 cases h1 : (r.kind.toList == [98, 97, 115, 101]) with
 | true => exact whyrule_base P S l r aa ca w G F g ad hS hW hg hc hr ha h1
 | false =>
  cases h2 : (r.kind.toList == [99, 111, 112, 121]) with
  | true => exact whyrule_copy P S l r aa ca w G F g ad hS hW hg hc hr ha h1 h2
  | false =>
   have hf : r.fired = true := by
    rcases rule_kinds hg.1 hr with g | g | g
    ·rw [g, bBase_list] at h1; cases h1
    ·rw [g] at h2; exact absurd h2 (by decide)
    ·exact g
   cases h3 : (r.kind.toList == [115, 116, 111, 114, 101]) with
   | true => exact whyrule_store P S l r aa ca w G F g ad hS hW hg hc hr ha hf h1 h2 h3
   | false => exact whyrule_other P S l r aa ca w G F g ad hS hW hg hc hr ha hf h1 h2 h3
end Go.Proofs.YtngdpnlgnpdkcaaGreatDoor
namespace Go.Proofs.YtngdpnlgnpdkcaaGreatDoor
open Go Go.RowKit
open Go.Maps (Keyed)
def markF (M : List Int) (q : Int) : Option Value := if q ∈ M then some (.bool true) else none
def LowL (l : List ST) : Prop := ∀ (j : Nat) s, l[j]? = some s → (-1 ≤ s.frm ∧ s.frm < j) ∧ (-1 ≤ s.via ∧ s.via < j)
def Kids (M : List Int) (s : ST) : Prop := (0 ≤ s.frm → s.frm ∈ M) ∧ (0 ≤ s.via → s.via ∈ M)
structure Spread (l : List ST) (M M' : List Int) (n : Int) : Prop where
 sub : ∀ q ∈ M, q ∈ M'
 top : 0 ≤ n → n ∈ M'
 le : ∀ q ∈ M', q ∈ M ∨ (0 ≤ q ∧ q ≤ n)
 kid : ∀ (j : Nat) s, (j : Int) ∈ M' → (j : Int) ∉ M → l[j]? = some s → Kids M' s
theorem Spread.none {l : List ST} {M : List Int} {n : Int} (h : 0 ≤ n → n ∈ M) : Spread l M M n := ⟨fun _ h => h, h, fun _ h => .inl h, fun _ _ h1 h2 => absurd h1 h2⟩
theorem Spread.step {l : List ST} {M M2 M3 : List Int} {k : Nat} {s : ST} (hk : l[k]? = some s) (hl : LowL l) (h1 : Spread l ((k : Int) :: M) M2 s.frm) (h2 : Spread l M2 M3 s.via) : Spread l M M3 k := by
 obtain ⟨⟨_, g1⟩, ⟨_, g2⟩⟩ := hl k s hk
 refine ⟨fun q hq => h2.sub q (h1.sub q (List.mem_cons_of_mem _ hq)), fun _ => h2.sub _ (h1.sub _ List.mem_cons_self), fun q hq => ?_, fun j x hj hn hx => ?_⟩
 ·rcases h2.le q hq with h | h
  ·rcases h1.le q h with h | h
   ·rcases List.mem_cons.1 h with rfl | h
    ·exact .inr ⟨by omega, Int.le_refl _⟩
    ·exact .inl h
   ·exact .inr ⟨h.1, by omega⟩
  ·exact .inr ⟨h.1, by omega⟩
 ·by_cases e : j = k
  ·subst e
   rw [hk] at hx
   obtain rfl := Option.some.inj hx
   exact ⟨fun h => h2.sub _ (h1.top h), fun h => h2.top h⟩
  ·by_cases h : (j : Int) ∈ M2
   ·have := h1.kid j x h (fun g => by
     rcases List.mem_cons.1 g with g | g
     ·exact e (by omega)
     ·exact hn g) hx
    exact ⟨fun q => h2.sub _ (this.1 q), fun q => h2.sub _ (this.2 q)⟩
   ·exact h2.kid j x hj h hx
structure MarkB (w : World) (b1 b2 b3 m : Nat) (vl : Value) (l : List ST) (M : List Int) : Prop where
 c1 : Blk w b1 #[.map (some m)] 120
 c2 : Blk w b2 #[.func (.func 85) #[] #[.pointer (some ⟨b1, 0, none⟩), .pointer (some ⟨b2, 0, none⟩), .pointer (some ⟨b3, 0, none⟩)]] 147
 c3 : Blk w b3 #[vl] 29
 row : w.ownsRow 0 47 5 vl l.length (l.flatMap stCells)
 map : KMap Tryz.prog 3 (Value.int .i64) w m (markF M)
section
variable {w w' : World} {b1 b2 b3 m : Nat} {vl : Value} {l : List ST} {M M' : List Int}
theorem MarkB.ext (h : MarkB w b1 b2 b3 m vl l M) (x : Ext w w') : MarkB w' b1 b2 b3 m vl l M := ⟨h.c1.ext x, h.c2.ext x, h.c3.ext x, own_ext h.row x, h.map.ext x⟩
theorem MarkB.to (h : MarkB w b1 b2 b3 m vl l M) (k : Keep (fun q => q = m) w w') (hm : KMap Tryz.prog 3 (Value.int .i64) w' m (markF M')) : MarkB w' b1 b2 b3 m vl l M' :=
 ⟨h.c1.keep k (h.map.ne h.c1), h.c2.keep k (h.map.ne h.c2), h.c3.keep k (h.map.ne h.c3), own_off h.row k (fun b e => by rintro ⟨c, hc⟩; exact h.map.not_blk (e ▸ hc)), hm⟩
end
theorem zero_bool1 (w : World) : (zeroValue 4).run Tryz.prog w = .ok (.bool false) w := by kernel_rfl
theorem look_mark {w : World} {m : Nat} {M : List Int} (h : KMap Tryz.prog 3 (Value.int .i64) w m (markF M)) {n : Int} (hn : 0 ≤ n ∧ n < 1000000) :
  (Instr.lookup 120 (.map (some m)) (.int .i64 n) false).run Tryz.prog w = .ok (.bool (decide (n ∈ M))) w := by
 obtain ⟨k, hk⟩ := key_int hn
 have := run_kmap_lookup int_keyed64 intV_inj Tryz.underlying120 h hk (zero_bool1 w) false
 rw [this]
 unfold markF
 by_cases g : n ∈ M
 ·rw [if_pos g, decide_eq_true g]; rfl
 ·rw [if_neg g, decide_eq_false g]; rfl
set_option maxRecDepth 100000 in
set_option maxHeartbeats 3200000 in
theorem neededc_neg (b1 b2 b3 m : Nat) (vl : Value) (l : List ST) (n : Int) (M : List Int) (w : World) (hB : MarkB w b1 b2 b3 m vl l M) (hnl : n < l.length) (hll : l.length ≤ 16000) (hn : n < 0) :
  Calls Tryz.prog 85 #[.int .i64 n, .pointer (some ⟨b1, 0, none⟩), .pointer (some ⟨b2, 0, none⟩), .pointer (some ⟨b3, 0, none⟩)] w fun x w' => x = .returned (.tuple #[]) ∧ ∃ M', MarkB w' b1 b2 b3 m vl l M' ∧ Spread l M M' n ∧ Keep (fun q => q = m) w w' := by
 have HB := hid hB
 have hnb : ¬ (0 ≤ n) := by omega
 clear hB
 go_enter Tryz.func85, Tryz.ntmps85
 go_wp2
 go_end0
 exact ⟨rfl, M, HB.out, Spread.none (fun h => absurd h (by omega)), Keep.refl _ _⟩
set_option maxRecDepth 100000 in
set_option maxHeartbeats 3200000 in
theorem neededc_old (b1 b2 b3 m : Nat) (vl : Value) (l : List ST) (n : Int) (M : List Int) (w : World) (hB : MarkB w b1 b2 b3 m vl l M) (hnl : n < l.length) (hll : l.length ≤ 16000) (hn : 0 ≤ n) (hin : n ∈ M) :
  Calls Tryz.prog 85 #[.int .i64 n, .pointer (some ⟨b1, 0, none⟩), .pointer (some ⟨b2, 0, none⟩), .pointer (some ⟨b3, 0, none⟩)] w fun x w' => x = .returned (.tuple #[]) ∧ ∃ M', MarkB w' b1 b2 b3 m vl l M' ∧ Spread l M M' n ∧ Keep (fun q => q = m) w w' := by
 have HB := hid hB
 have Hin := hid hin
 have hL := look_mark hB.map (n := n) (by omega)
 rw [decide_eq_true hin] at hL
 have c1 := hB.c1.av 0 rfl
 simp only [qA0, qA1] at c1
 clear hB hin
 go_enter Tryz.func85, Tryz.ntmps85
 go_wp2
 go_end0
 exact ⟨rfl, M, HB.out, Spread.none (fun _ => Hin.out), Keep.refl _ _⟩
set_option maxRecDepth 100000 in
set_option maxHeartbeats 3200000 in
theorem neededc_new (b1 b2 b3 m : Nat) (vl : Value) (l : List ST) (n : Int) (M : List Int) (w : World) (hB : MarkB w b1 b2 b3 m vl l M) (hnl : n < l.length) (hll : l.length ≤ 16000) (hn : 0 ≤ n) (hin : n ∉ M) (hlow : LowL l) (ih : ∀ (n' : Int) (M' : List Int) (w' : World), n' < n → MarkB w' b1 b2 b3 m vl l M' → Calls Tryz.prog 85 #[.int .i64 n', .pointer (some ⟨b1, 0, none⟩), .pointer (some ⟨b2, 0, none⟩), .pointer (some ⟨b3, 0, none⟩)] w' fun x w2 => x = .returned (.tuple #[]) ∧ ∃ M2, MarkB w2 b1 b2 b3 m vl l M2 ∧ Spread l M' M2 n' ∧ Keep (fun q => q = m) w' w2) :
  Calls Tryz.prog 85 #[.int .i64 n, .pointer (some ⟨b1, 0, none⟩), .pointer (some ⟨b2, 0, none⟩), .pointer (some ⟨b3, 0, none⟩)] w fun x w' => x = .returned (.tuple #[]) ∧ ∃ M', MarkB w' b1 b2 b3 m vl l M' ∧ Spread l M M' n ∧ Keep (fun q => q = m) w w' := by
 obtain ⟨k, rfl⟩ := Int.eq_ofNat_of_zero_le hn
 have hkl : k < l.length := by omega
 obtain ⟨s, hs⟩ : ∃ s, l[k]? = some s := ⟨_, List.getElem?_eq_getElem hkl⟩
 obtain ⟨⟨_, f1⟩, ⟨_, f2⟩⟩ := hlow k s hs
 obtain ⟨g8, c8, rfl⟩ := own_some hB.row (by omega)
 have hL := look_mark hB.map (n := (k : Int)) (by omega)
 rw [decide_eq_false hin] at hL
 obtain ⟨lk, hlk⟩ := key_int (a := (k : Int)) (by omega)
 obtain ⟨w1, hrun, r1, r2⟩ := run_kmap_put int_keyed64 intV_inj Tryz.underlying120 hB.map hlk (.bool true)
 have HB1 : Hid (MarkB w1 b1 b2 b3 m (.slice (some ⟨g8, 0, none⟩) l.length c8) l ((k : Int) :: M)) := hid (hB.to r2 (r1.eq fun q => by
  unfold markF
  by_cases e : q = (k : Int)
  ·rw [if_pos e, if_pos (by rw [e]; exact List.mem_cons_self)]
  ·rw [if_neg e]
   by_cases g : q ∈ M
   ·rw [if_pos g, if_pos (List.mem_cons_of_mem _ g)]
   ·rw [if_neg g, if_neg fun h => (List.mem_cons.1 h).elim e g]))
 have R2 := hid r2
 have Hs := hid hs
 have Hlow := hid hlow
 have HIH := hid ih
 have F1 := hid f1
 have F2 := hid f2
 have c1 := hB.c1.av 0 rfl
 simp only [qA0, qA1] at c1
 clear hB hin hlow ih hlk r1 r2 hs f1 f2
 go_enter Tryz.func85, Tryz.ntmps85
 go_wp2
 have d2 := HB1.out.c2.kc (X := fun q => q = m) (HB1.out.map.ne HB1.out.c2) 0 rfl
 have d3 := HB1.out.c3.kc (X := fun q => q = m) (HB1.out.map.ne HB1.out.c3) 0 rfl
 simp only [qA0, qA1] at d2 d3
 have q3 : ∀ wx, Keep (fun q => q = m) w1 wx → wx.cell? ⟨g8, k * 5 + 3, none⟩ = some (.int .i64 s.frm) := fun wx kk => (own_st (own_off HB1.out.row kk fun b e => by rintro ⟨c, hc⟩; exact HB1.out.map.not_blk (e ▸ hc)) Hs.out).2.2.2.1
 refine wp_flowT (fun q => q = m) (by kernel_rfl) (by kernel_rfl) ?_
 repeat (apply FlowT.d; (intro w1 hk; unfold does; go_simp; (try go_ints); (first | exact DetR.mk | (simp only [↓IntWalk.iteOmega, Oper.doesUpon_value]; exact DetR.mk) | (simp only [↓IntWalk.iteOmega]; go_simp; (try go_ints); exact DetR.mk))); simp only [Act.put, qS0, qS1, qS2])
 refine FlowT.s (fun v w' => v = .tuple #[] ∧ ∃ N, MarkB w' b1 b2 b3 m (.slice (some ⟨g8, 0, none⟩) l.length c8) l N ∧ Spread l ((k : Int) :: M) N s.frm ∧ Keep (fun q => q = m) w1 w') 6 rfl (by kernel_rfl) (fun _ _ _ ⟨h0, N, g1, g2, g3⟩ x => ⟨h0, N, g1.ext x, g2, g3.ext_r x⟩) (fun w5 hx hk => ?_) ?_
 ·have HC := HIH.out s.frm ((k : Int) :: M) w5 F1.out (HB1.out.ext hx)
  unfold does
  go_simp
  refine CallR.act (HC.mono ?_)
  rintro e w7 ⟨rfl, N, g1, g2, g3⟩
  exact ⟨_, rfl, hk.trans g3, rfl, N, g1, g2, (hx.keep _).trans g3⟩
 rintro _ ⟨_, rfl, _, _⟩
 simp only [Act.put, qS0, qS1, qS2]
 refine FlowT.fin fun w6 hR _ => ?_
 obtain ⟨_, M2, hN⟩ := hR
 have HB2 := hid hN
 clear hN d2 d3 q3
 go_wp2
 clear HB1
 have d2 := HB2.out.1.c2.kc (X := fun q => q = m) (HB2.out.1.map.ne HB2.out.1.c2) 0 rfl
 have d3 := HB2.out.1.c3.kc (X := fun q => q = m) (HB2.out.1.map.ne HB2.out.1.c3) 0 rfl
 simp only [qA0, qA1] at d2 d3
 have q4 : ∀ wx, Keep (fun q => q = m) w6 wx → wx.cell? ⟨g8, k * 5 + 4, none⟩ = some (.int .i64 s.via) := fun wx kk => (own_st (own_off HB2.out.1.row kk fun b e => by rintro ⟨c, hc⟩; exact HB2.out.1.map.not_blk (e ▸ hc)) Hs.out).2.2.2.2
 refine wp_flowT (fun q => q = m) (by kernel_rfl) (by kernel_rfl) ?_
 repeat (apply FlowT.d; (intro w1 hk; unfold does; go_simp; (try go_ints); (first | exact DetR.mk | (simp only [↓IntWalk.iteOmega, Oper.doesUpon_value]; exact DetR.mk) | (simp only [↓IntWalk.iteOmega]; go_simp; (try go_ints); exact DetR.mk))); simp only [Act.put, qS0, qS1, qS2])
 refine FlowT.s (fun v w' => v = .tuple #[] ∧ ∃ N, MarkB w' b1 b2 b3 m (.slice (some ⟨g8, 0, none⟩) l.length c8) l N ∧ Spread l M2 N s.via ∧ Keep (fun q => q = m) w6 w') 6 rfl (by kernel_rfl) (fun _ _ _ ⟨h0, N, g1, g2, g3⟩ x => ⟨h0, N, g1.ext x, g2, g3.ext_r x⟩) (fun w5 hx hk => ?_) ?_
 ·have HC := HIH.out s.via M2 w5 F2.out (HB2.out.1.ext hx)
  unfold does
  go_simp
  refine CallR.act (HC.mono ?_)
  rintro e w7 ⟨rfl, N, g1, g2, g3⟩
  exact ⟨_, rfl, hk.trans g3, rfl, N, g1, g2, (hx.keep _).trans g3⟩
 rintro _ ⟨_, rfl, _, _⟩
 simp only [Act.put, qS0, qS1, qS2]
 refine FlowT.fin fun w6 hR _ => ?_
 obtain ⟨_, M3, hN⟩ := hR
 have HB3 := hid hN
 clear hN d2 d3 q4
 go_wp2
 go_end0
 exact ⟨rfl, M3, HB3.out.1, Spread.step Hs.out Hlow.out HB2.out.2.1 HB3.out.2.1, R2.out.trans (HB2.out.2.2.trans HB3.out.2.2)⟩
end Go.Proofs.YtngdpnlgnpdkcaaGreatDoor
namespace Go.Proofs.YtngdpnlgnpdkcaaGreatDoor
open Go Go.RowKit
theorem wait_in {P : PP} {S : List (List Int)} {s : SV} (hg : P.GoodS S) (h : Core P S s) : ∀ f ∈ s.wait, (0 ≤ f.1 ∧ f.1 < P.nodesV) ∧ (0 ≤ f.2 ∧ f.2 < P.objectsV) := fun f hf => by
 have hfw := h.wait f hf
 have hlen := hg.2.1
 have hin : f.2 ∈ S.getD f.1.toNat [] := hfw.2
 rw [List.getD_eq_getElem?_getD, List.getElem?_eq_getElem (show f.1.toNat < S.length by omega)] at hin
 have hk := hg.ok.ok _ (List.getElem_mem (show f.1.toNat < S.length by omega))
 exact ⟨hfw.1, ((chkE_zero.1 hk.1).1 _ hin).1, hk.2 _ hin⟩
def lenAt (w : World) (g : Nat) : Nat := match w.cell? ⟨g, 8, none⟩ with
 | some (.slice _ n _) => n
 | _ => 0
def SV.ask (P : PP) (f : Int × Int) (s : SV) (r : RV) : SV := bif r.fired && decide (r.pivot = f.1) then s.fire P r f.2 else s
def SV.told1 (s : SV) (f : Int × Int) : SV := { s with wait := s.wait ++ (s.succ f.1).map fun t => (t, f.2) }
theorem came_ask (P : PP) (s : SV) (f : Int × Int) : s.came P f = s.rules.foldl (SV.ask P f) (s.told1 f) := rfl
theorem ask_step {P : PP} {S : List (List Int)} (hg : P.GoodS S) (hc : ClosedP P S) {f : Int × Int} (hf : f.2 ∈ S.getD f.1.toNat []) {s : SV} (h : Core P S s) (hb : s.Bnd P) {r : RV} (hr : r ∈ P.rulesV) :
  Core P S (s.ask P f r) ∧ (s.ask P f r).Bnd P ∧ (s.ask P f r).rules = s.rules := by
 unfold SV.ask
 cases h1 : (r.fired && decide (r.pivot = f.1)) with
 | false => exact ⟨h, hb, rfl⟩
 | true =>
  rw [Bool.and_eq_true] at h1
  have hp := of_decide_eq_true h1.2
  have ho : f.2 ∈ S.getD r.pivot.toNat [] := by rw [hp]; exact hf
  obtain ⟨k1, _, k3, _⟩ := h.fire hg hc hr h1.1 ho
  exact ⟨k1, bnd_fire hg hc h hb hr h1.1 ho, k3⟩
section
variable {P : PP} {S : List (List Int)} {s : SV}
theorem asks_fold (hg : P.GoodS S) (hc : ClosedP P S) {f : Int × Int} (hf : f.2 ∈ S.getD f.1.toNat []) : ∀ (l : List RV) {s : SV}, Core P S s → s.Bnd P → (∀ r ∈ l, r ∈ P.rulesV) → Core P S (l.foldl (SV.ask P f) s) ∧ (l.foldl (SV.ask P f) s).Bnd P ∧ (l.foldl (SV.ask P f) s).rules = s.rules
 | [], _, h, b, _ => ⟨h, b, rfl⟩
 | r :: l, _, h, b, hr => by
  obtain ⟨k1, k2, k3⟩ := ask_step hg hc hf h b (hr r List.mem_cons_self)
  obtain ⟨j1, j2, j3⟩ := asks_fold hg hc hf l k1 k2 fun q hq => hr q (List.mem_cons_of_mem _ hq)
  exact ⟨j1, j2, j3.trans k3⟩
theorem wait_fact (hg : P.GoodS S) (h : Full P S s) {f : Int × Int} {r : List (Int × Int)} (hw : s.wait = f :: r) : ((0 ≤ f.1 ∧ f.1 < P.nodesV) ∧ f.2 ∈ S.getD f.1.toNat []) ∧ 0 ≤ f.2 ∧ f.2 < P.objectsV := by
 have hm : f ∈ s.wait := by rw [hw]; exact List.mem_cons_self
 exact ⟨h.core.wait f hm, (wait_in hg h.core f hm).2⟩
theorem mark_tot (hg : P.GoodS S) (h : Full P S s) (hr : s.ready) {f : Int × Int} {r : List (Int × Int)} (hw : s.wait = f :: r) : (s.mark f).tot P = s.tot P + 1 := by
 obtain ⟨hf, h2⟩ := wait_fact hg h hw
 have hl1 : f.1.toNat < s.has.length := by rw [h.core.len]; omega
 refine tot_mark h.core.len hf.1 ⟨h2.1, ?_⟩ (hr f r hw)
 rw [List.getD_eq_getElem?_getD, List.getElem?_eq_getElem hl1]
 have := h.core.row _ (List.getElem_mem hl1)
 show f.2.toNat < (s.has[f.1.toNat]).length
 omega
theorem told1_bnd (hg : P.GoodS S) (h : Full P S s) (b : s.Bnd P) (hr : s.ready) {f : Int × Int} {r : List (Int × Int)} (hw : s.wait = f :: r) : ((s.mark f).told1 f).Bnd P := by
 have e : ((s.mark f).told1 f).tot P = s.tot P + 1 := by rw [← mark_tot hg h hr hw]; exact tot_has rfl
 refine ⟨b.nd, b.ru, ?_⟩
 rw [e]
 have h1 : (s.succ f.1).length ≤ 14400 := Nat.le_trans (succ_few s f.1) (h.core.edges_few hg.1 b.nd)
 have h2 := b.le
 show (s.wait ++ (s.succ f.1).map fun t => (t, f.2)).length ≤ s.rules.length + s.edges.length * P.objectsV + _
 rw [List.length_append, List.length_map]
 omega
theorem bnd_came (hg : P.GoodS S) (hc : ClosedP P S) (h : Full P S s) (b : s.Bnd P) (hr : s.ready) {f : Int × Int} {r : List (Int × Int)} (hw : s.wait = f :: r) : ((s.mark f).came P f).Bnd P := by
 obtain ⟨hf, h2⟩ := wait_fact hg h hw
 rw [came_ask]
 exact (asks_fold hg hc hf.2 _ (h.marked hg hf h2) (told1_bnd hg h b hr hw) fun q hq => h.of q hq).2.1
theorem bnd_clean (b : s.Bnd P) : s.clean.Bnd P := by
 refine ⟨b.nd, b.ru, ?_⟩
 rw [tot_has (clean_has s)]
 refine Nat.le_trans ?_ b.le
 exact (List.dropWhile_suffix s.bit).length_le
theorem bnd_one (hg : P.GoodS S) (hc : ClosedP P S) (h : Full P S s) (b : s.Bnd P) (hr : s.ready) : (s.one P).Bnd P := by
 cases hw : s.wait with
 | nil =>
  have e : s.one P = s := by unfold SV.one; rw [hw]
  rw [e]; exact b
 | cons f r =>
  have e : s.one P = ((s.mark f).came P f).clean := by unfold SV.one; rw [hw]
  rw [e]
  exact bnd_clean (bnd_came hg hc h b hr hw)
def SV.step (P : PP) (s : SV) (n : Int) : SV × Nat := s.clean.steps P n.toNat
theorem steps_nil (P : PP) : ∀ (k : Nat) {s : SV}, s.wait = [] → s.steps P k = (s, 0)
 | 0, _, _ => rfl
 | k + 1, _, h => by unfold SV.steps; rw [h]
theorem steps_cons (P : PP) (k : Nat) {s : SV} {f : Int × Int} {r : List (Int × Int)} (h : s.wait = f :: r) : s.steps P (k + 1) = (((s.one P).steps P k).1, ((s.one P).steps P k).2 + 1) := by
 conv => lhs; unfold SV.steps
 rw [h]
theorem steps_bnd (hg : P.GoodS S) (hc : ClosedP P S) : ∀ (k : Nat) {s : SV}, Full P S s → s.Bnd P → s.ready → (s.steps P k).1.Bnd P
 | 0, _, _, b, _ => b
 | k + 1, s, h, b, hr => by
  cases hw : s.wait with
  | nil => rw [steps_nil P _ hw]; exact b
  | cons f r =>
   rw [steps_cons P k hw]
   obtain ⟨k1, k2, _⟩ := h.one hg hc hr hw
   exact steps_bnd hg hc k k1 (bnd_one hg hc h b hr) k2
structure SolvOk (P : PP) (S : List (List Int)) (s : SV) : Prop where
 full : Full P S s
 bnd : s.Bnd P
theorem SolvOk.clean (h : SolvOk P S s) : SolvOk P S s.clean := ⟨h.full.cleaned, bnd_clean h.bnd⟩
theorem SolvOk.step (hg : P.GoodS S) (hc : ClosedP P S) (h : SolvOk P S s) (n : Int) :
  SolvOk P S (s.step P n).1 ∧ (s.step P n).1.ready ∧ (s.step P n).1.rules = s.rules ∧ (s.step P n).1.tot P = s.tot P + (s.step P n).2 ∧ (s.step P n).2 ≤ n.toNat ∧ ((s.step P n).2 < n.toNat → (s.step P n).1.wait = []) := by
 obtain ⟨k1, k2, k3, k4, k5, k6⟩ := steps_keep hg hc n.toNat h.full.cleaned (clean_ready s)
 exact ⟨⟨k1, steps_bnd hg hc _ h.full.cleaned (bnd_clean h.bnd) (clean_ready s)⟩, k2, k3, by rw [← tot_has (clean_has s)]; exact k4, k5, k6⟩
end
def SV.hasL (P : PP) (s : SV) (n : Int) : List Int := if n < 0 ∨ (P.nodesV : Int) ≤ n then [] else s.objs n
theorem Core.push {P : PP} {S : List (List Int)} {s : SV} (h : Core P S s) {r : RV} (n1 : r.kind.toList ≠ bBase.toList) (n2 : r.kind.toList ≠ kCopy) : Core P S { s with rules := s.rules ++ [r] } :=
 ⟨h.len, h.row, h.wait, h.bit, h.edge, h.along, fun q hq hk => by
   rcases List.mem_append.1 hq with hq | hq
   ·exact h.base q hq hk
   ·obtain rfl := List.mem_singleton.1 hq
    exact absurd hk n1, fun q hq hk => by
   rcases List.mem_append.1 hq with hq | hq
   ·exact h.copy q hq hk
   ·obtain rfl := List.mem_singleton.1 hq
    exact absurd hk n2⟩
theorem bnd_push {P : PP} {s : SV} (b : s.Bnd P) (r : RV) (h : s.rules.length < 80) : SV.Bnd P { s with rules := s.rules ++ [r] } := by
 have h1 := b.le
 refine ⟨b.nd, by simp only [List.length_append, List.length_singleton]; omega, ?_⟩
 have e : SV.tot P { s with rules := s.rules ++ [r] } = s.tot P := tot_has rfl
 rw [e]
 simp only [List.length_append, List.length_singleton]
 omega
theorem bnd_fires {P : PP} {S : List (List Int)} (hg : P.GoodS S) (hc : ClosedP P S) {r : RV} (hr : r ∈ P.rulesV) (hf : r.fired = true) : ∀ (l : List Int) {s : SV}, Core P S s → s.Bnd P → (∀ o ∈ l, o ∈ S.getD r.pivot.toNat []) → (l.foldl (fun s o => s.fire P r o) s).Bnd P
 | [], _, _, b, _ => b
 | o :: l, _, h, b, hs => bnd_fires hg hc hr hf l (h.fire hg hc hr hf (hs o List.mem_cons_self)).1 (bnd_fire hg hc h b hr hf (hs o List.mem_cons_self)) fun q hq => hs q (List.mem_cons_of_mem _ hq)
theorem bnd_add {P : PP} {S : List (List Int)} {s : SV} (hg : P.GoodS S) (hc : ClosedP P S) (h : Full P S s) (b : s.Bnd P) {r : RV} (hr : r ∈ P.rulesV) (h80 : s.rules.length < 80) : (s.add P r).Bnd P := by
 unfold SV.add
 cases h1 : (r.kind.toList == bBase.toList) with
 | true =>
  rw [cond_true]
  have h2 := b.le
  refine ⟨b.nd, by simp only [List.length_append, List.length_singleton]; omega, ?_⟩
  have e : SV.tot P { s with rules := s.rules ++ [r], wait := s.wait ++ [(r.a, r.b)] } = s.tot P := tot_has rfl
  rw [e]
  simp only [List.length_append, List.length_singleton]
  omega
 | false =>
 have n1 : r.kind.toList ≠ bBase.toList := fun e => by rw [e] at h1; simp at h1
 rw [cond_false]
 have hb := bnd_push b r h80
 cases h2 : (r.kind.toList == kCopy) with
 | true =>
  rw [cond_true]
  have hm : SV.edge { s with rules := s.rules ++ [r] } (r.a, r.b) = { s.edge (r.a, r.b) with rules := s.rules ++ [r] } := by unfold SV.edge; split <;> rfl
  have := (b.edgeTo h.core (r.a, r.b))
  rw [hm]
  have h5 := bnd_push (s := s.edge (r.a, r.b)) this r (by rw [edge_rules]; exact h80)
  rw [edge_rules] at h5
  exact h5
 | false =>
 have n2 : r.kind.toList ≠ kCopy := fun e => by rw [e] at h2; simp at h2
 have hf : r.fired = true := by
  rcases rule_kinds hg.1 hr with g | g | g
  ·exact absurd g n1
  ·exact absurd g n2
  ·exact g
 rw [cond_false]
 refine bnd_fires hg hc hr hf _ (h.core.push n1 n2) hb fun o ho => ?_
 obtain ⟨h0, hb⟩ := mem_objs.1 ho
 exact h.core.bit (r.pivot, o) hb h0
theorem SolvOk.add {P : PP} {S : List (List Int)} {s : SV} (hg : P.GoodS S) (hc : ClosedP P S) (h : SolvOk P S s) {r : RV} (hr : r ∈ P.rulesV) (h80 : s.rules.length < 80) : SolvOk P S (s.add P r) := ⟨(h.full.added hg hc hr).1, bnd_add hg hc h.full h.bnd hr h80⟩
section
variable {w w1 w2 : World} {G F : Nat → Prop} {g : Nat} {ad : Nat → Addr} {a1 a2 a3 : Option Addr} {c1 c2 c3 : Nat} {P : PP} {vr : Value} {rs : List R2} {vh : Value} {hs : List Value} {m1 m2 : Nat} {f1 : Int → Option Value} {vw : Value} {s : SV}
end
end Go.Proofs.YtngdpnlgnpdkcaaGreatDoor
namespace Go.Proofs.YtngdpnlgnpdkcaaGreatDoor
open Go Go.RowKit
open Go.Maps (Keyed)
theorem neededc_any (b1 b2 b3 m : Nat) (vl : Value) (l : List ST) (hll : l.length ≤ 16000) (hlow : LowL l) : ∀ (d : Nat) (n : Int) (M : List Int) (w : World), n < d → n < l.length → MarkB w b1 b2 b3 m vl l M →
  Calls Tryz.prog 85 #[.int .i64 n, .pointer (some ⟨b1, 0, none⟩), .pointer (some ⟨b2, 0, none⟩), .pointer (some ⟨b3, 0, none⟩)] w fun x w' => x = .returned (.tuple #[]) ∧ ∃ M', MarkB w' b1 b2 b3 m vl l M' ∧ Spread l M M' n ∧ Keep (fun q => q = m) w w' := by
 intro d
 induction d with
 | zero => intro n M w hn hnl hB; exact neededc_neg b1 b2 b3 m vl l n M w hB hnl hll (by omega)
 | succ d ih =>
  intro n M w hn hnl hB
  by_cases h0 : n < 0
  ·exact neededc_neg b1 b2 b3 m vl l n M w hB hnl hll h0
  ·by_cases hin : n ∈ M
   ·exact neededc_old b1 b2 b3 m vl l n M w hB hnl hll (by omega) hin
   ·exact neededc_new b1 b2 b3 m vl l n M w hB hnl hll (by omega) hin hlow fun n' M' w' h1 h2 => ih n' M' w' (by omega) (by omega) h2
theorem Spread.marked {l : List ST} {M : List Int} {i : Nat} (h : Spread l [] M i) : Marked l M i :=
 ⟨h.top (by omega), fun j hj => (h.le j hj).resolve_left (by simp), fun j s hj hs => h.kid j s hj (by simp) hs⟩
def rankF (M : List Int) (k : Nat) (q : Int) : Option Value := if q = -1 then some (.int .i64 (-1)) else if 0 ≤ q ∧ q < k ∧ q ∈ M then some (.int .i64 ((kept M q.toNat).length : Int)) else none
theorem rankF_zero (M : List Int) (q : Int) : rankF M 0 q = if q = -1 then some (.int .i64 (-1)) else none := by
 unfold rankF
 by_cases h : q = -1
 ·rw [if_pos h, if_pos h]
 ·rw [if_neg h, if_neg h, if_neg (by omega)]
theorem rankF_in {M : List Int} {k : Nat} (h : (k : Int) ∈ M) (q : Int) : rankF M (k + 1) q = if q = (k : Int) then some (.int .i64 ((kept M k).length : Int)) else rankF M k q := by
 unfold rankF
 by_cases h1 : q = -1
 ·rw [if_pos h1, if_neg (by omega), if_pos h1]
 ·rw [if_neg h1, if_neg h1]
  by_cases h2 : q = (k : Int)
  ·rw [if_pos h2, if_pos ⟨by omega, by omega, h2 ▸ h⟩, h2, Int.toNat_natCast]
  ·rw [if_neg h2]
   by_cases h3 : 0 ≤ q ∧ q < k ∧ q ∈ M
   ·rw [if_pos h3, if_pos ⟨h3.1, by omega, h3.2.2⟩]
   ·rw [if_neg h3, if_neg fun g => h3 ⟨g.1, by omega, g.2.2⟩]
theorem rankF_out {M : List Int} {k : Nat} (h : (k : Int) ∉ M) (q : Int) : rankF M (k + 1) q = rankF M k q := by
 unfold rankF
 by_cases h1 : q = -1
 ·rw [if_pos h1, if_pos h1]
 ·rw [if_neg h1, if_neg h1]
  by_cases h3 : 0 ≤ q ∧ q < k ∧ q ∈ M
  ·rw [if_pos h3, if_pos ⟨h3.1, by omega, h3.2.2⟩]
  ·rw [if_neg h3, if_neg fun g => h3 ⟨g.1, by
    rcases Int.lt_or_le q k with e | e
    ·exact e
    ·exact absurd (show (k : Int) ∈ M by rw [show (k : Int) = q by omega]; exact g.2.2) h, g.2.2⟩]
theorem rankF_at {M : List Int} {k : Nat} {q : Int} (h0 : -1 ≤ q) (h1 : q < k) (h2 : 0 ≤ q → q ∈ M) : rankF M (k + 1) q = some (.int .i64 (rankI M q)) := by
 unfold rankF rankI
 by_cases h : q = -1
 ·rw [if_pos h, if_pos (by omega)]
 ·rw [if_neg h, if_pos ⟨by omega, by omega, h2 (by omega)⟩, if_neg (by omega)]
theorem key_int1 {a : Int} (h : -1 ≤ a ∧ a < 1000000) : ∃ l, keyOf Tryz.prog 3 (Value.int .i64 a) = some l := by
 refine ⟨.int .i64 a, ?_⟩
 have : (Lit.int .i64 a).wf = true := by
  simp [Lit.wf, IntKind.min, IntKind.max, IntKind.signed, IntKind.bits]
  omega
 simp [keyOf, mapKey, Tryz.underlying3, this]
theorem look_rank {w : World} {m k : Nat} {M : List Int} (h : KMap Tryz.prog 3 (Value.int .i64) w m (rankF M (k + 1))) {q : Int} (h0 : -1 ≤ q) (h1 : q < k) (h2 : 0 ≤ q → q ∈ M) (hk : k ≤ 16000) :
  (Instr.lookup 148 (.map (some m)) (.int .i64 q) false).run Tryz.prog w = .ok (.int .i64 (rankI M q)) w := by
 obtain ⟨lk, hlk⟩ := key_int1 (a := q) (by omega)
 have := run_kmap_lookup int_keyed64 intV_inj Tryz.underlying148 h hlk (zero_int1 w) false
 rw [this, rankF_at h0 h1 h2]; rfl
theorem neededUp_succ (l : List ST) (M : List Int) (k : Nat) {x : ST} (hx : l[k]? = some x) : neededUp l M (k + 1) = neededUp l M k ++ if (k : Int) ∈ M then [renum M x] else [] := by
 unfold neededUp
 rw [kept_succ, List.map_append]
 congr 1
 by_cases h : (k : Int) ∈ M
 ·rw [if_pos h, if_pos h, List.map_singleton, List.getD_eq_getElem?_getD, hx]; rfl
 ·rw [if_neg h, if_neg h]; rfl
theorem neededUp_len (l : List ST) (M : List Int) (k : Nat) : (neededUp l M k).length = (kept M k).length := by unfold neededUp; rw [List.length_map]
theorem kept_le (M : List Int) (k : Nat) : (kept M k).length ≤ k := by
 unfold kept
 have := List.length_filter_le (fun j : Nat => decide ((j : Int) ∈ M)) (List.range k)
 rwa [List.length_range] at this
section
variable {P : Program} {ops : Array Oper} {w0 : World} {Q : Act → World → Prop} {X : Nat → Prop} {L : List Nat}
theorem Flow.two {listed : Array Bool} {C : World → Prop} {a : Act} (i j : Nat) (oi oj : Oper) (hoi : ops[i]? = some oi) (hoj : ops[j]? = some oj) (hij : i ≠ j) (hr : (Region.ready .any ops listed == [i, j]) = true) (Ri Rj : Value → World → Prop)
  (hRi : ∀ v w w', Ri v w → Ext w w' → Ri v w') (hRj : ∀ v w w', Rj v w → Ext w w' → Rj v w') (hi : ∀ w, C w → Keep X w0 w → does P ops oi a w (ActR X w0 Ri)) (hj : ∀ w, C w → Keep X w0 w → does P ops oj a w (ActR X w0 Rj))
  (ki : ∀ v, (∃ w, Ri v w) → Flow P ops w0 Q X L (listed.setIfInBounds i true) (Ri v) (a.put oi.dst v)) (kj : ∀ v, (∃ w, Rj v w) → Flow P ops w0 Q X L (listed.setIfInBounds j true) (Rj v) (a.put oj.dst v)) : Flow P ops w0 Q X L listed C a := by
 refine Flow.acts [i, j] hr (by simp) (fun n => if n = i then oi else oj) (fun n v w => if n = i then Ri v w else Rj v w) (fun n v w w' h x => ?_) (fun n hn => ?_) (fun n hn => ?_)
 ·by_cases e : n = i
  ·simp only [e, if_true] at h ⊢; exact hRi _ _ _ h x
  ·simp only [e, if_false] at h ⊢; exact hRj _ _ _ h x
 ·by_cases e : n = i
  ·simp only [if_pos e]; rw [e]; exact ⟨hoi, hi⟩
  ·have e2 : n = j := (by simpa using hn : n = i ∨ n = j).resolve_left e
   simp only [if_neg e]; rw [e2]; exact ⟨hoj, hj⟩
 ·by_cases e : n = i
  ·simp only [if_pos e]; rw [e]; exact ki
  ·have e2 : n = j := (by simpa using hn : n = i ∨ n = j).resolve_left e
   simp only [if_neg e]; rw [e2]; exact kj
end
set_option maxRecDepth 100000 in
set_option maxHeartbeats 6400000 in
theorem needed_any (v : Value) (l : List ST) (i : Nat) (w : World) (h : w.ownsRow 0 47 5 v l.length (l.flatMap stCells)) (hi : i < l.length) (hll : l.length ≤ 16000) (hlow : LowL l) :
  Calls Tryz.prog 36 #[v, .int .i64 (i : Int)] w fun x w' => ∃ v' M, x = .returned v' ∧ Marked l M i ∧ w'.ownsRow w.heap.size 47 5 v' (neededUp l M l.length).length ((neededUp l M l.length).flatMap stCells) ∧ Ext w w' := by
 obtain ⟨g8, c8, rfl⟩ := own_some h (by omega)
 have HH := hid h
 have Hlow := hid hlow
 clear h hlow
 obtain ⟨W1, hW1⟩ : ∃ W1, W1 = w.alloc (.cells #[.slice (some ⟨g8, 0, none⟩) l.length c8] 29) := ⟨_, rfl⟩
 obtain ⟨W2, hW2⟩ : ∃ W2, W2 = W1.alloc (.map #[] 0) := ⟨_, rfl⟩
 obtain ⟨W3, hW3⟩ : ∃ W3, W3 = W2.alloc (.cells #[.map (some (w.heap.size + 1))] 120) := ⟨_, rfl⟩
 obtain ⟨W5, hW5⟩ : ∃ W5, W5 = W3.alloc (.cells #[.func (.func 85) #[] #[.pointer (some ⟨w.heap.size + 1 + 1, 0, none⟩), .pointer (some ⟨w.heap.size + 1 + 1 + 1, 0, none⟩), .pointer (some ⟨w.heap.size, 0, none⟩)]] 147) := ⟨_, rfl⟩
 have s1 : W1.heap.size = w.heap.size + 1 := by rw [hW1, heap_size_alloc]
 have s2 : W2.heap.size = w.heap.size + 1 + 1 := by rw [hW2, heap_size_alloc, s1]
 have s3 : W3.heap.size = w.heap.size + 1 + 1 + 1 := by rw [hW3, heap_size_alloc, s2]
 have x1 : Ext w W1 := by rw [hW1]; exact (Ext.refl _).alloc _
 have x2 : Ext W1 W2 := by rw [hW2]; exact (Ext.refl _).alloc _
 have x3 : Ext W2 W3 := by rw [hW3]; exact (Ext.refl _).alloc _
 have x4 : Ext W3 W5 := by rw [hW5]; exact (Ext.refl _).alloc _
 have x5 : Ext w W5 := ((x1.trans x2).trans x3).trans x4
 have b0 : Blk W1 w.heap.size #[.slice (some ⟨g8, 0, none⟩) l.length c8] 29 := by rw [hW1]; exact Blk.new _ _ _
 have m1 : KMap Tryz.prog 3 (Value.int .i64) W2 (w.heap.size + 1) (fun _ => none) := by rw [← s1, hW2]; exact KMap.new _ _ _ _
 have b2 : Blk W3 (w.heap.size + 1 + 1) #[.map (some (w.heap.size + 1))] 120 := by rw [← s2, hW3]; exact Blk.new _ _ _
 have b3' : Blk W5 (w.heap.size + 1 + 1 + 1) #[.func (.func 85) #[] #[.pointer (some ⟨w.heap.size + 1 + 1, 0, none⟩), .pointer (some ⟨w.heap.size + 1 + 1 + 1, 0, none⟩), .pointer (some ⟨w.heap.size, 0, none⟩)]] 147 := by
  have := Blk.new W3 #[.func (.func 85) #[] #[.pointer (some ⟨w.heap.size + 1 + 1, 0, none⟩), .pointer (some ⟨w.heap.size + 1 + 1 + 1, 0, none⟩), .pointer (some ⟨w.heap.size, 0, none⟩)]] 147
  rw [s3] at this
  rw [hW5]; exact this
 have HMk : Hid (MarkB W5 (w.heap.size + 1 + 1) (w.heap.size + 1 + 1 + 1) w.heap.size (w.heap.size + 1) (.slice (some ⟨g8, 0, none⟩) l.length c8) l []) := hid
  ⟨b2.ext x4, b3', ((b0.ext x2).ext x3).ext x4, own_ext HH.out x5, ((m1.ext x3).ext x4).eq fun q => by unfold markF; rw [if_neg (by simp)]⟩
 have HWe : Hid (W5 = _) := hid hW5
 have HX5 := hid x5
 have HC := hid (neededc_any (w.heap.size + 1 + 1) (w.heap.size + 1 + 1 + 1) w.heap.size (w.heap.size + 1) (.slice (some ⟨g8, 0, none⟩) l.length c8) l hll Hlow.out (i + 1) (i : Int) [] W5 (by omega) (by omega) HMk.out)
 rw [hW3, hW2, hW1] at HWe
 have hmm := @run_makeMap Tryz.prog
 have hsf := fun (a : Addr) (c : Array Value) (w : World) => run_store Tryz.prog w a (.func (.func 85) #[] c) .plain rfl
 clear hW1 hW2 hW3 hW5 s1 s2 s3 x1 x2 x3 x4 x5 b0 m1 b2 b3'
 go_enter Tryz.func36, Tryz.ntmps36
 go_wp2_with fail
 rw [← HWe.out]
 refine HC.out.mono ?_
 intro x w6 hx
 obtain ⟨rfl, M, hM6, hsp, hk6⟩ := hx
 have HX6 : Hid (Ext w w6) := hid (Keep.new HX5.out hk6 fun b e => by rw [e]; omega)
 have HM6 := hid hM6
 have HMm := hid hsp.marked
 clear HC hM6 hsp hk6 hmm hsf HMk HX5 HWe
 obtain ⟨W7, hW7⟩ : ∃ W7, W7 = w6.alloc (.map #[] 0) := ⟨_, rfl⟩
 have x7 : Ext w6 W7 := by rw [hW7]; exact (Ext.refl _).alloc _
 have m7 : KMap Tryz.prog 3 (Value.int .i64) W7 w6.heap.size (fun _ => none) := by rw [hW7]; exact KMap.new _ _ _ _
 obtain ⟨lk, hlk⟩ := key_int1 (a := -1) (by omega)
 obtain ⟨w8, hrun, r1, r2⟩ := run_kmap_put int_keyed64 intV_inj Tryz.underlying148 m7 hlk (.int .i64 (-1))
 rw [hW7] at hrun
 have HX8 : Hid (Ext w6 w8) := hid (Keep.new x7 r2 fun b e => by rw [e]; omega)
 have HM8 : Hid (MarkB w8 (w.heap.size + 1 + 1) (w.heap.size + 1 + 1 + 1) w.heap.size (w.heap.size + 1) (.slice (some ⟨g8, 0, none⟩) l.length c8) l M) := hid (HM6.out.ext HX8.out)
 have HR8 : Hid (KMap Tryz.prog 3 (Value.int .i64) w8 w6.heap.size (rankF M 0)) := hid (r1.eq fun q => (rankF_zero M q).symm)
 have hmm := @run_makeMap Tryz.prog
 have c3 := HM8.out.c3.av 0 rfl
 simp only [qA0, qA1] at c3
 clear hW7 x7 m7 r1 r2 hlk
 go_wp2_with fail
 go_loopw [8, 20] (fun t8 t20 wr => ∃ (k : Nat) (a : Option Addr) (c : Nat), t20 = .int .i64 (k : Int) ∧ t8 = .slice a (neededUp l M k).length c ∧ k ≤ l.length ∧ wr.ownsRow w8.heap.size 47 5 (.slice a (neededUp l M k).length c) (neededUp l M k).length ((neededUp l M k).flatMap stCells) ∧ KMap Tryz.prog 3 (Value.int .i64) wr w6.heap.size (rankF M k) ∧ Ext w6 wr ∧ w8.heap.size ≤ wr.heap.size) (fun _ t20 _ => l.length - (intOf t20).toNat)
 case atStart => exact ⟨0, none, 0, rfl, rfl, Nat.zero_le _, World.ownsRow_nil _ _ _ _, HR8.out, HX8.out, Nat.le_refl _⟩
 case round =>
  obtain ⟨k, a8, c8', rfl, rfl, hk, hR, hM, hx, hsz⟩ := hrel
  have hkl := kept_le M k
  rw [← neededUp_len l M k] at hkl
  by_cases hlt : k < l.length
  ·obtain ⟨x, hxk⟩ : ∃ x, l[k]? = some x := ⟨_, List.getElem?_eq_getElem hlt⟩
   have hB := HM6.out.ext hx
   obtain ⟨q0, q1, q2, q3, q4⟩ := own_st hB.row hxk
   obtain ⟨wA, hwA⟩ : ∃ wA, wA = wr.alloc (.cells #[.int .i64 x.node, .int .i64 x.obj, .int .i64 x.stmt, .int .i64 x.frm, .int .i64 x.via] 47) := ⟨_, rfl⟩
   have hxA : Ext wr wA := by rw [hwA]; exact (Ext.refl _).alloc _
   have hbA : Blk wA wr.heap.size #[.int .i64 x.node, .int .i64 x.obj, .int .i64 x.stmt, .int .i64 x.frm, .int .i64 x.via] 47 := by rw [hwA]; exact Blk.new _ _ _
   have hBA := hB.ext hxA
   have hL := look_mark hBA.map (n := (k : Int)) (by omega)
   have c1 := hBA.c1.av 0 rfl
   simp only [qA0, qA1] at c1
   have HwA := hid hwA
   have HRA := hid (own_ext hR hxA)
   have HMA := hid (hM.ext hxA)
   have HXA := hid (hx.trans hxA)
   have HsA : Hid (w8.heap.size ≤ wA.heap.size) := hid (Nat.le_trans hsz hxA.size)
   have Hxk := hid hxk
   have HX0 : Hid (w6.heap.size ≤ wr.heap.size) := hid hx.size
   have HBA := hid hbA
   obtain ⟨lk, hlk⟩ := key_int1 (a := (k : Int)) (by omega)
   obtain ⟨w9, hrun, r1, r2⟩ := run_kmap_put int_keyed64 intV_inj Tryz.underlying148 HMA.out hlk (.int .i64 ((neededUp l M k).length : Int))
   have Hown : Hid (∀ b, (Value.slice a8 (neededUp l M k).length c8').ownBlock = some b → w8.heap.size ≤ b ∧ b < wr.heap.size) := hid fun b hb => World.ownsRow.lt hR b hb
   have HNu := hid (neededUp_succ l M k hxk)
   rw [hwA] at hL c1 hrun
   clear hB hBA hbA hxA hR hM hx hxk hwA hlk hsz
   by_cases hin : (k : Int) ∈ M
   ·rw [decide_eq_true hin] at hL
    rw [if_pos hin] at HNu
    obtain ⟨⟨f1, f2⟩, ⟨f3, f4⟩⟩ := Hlow.out k x Hxk.out
    obtain ⟨i1, i2⟩ := HMm.out.kid k x hin Hxk.out
    have HM9 : Hid (KMap Tryz.prog 3 (Value.int .i64) w9 w6.heap.size (rankF M (k + 1))) := hid (r1.eq fun q => by rw [rankF_in hin, neededUp_len])
    have HB9 := hid (HBA.out.keep r2 (HMA.out.ne HBA.out))
    have HR9 := hid (own_off HRA.out r2 fun b e => by rintro ⟨c, hc⟩; exact HMA.out.not_blk (e ▸ hc))
    have HX9 : Hid (Ext w6 w9) := hid (Keep.new HXA.out r2 fun b e => by rw [e]; exact Nat.le_refl _)
    have Hs9 : Hid (w8.heap.size ≤ w9.heap.size) := hid (Nat.le_trans HsA.out r2.size)
    have HL1 : Hid (∀ w1, Keep (fun q => q = wr.heap.size) w9 w1 → (Instr.lookup 148 (.map (some w6.heap.size)) (.int .i64 x.frm) false).run Tryz.prog w1 = .ok (.int .i64 (rankI M x.frm)) w1) := hid fun w1 kk => look_rank (HM9.out.keep kk fun e => HM9.out.ne HB9.out e.symm) f1 f2 i1 (by omega)
    have HL2 : Hid (∀ w1, Keep (fun q => q = wr.heap.size) w9 w1 → (Instr.lookup 148 (.map (some w6.heap.size)) (.int .i64 x.via) false).run Tryz.prog w1 = .ok (.int .i64 (rankI M x.via)) w1) := hid fun w1 kk => look_rank (HM9.out.keep kk fun e => HM9.out.ne HB9.out e.symm) f3 f4 i2 (by omega)
    clear r1 r2 f1 f2 f3 f4 i1 i2 HMA HRA HBA
    go_wp2
    clear q0 q1 q2 q3 q4 c1 hL hrun
    refine wp_flow (fun q => q = wr.heap.size) (by kernel_rfl) (by kernel_rfl) ?_
    apply Flow.d 0 _ rfl (by simp) (by kernel_rfl)
    ·intro w1 hk; unfold does; go_simp; (try go_ints); exact DetR.mk
    simp only [qA0, qA1, qA2, Act.put, qS0, qS1, qS2]
    apply Flow.d 1 _ rfl (by simp) (by kernel_rfl)
    ·intro w1 hk; unfold does; go_simp; (try go_ints); exact DetR.mk
    simp only [qA0, qA1, qA2, Act.put, qS0, qS1, qS2]
    apply Flow.d 4 _ rfl (by simp) (by kernel_rfl)
    ·intro w1 hk; unfold does; go_simp; (try go_ints); exact DetR.mk
    simp only [qA0, qA1, qA2, Act.put, qS0, qS1, qS2]
    apply Flow.d 5 _ rfl (by simp) (by kernel_rfl)
    ·intro w1 hk; unfold does; go_simp; (try go_ints); exact DetR.mk
    simp only [qA0, qA1, qA2, Act.put, qS0, qS1, qS2]
    refine Flow.two 2 6 _ _ rfl rfl (by decide) (by kernel_rfl) (fun v w' => v = .int .i64 x.frm ∧ Ext w9 w') (fun v w' => v = .int .i64 x.via ∧ Ext w9 w') (fun _ _ _ ⟨h1, h2⟩ y => ⟨h1, h2.trans y⟩) (fun _ _ _ ⟨h1, h2⟩ y => ⟨h1, h2.trans y⟩) (fun w5 hC hk => ?_) (fun w5 hC hk => ?_) ?_ ?_
    ·have c := (HB9.out.ext hC).av 3 rfl
     simp only [qA0, qA1, qA2] at c
     unfold does
     go_simp
     exact ⟨hk, rfl, hC⟩
    ·have c := (HB9.out.ext hC).av 4 rfl
     simp only [qA0, qA1, qA2] at c
     unfold does
     go_simp
     exact ⟨hk, rfl, hC⟩
    ·rintro _ ⟨_, rfl, _⟩
     simp only [qA0, qA1, qA2, Act.put, qS0, qS1, qS2]
     apply Flow.d 3 _ rfl (by simp) (by kernel_rfl)
     ·intro w1 hk
      unfold does
      go_simp
      rw [HL1.out w1 hk]
      go_simp
      exact DetR.mk
     simp only [qA0, qA1, qA2, Act.put, qS0, qS1, qS2]
     refine Flow.one 6 _ rfl (by kernel_rfl) (fun v w' => v = .int .i64 x.via ∧ Ext w9 w') (fun _ _ _ ⟨h1, h2⟩ y => ⟨h1, h2.trans y⟩) (fun w5 hC hk => ?_) ?_
     ·obtain ⟨_, hC⟩ := hC
      have c := (HB9.out.ext hC).av 4 rfl
      simp only [qA0, qA1, qA2] at c
      unfold does
      go_simp
      exact ⟨hk, rfl, hC⟩
     rintro _ ⟨_, rfl, _⟩
     simp only [qA0, qA1, qA2, Act.put, qS0, qS1, qS2]
     apply Flow.d 7 _ rfl (by simp) (by kernel_rfl)
     ·intro w1 hk
      unfold does
      go_simp
      rw [HL2.out w1 hk]
      go_simp
      exact DetR.mk
     simp only [qA0, qA1, qA2, Act.put, qS0, qS1, qS2]
     apply Flow.d 8 _ rfl (by simp) (by kernel_rfl)
     ·intro w1 hk; unfold does; go_simp; (try go_ints); exact DetR.mk
     simp only [qA0, qA1, qA2, Act.put, qS0, qS1, qS2]
     refine Flow.one 9 _ rfl (by kernel_rfl) (fun _ w' => Blk w' wr.heap.size #[.int .i64 x.node, .int .i64 x.obj, .int .i64 x.stmt, .int .i64 (rankI M x.frm), .int .i64 x.via] 47 ∧ Keep (fun q => q = wr.heap.size) w9 w') (fun _ _ _ ⟨h1, h2⟩ y => ⟨h1.ext y, h2.ext_r y⟩) (fun w5 hC hk => ?_) ?_
     ·obtain ⟨_, hC⟩ := hC
      have hb := HB9.out.ext hC
      have c := hb.av 3 rfl
      have f := hb.free 3
      have g := hb.set 3 (.int .i64 (rankI M x.frm))
      have kk := (hC.keep (fun q => q = wr.heap.size)).set (p := ⟨wr.heap.size, 3, none⟩) rfl (.int .i64 (rankI M x.frm))
      have kk2 := hk.set (p := ⟨wr.heap.size, 3, none⟩) rfl (.int .i64 (rankI M x.frm))
      simp only [qA0, qA1, qA2] at c
      unfold does
      go_simp
      exact ⟨kk2, g, kk⟩
     rintro _ _
     simp only [qA0, qA1, qA2, Act.put, qS0, qS1, qS2]
     apply Flow.d 10 _ rfl (by simp) (by kernel_rfl)
     ·intro w1 hk; unfold does; go_simp; (try go_ints); exact DetR.mk
     simp only [qA0, qA1, qA2, Act.put, qS0, qS1, qS2]
     refine Flow.one 11 _ rfl (by kernel_rfl) (fun _ w' => Blk w' wr.heap.size #[.int .i64 x.node, .int .i64 x.obj, .int .i64 x.stmt, .int .i64 (rankI M x.frm), .int .i64 (rankI M x.via)] 47 ∧ Keep (fun q => q = wr.heap.size) w9 w') (fun _ _ _ ⟨h1, h2⟩ y => ⟨h1.ext y, h2.ext_r y⟩) (fun w5 hC hk => ?_) ?_
     ·obtain ⟨hb, hC⟩ := hC
      have c := hb.av 4 rfl
      have f := hb.free 4
      have g := hb.set 4 (.int .i64 (rankI M x.via))
      have kk2 := hk.set (p := ⟨wr.heap.size, 4, none⟩) rfl (.int .i64 (rankI M x.via))
      simp only [qA0, qA1, qA2] at c
      unfold does
      go_simp
      exact ⟨kk2, g, kk2⟩
     rintro _ _
     simp only [qA0, qA1, qA2, Act.put, qS0, qS1, qS2]
     refine Flow.fin (by kernel_rfl) fun w10 hC4 hk4 => ?_
     obtain ⟨hb, hK⟩ := hC4
     have HB10 := hid hb
     have HR10 := hid (row_keep HR9.out hK fun b hb e => by have := (Hown.out b hb).2; omega)
     have HM10 := hid (HM9.out.keep hK fun e => HM9.out.ne HB9.out e.symm)
     have HX10 : Hid (Ext w6 w10) := hid (Keep.new HX9.out hK fun b e => by rw [e]; exact HX0.out)
     have Hs10 : Hid (w8.heap.size ≤ w10.heap.size) := hid (Nat.le_trans Hs9.out hK.size)
     have e0 := hb.av 0 rfl
     have e1 := hb.av 1 rfl
     have e2 := hb.av 2 rfl
     have e3 := hb.av 3 rfl
     have e4 := hb.av 4 rfl
     simp only [qA0, qA1, qA2] at e0 e1 e2 e3 e4
     clear hb hK hk4
     have hxa := (Ext.refl w10).alloc (.cells #[.int .i64 x.node, .int .i64 x.obj, .int .i64 x.stmt, .int .i64 (rankI M x.frm), .int .i64 (rankI M x.via)] 47)
     have HRa := hid (own_ext HR10.out hxa)
     have HMa := hid (HM10.out.ext hxa)
     have HXa := hid (HX10.out.trans hxa)
     have Hbs : Hid (w8.heap.size ≤ (w10.alloc (.cells #[.int .i64 x.node, .int .i64 x.obj, .int .i64 x.stmt, .int .i64 (rankI M x.frm), .int .i64 (rankI M x.via)] 47)).heap.size) := hid (Nat.le_trans Hs10.out hxa.size)
     clear hxa
     go_wp2_with (at_builtin; refine wpList_append_el w8.heap.size Hbs.out 29 47 (.agg #[.int .i64 0, .int .i64 0, .int .i64 0, .int .i64 0, .int .i64 0]) 5 40 Tryz.underlying29 why_info rfl (by omega) (by omega) rfl _ _ rfl (.slice a8 (neededUp l M k).length c8') (neededUp l M k).length ((neededUp l M k).flatMap stCells) rfl HRa.out w10.heap.size (stCells (renum M x)) rfl (by simp [stCells, Value.oneCell']) rfl (Blk.new _ _ _) (by omega) ?_; intro v' w' h1 h2 h4; obtain ⟨a', c', rfl⟩ := row_form h1; have HR12 := hid h1; have HK12 := hid h2; clear h1 h2 h4)
     go_roundw
     case rel =>
      refine ⟨k + 1, a', c', by go_num, ?_, by omega, ?_, ?_, ?_, Nat.le_trans Hbs.out HK12.out.size⟩
      ·rw [HNu.out, List.length_append, List.length_singleton]
      ·rw [HNu.out, List.length_append, List.length_singleton, List.flatMap_append]
       simpa using HR12.out
      ·refine HMa.out.keep HK12.out fun hb => ?_
       obtain ⟨c, hc⟩ := own_ty HRa.out hb
       exact HMa.out.not_blk hc
      ·exact Keep.new HXa.out HK12.out fun b hb => Nat.le_trans HX8.out.size (Hown.out b hb).1
     case measure => simp [intOf]; omega
    ·rintro _ ⟨_, rfl, _⟩
     simp only [qA0, qA1, qA2, Act.put, qS0, qS1, qS2]
     apply Flow.d 7 _ rfl (by simp) (by kernel_rfl)
     ·intro w1 hk
      unfold does
      go_simp
      rw [HL2.out w1 hk]
      go_simp
      exact DetR.mk
     simp only [qA0, qA1, qA2, Act.put, qS0, qS1, qS2]
     refine Flow.one 2 _ rfl (by kernel_rfl) (fun v w' => v = .int .i64 x.frm ∧ Ext w9 w') (fun _ _ _ ⟨h1, h2⟩ y => ⟨h1, h2.trans y⟩) (fun w5 hC hk => ?_) ?_
     ·obtain ⟨_, hC⟩ := hC
      have c := (HB9.out.ext hC).av 3 rfl
      simp only [qA0, qA1, qA2] at c
      unfold does
      go_simp
      exact ⟨hk, rfl, hC⟩
     rintro _ ⟨_, rfl, _⟩
     simp only [qA0, qA1, qA2, Act.put, qS0, qS1, qS2]
     apply Flow.d 3 _ rfl (by simp) (by kernel_rfl)
     ·intro w1 hk
      unfold does
      go_simp
      rw [HL1.out w1 hk]
      go_simp
      exact DetR.mk
     simp only [qA0, qA1, qA2, Act.put, qS0, qS1, qS2]
     apply Flow.d 8 _ rfl (by simp) (by kernel_rfl)
     ·intro w1 hk; unfold does; go_simp; (try go_ints); exact DetR.mk
     simp only [qA0, qA1, qA2, Act.put, qS0, qS1, qS2]
     refine Flow.one 9 _ rfl (by kernel_rfl) (fun _ w' => Blk w' wr.heap.size #[.int .i64 x.node, .int .i64 x.obj, .int .i64 x.stmt, .int .i64 (rankI M x.frm), .int .i64 x.via] 47 ∧ Keep (fun q => q = wr.heap.size) w9 w') (fun _ _ _ ⟨h1, h2⟩ y => ⟨h1.ext y, h2.ext_r y⟩) (fun w5 hC hk => ?_) ?_
     ·obtain ⟨_, hC⟩ := hC
      have hb := HB9.out.ext hC
      have c := hb.av 3 rfl
      have f := hb.free 3
      have g := hb.set 3 (.int .i64 (rankI M x.frm))
      have kk := (hC.keep (fun q => q = wr.heap.size)).set (p := ⟨wr.heap.size, 3, none⟩) rfl (.int .i64 (rankI M x.frm))
      have kk2 := hk.set (p := ⟨wr.heap.size, 3, none⟩) rfl (.int .i64 (rankI M x.frm))
      simp only [qA0, qA1, qA2] at c
      unfold does
      go_simp
      exact ⟨kk2, g, kk⟩
     rintro _ _
     simp only [qA0, qA1, qA2, Act.put, qS0, qS1, qS2]
     apply Flow.d 10 _ rfl (by simp) (by kernel_rfl)
     ·intro w1 hk; unfold does; go_simp; (try go_ints); exact DetR.mk
     simp only [qA0, qA1, qA2, Act.put, qS0, qS1, qS2]
     refine Flow.one 11 _ rfl (by kernel_rfl) (fun _ w' => Blk w' wr.heap.size #[.int .i64 x.node, .int .i64 x.obj, .int .i64 x.stmt, .int .i64 (rankI M x.frm), .int .i64 (rankI M x.via)] 47 ∧ Keep (fun q => q = wr.heap.size) w9 w') (fun _ _ _ ⟨h1, h2⟩ y => ⟨h1.ext y, h2.ext_r y⟩) (fun w5 hC hk => ?_) ?_
     ·obtain ⟨hb, hC⟩ := hC
      have c := hb.av 4 rfl
      have f := hb.free 4
      have g := hb.set 4 (.int .i64 (rankI M x.via))
      have kk2 := hk.set (p := ⟨wr.heap.size, 4, none⟩) rfl (.int .i64 (rankI M x.via))
      simp only [qA0, qA1, qA2] at c
      unfold does
      go_simp
      exact ⟨kk2, g, kk2⟩
     rintro _ _
     simp only [qA0, qA1, qA2, Act.put, qS0, qS1, qS2]
     refine Flow.fin (by kernel_rfl) fun w10 hC4 hk4 => ?_
     obtain ⟨hb, hK⟩ := hC4
     have HB10 := hid hb
     have HR10 := hid (row_keep HR9.out hK fun b hb e => by have := (Hown.out b hb).2; omega)
     have HM10 := hid (HM9.out.keep hK fun e => HM9.out.ne HB9.out e.symm)
     have HX10 : Hid (Ext w6 w10) := hid (Keep.new HX9.out hK fun b e => by rw [e]; exact HX0.out)
     have Hs10 : Hid (w8.heap.size ≤ w10.heap.size) := hid (Nat.le_trans Hs9.out hK.size)
     have e0 := hb.av 0 rfl
     have e1 := hb.av 1 rfl
     have e2 := hb.av 2 rfl
     have e3 := hb.av 3 rfl
     have e4 := hb.av 4 rfl
     simp only [qA0, qA1, qA2] at e0 e1 e2 e3 e4
     clear hb hK hk4
     have hxa := (Ext.refl w10).alloc (.cells #[.int .i64 x.node, .int .i64 x.obj, .int .i64 x.stmt, .int .i64 (rankI M x.frm), .int .i64 (rankI M x.via)] 47)
     have HRa := hid (own_ext HR10.out hxa)
     have HMa := hid (HM10.out.ext hxa)
     have HXa := hid (HX10.out.trans hxa)
     have Hbs : Hid (w8.heap.size ≤ (w10.alloc (.cells #[.int .i64 x.node, .int .i64 x.obj, .int .i64 x.stmt, .int .i64 (rankI M x.frm), .int .i64 (rankI M x.via)] 47)).heap.size) := hid (Nat.le_trans Hs10.out hxa.size)
     clear hxa
     go_wp2_with (at_builtin; refine wpList_append_el w8.heap.size Hbs.out 29 47 (.agg #[.int .i64 0, .int .i64 0, .int .i64 0, .int .i64 0, .int .i64 0]) 5 40 Tryz.underlying29 why_info rfl (by omega) (by omega) rfl _ _ rfl (.slice a8 (neededUp l M k).length c8') (neededUp l M k).length ((neededUp l M k).flatMap stCells) rfl HRa.out w10.heap.size (stCells (renum M x)) rfl (by simp [stCells, Value.oneCell']) rfl (Blk.new _ _ _) (by omega) ?_; intro v' w' h1 h2 h4; obtain ⟨a', c', rfl⟩ := row_form h1; have HR12 := hid h1; have HK12 := hid h2; clear h1 h2 h4)
     go_roundw
     case rel =>
      refine ⟨k + 1, a', c', by go_num, ?_, by omega, ?_, ?_, ?_, Nat.le_trans Hbs.out HK12.out.size⟩
      ·rw [HNu.out, List.length_append, List.length_singleton]
      ·rw [HNu.out, List.length_append, List.length_singleton, List.flatMap_append]
       simpa using HR12.out
      ·refine HMa.out.keep HK12.out fun hb => ?_
       obtain ⟨c, hc⟩ := own_ty HRa.out hb
       exact HMa.out.not_blk hc
      ·exact Keep.new HXa.out HK12.out fun b hb => Nat.le_trans HX8.out.size (Hown.out b hb).1
     case measure => simp [intOf]; omega
   ·rw [decide_eq_false hin] at hL
    rw [if_neg hin, List.append_nil] at HNu
    have HMo : Hid (KMap Tryz.prog 3 (Value.int .i64) wA w6.heap.size (rankF M (k + 1))) := hid (HMA.out.eq fun q => (rankF_out hin q).symm)
    clear hrun r1 r2
    go_wp2
    rw [← HwA.out]
    clear q0 q1 q2 q3 q4 c1 hL
    go_roundw
    case rel => exact ⟨k + 1, a8, c8', by go_num, by rw [HNu.out], by omega, by rw [HNu.out]; exact HRA.out, HMo.out, HXA.out, HsA.out⟩
    case measure => simp [intOf]; omega
  ·obtain rfl : k = l.length := by omega
   have HRz := hid hR
   have HXz := hid (HX6.out.trans hx)
   have Hsz : Hid (w.heap.size ≤ w8.heap.size) := hid (HX6.out.trans HX8.out).size
   clear hR hM hx
   go_wp2
   go_ret
   exact ⟨_, M, rfl, HMm.out, own_low HRz.out Hsz.out, HXz.out⟩
end Go.Proofs.YtngdpnlgnpdkcaaGreatDoor
namespace Go.Proofs.YtngdpnlgnpdkcaaGreatDoor
open Go Go.RowKit
theorem ext_take {α : Type} {a b : List α} (hl : a.length = b.length) (h : ∀ j, j < a.length → a[j]? = b[j]?) : a = b :=
 List.ext_getElem? fun i => by
  by_cases hi : i < a.length
  ·exact h i hi
  ·rw [List.getElem?_eq_none (by omega), List.getElem?_eq_none (by omega)]
set_option maxRecDepth 100000 in
set_option maxHeartbeats 1600000 in
theorem equali_any (va vb : Value) (a b : List Int) (w : World) (n0 : Nat) (ha : IntsR w n0 va a) (hb : IntsR w n0 vb b) :
  Calls Tryz.prog 100 #[va, vb] w fun e w' => e = .returned (.bool (decide (a = b))) ∧ Ext w w' := by
 have hal := ha.len
 have hbl := hb.len
 have HA := hid ha
 have HB := hid hb
 obtain ⟨aa, ca, rfl, _⟩ := ha
 obtain ⟨ab, cb, rfl, _⟩ := hb
 by_cases hl : a.length = b.length
 ·have Hl := hid hl
  have e0 : ((a.length : Int) != (b.length : Int)) = false := by rw [hl]; simp
  clear hl
  go_enter Tryz.func100, Tryz.ntmps100
  go_wp2
  clear e0
  go_loopw [13] (fun t13 wr => ∃ k : Nat, t13 = .int .i64 (k : Int) ∧ k ≤ a.length ∧ (∀ j, j < k → a[j]? = b[j]?) ∧ Ext w wr) (fun t13 _ => a.length - (intOf t13).toNat)
  case atStart => exact ⟨0, rfl, Nat.zero_le _, fun j h => by omega, Ext.refl _⟩
  case round =>
   obtain ⟨k, rfl, hk, hp, hx⟩ := hrel
   have Hp := hid hp
   have Hx := hid hx
   clear hp hx
   by_cases hlt : k < a.length
   ·have hlt2 : k < b.length := by rw [← Hl.out]; exact hlt
    obtain ⟨ya, p, hya, hpk, hcp⟩ := (HA.out.old (Hx.out.old n0)).at hlt
    subst hya
    obtain ⟨yb, q, hyb, hqk, hcq⟩ := (HB.out.old (Hx.out.old n0)).at hlt2
    subst hyb
    have c0 : ∀ w1, Keep (fun _ => False) wr w1 → w1.cell? (ya.add k) = some (.int .i64 p) := fun w1 k => k.ext.cellx hcp
    have c1 : ∀ w1, Keep (fun _ => False) wr w1 → w1.cell? (yb.add k) = some (.int .i64 q) := fun w1 k => k.ext.cellx hcq
    have Hpk := hid hpk
    have Hqk := hid hqk
    clear hpk hqk hcp hcq
    by_cases hpq : p = q
    ·subst hpq
     go_wp2
     refine wp_flowT (fun _ => False) (by kernel_rfl) (by kernel_rfl) ?_
     repeat (apply FlowT.d; (intro w1 hk; unfold does; go_simp; (try go_ints); (first | exact DetR.mk | (simp only [↓IntWalk.iteOmega, Oper.doesUpon_value]; exact DetR.mk) | (simp only [↓IntWalk.iteOmega]; go_simp; (try go_ints); exact DetR.mk))); simp only [Act.put, qS0, qS1, qS2])
     refine FlowT.fin fun w1 hx1 hk1 => ?_
     have Hx1 := hid (Hx.out.trans hx1)
     clear hx1 hk1 c0 c1
     go_wp2
     go_roundw
     case rel =>
      refine ⟨k + 1, by go_num, by omega, fun j hj => ?_, Hx1.out⟩
      by_cases hjk : j = k
      ·subst hjk; exact Hpk.out.trans Hqk.out.symm
      ·exact Hp.out j (by omega)
     case measure => simp [intOf]; omega
    ·have hpq' : (p != q) = true := bne_iff_ne.2 hpq
     have Hne : Hid (decide (a = b) = false) := hid (decide_eq_false fun h => hpq (by
      have h1 := Hpk.out
      rw [h] at h1
      exact Option.some.inj (h1.symm.trans Hqk.out)))
     clear hpq
     go_wp2
     refine wp_flowT (fun _ => False) (by kernel_rfl) (by kernel_rfl) ?_
     repeat (apply FlowT.d; (intro w1 hk; unfold does; go_simp; (try go_ints); (first | exact DetR.mk | (simp only [↓IntWalk.iteOmega, Oper.doesUpon_value]; exact DetR.mk) | (simp only [↓IntWalk.iteOmega]; go_simp; (try go_ints); exact DetR.mk))); simp only [Act.put, qS0, qS1, qS2])
     refine FlowT.fin fun w1 hx1 hk1 => ?_
     have Hx1 := hid (Hx.out.trans hx1)
     clear hx1 hk1 c0 c1
     go_wp2
     go_ret
     exact ⟨by rw [Hne.out]; rfl, Hx1.out⟩
   ·have Heq : Hid (decide (a = b) = true) := hid (decide_eq_true (ext_take Hl.out fun j hj => Hp.out j (by omega)))
    obtain rfl : k = a.length := by omega
    go_wp2
    go_ret
    exact ⟨by rw [Heq.out]; rfl, Hx.out⟩
 ·have e0 : ((a.length : Int) != (b.length : Int)) = true := bne_iff_ne.2 (fun h => hl (Int.ofNat_inj.1 h))
  have Hne : Hid (decide (a = b) = false) := hid (decide_eq_false fun h => hl (by rw [h]))
  clear hl
  go_enter Tryz.func100, Tryz.ntmps100
  go_wp2
  go_ret
  exact ⟨by rw [Hne.out]; rfl, Ext.refl _⟩
set_option maxRecDepth 100000 in
set_option maxHeartbeats 1600000 in
theorem equalfs_any (va vb : Value) (A B : List (List Int)) (w : World) (n0 : Nat) (ha : SetsR w n0 va A) (hb : SetsR w n0 vb B) :
  Calls Tryz.prog 99 #[va, vb, .func (.func 100) #[] #[]] w fun e w' => e = .returned (.bool (decide (A = B))) ∧ Ext w w' := by
 have hal := ha.len
 have hbl := hb.len
 have HA := hid ha
 have HB := hid hb
 obtain ⟨aa, ca, rfl⟩ := ha.form
 obtain ⟨ab, cb, rfl⟩ := hb.form
 clear ha hb
 by_cases hl : A.length = B.length
 ·have Hl := hid hl
  have e0 : ((A.length : Int) != (B.length : Int)) = false := by rw [hl]; simp
  clear hl
  go_enter Tryz.func99, Tryz.ntmps99
  go_wp2
  clear e0
  go_loopw [17] (fun t17 wr => ∃ k : Nat, t17 = .int .i64 (k : Int) ∧ k ≤ A.length ∧ (∀ j, j < k → A[j]? = B[j]?) ∧ Ext w wr) (fun t17 _ => A.length - (intOf t17).toNat)
  case atStart => exact ⟨0, rfl, Nat.zero_le _, fun j h => by omega, Ext.refl _⟩
  case round =>
   obtain ⟨k, rfl, hk, hp, hx⟩ := hrel
   have Hp := hid hp
   have Hx := hid hx
   clear hp hx
   by_cases hlt : k < A.length
   ·have hlt2 : k < B.length := by rw [← Hl.out]; exact hlt
    obtain ⟨ya, l, bl, cl, hya, hpk, hcp, hI⟩ := (HA.out.ext Hx.out).at hlt
    subst hya
    obtain ⟨yb, m, bm, cm, hyb, hqk, hcq, hI'⟩ := (HB.out.ext Hx.out).at hlt2
    subst hyb
    have HC := hid (equali_any (.slice bl l.length cl) (.slice bm m.length cm) l m wr n0 hI hI')
    obtain ⟨d, hd⟩ : ∃ d, d = decide (l = m) := ⟨_, rfl⟩
    rw [← hd] at HC
    have Hd := hid hd
    have Hpk := hid hpk
    have Hqk := hid hqk
    clear hpk hqk hI hI' hd
    go_wp2_with fail
    refine HC.out.mono ?_
    intro e w1 hx
    obtain ⟨rfl, hx1⟩ := hx
    have Hx1 := hid (Hx.out.trans hx1)
    clear HC hx1 hcp hcq
    cases d with
    | true =>
     have He : Hid (l = m) := hid (of_decide_eq_true Hd.out.symm)
     go_wp2
     go_roundw
     case rel =>
      refine ⟨k + 1, by go_num, by omega, fun j hj => ?_, Hx1.out⟩
      by_cases hjk : j = k
      ·subst hjk; rw [Hpk.out, Hqk.out, He.out]
      ·exact Hp.out j (by omega)
     case measure => simp [intOf]; omega
    | false =>
     have Hne : Hid (decide (A = B) = false) := hid (decide_eq_false fun h => (of_decide_eq_false Hd.out.symm) (by
      have h1 := Hpk.out
      rw [h] at h1
      exact Option.some.inj (h1.symm.trans Hqk.out)))
     go_wp2
     go_ret
     exact ⟨by rw [Hne.out]; rfl, Hx1.out⟩
   ·have Heq : Hid (decide (A = B) = true) := hid (decide_eq_true (ext_take Hl.out fun j hj => Hp.out j (by omega)))
    obtain rfl : k = A.length := by omega
    go_wp2
    go_ret
    exact ⟨by rw [Heq.out]; rfl, Hx.out⟩
 ·have e0 : ((A.length : Int) != (B.length : Int)) = true := bne_iff_ne.2 (fun h => hl (Int.ofNat_inj.1 h))
  have Hne : Hid (decide (A = B) = false) := hid (decide_eq_false fun h => hl (by rw [h]))
  clear hl
  go_enter Tryz.func99, Tryz.ntmps99
  go_wp2
  go_ret
  exact ⟨by rw [Hne.out]; rfl, Ext.refl _⟩
theorem fixsame_any (va vb : Value) (A B : List (List Int)) (w : World) (n0 : Nat) (ha : SetsR w n0 va A) (hb : SetsR w n0 vb B) :
  Calls Tryz.prog 55 #[va, vb] w fun e w' => e = .returned (.bool (decide (A = B))) ∧ Ext w w' := by
 have HC := hid (equalfs_any va vb A B w n0 ha hb)
 obtain ⟨aa, ca, rfl⟩ := ha.form
 obtain ⟨ab, cb, rfl⟩ := hb.form
 generalize decide (A = B) = d at *
 clear ha hb
 go_enter Tryz.func55, Tryz.ntmps55
 go_wp2_with fail
 refine HC.out.mono ?_
 intro e w1 hx
 obtain ⟨rfl, hx1⟩ := hx
 have Hx1 := hid hx1
 clear HC hx1
 go_wp2
 go_ret
 exact ⟨rfl, Hx1.out⟩
set_option maxRecDepth 100000 in
set_option maxHeartbeats 800000 in
theorem fixjoin_any (va vb : Value) (a b : List Int) (w : World) (n0 : Nat) (ad : Nat → Addr) (hE : ErrS w ad) (ha : IntsR w n0 va a) (hb : IntsR w n0 vb b) (ka : chkE a = 0) (kb : chkE b = 0) :
  Calls Tryz.prog 98 #[va, vb] w fun e w' => ∃ v, e = .returned v ∧ (∃ x c, v = .slice x (sset (a ++ b)).length c) ∧ IntsT w' v (sset (a ++ b)) ∧ Ext w w' := by
 have HU := hid (setunion_any va vb a b w n0 ad hE ha hb (by have := srt_few ka; omega) (by have := srt_few kb; omega))
 have Hk := hid (bothE_zero.2 ⟨ka, kb⟩)
 obtain ⟨aa, ca, rfl, _⟩ := ha
 obtain ⟨ab, cb, rfl, _⟩ := hb
 obtain ⟨l, hl⟩ : ∃ l, l = sset (a ++ b) := ⟨_, rfl⟩
 rw [← hl] at HU ⊢
 clear hE ka kb hl
 go_enter Tryz.func98, Tryz.ntmps98
 go_wp2_with fail
 refine HU.out.mono ?_
 intro e w1 hx
 obtain ⟨t, rfl, ht, hx1⟩ := hx
 obtain ⟨v, rfl, hrow⟩ : ∃ v, t = .tuple #[v, .nilIface] ∧ IRow w.heap.size w1 v l := by
  rcases ht with ⟨_, v, h1, h2⟩ | ⟨h, _⟩
  ·exact ⟨v, h1, h2⟩
  ·exact absurd Hk.out h
 obtain ⟨av, cv, rfl⟩ := hrow.form
 have Hr := hid (IntsT.row hrow)
 have Hx1 := hid hx1
 clear HU ht hrow hx1
 go_wp2
 go_ret
 exact ⟨_, rfl, ⟨_, _, rfl⟩, Hr.out, Hx1.out⟩
end Go.Proofs.YtngdpnlgnpdkcaaGreatDoor
