/- Texts of one proof, put together: Y3. -/
import Derived.Test.YtbagppdibncfdaaGreatDoorHHN09
import Derived.Test.YtbagppdibncfdaaGreatDoorHHN01
set_option linter.unusedSimpArgs false
set_option linter.unusedVariables false
namespace Go.Proofs.YtbagppdibncfdaaGreatDoor
open Go Go.RowKit
structure RV where
  kind : ByteArray
  a : Int
  b : Int
  k : Int
  args : List Int
def RV.val (r : RV) (av : Value) : Value := .agg #[.string r.kind, .int .i64 r.a, .int .i64 r.b, .int .i64 r.k, av]
def bBase : ByteArray := ⟨#[98, 97, 115, 101]⟩
def bCall : ByteArray := ⟨#[99, 97, 108, 108]⟩
def PP.ruleV (P : PP) (k : Nat) (x : PS) : RV :=
  bif x.isK kAddr then ⟨bBase, x.x, x.y, k, []⟩ else
  bif x.isK kNew then ⟨bBase, x.x, P.placeV k, k, []⟩ else
  bif x.isK kFun then ⟨bBase, x.x, (P.nodesV : Int) + x.y, k, []⟩ else
  bif x.isK kCall then ⟨bCall, x.y, x.x, k, x.args⟩ else ⟨x.kind, x.y, x.x, k, []⟩
theorem IntsT.nil (w : World) : IntsT w (.slice none 0 0) [] := ⟨⟨none, 0, rfl, Nat.le_refl _, by decide, fun h => absurd h (by decide), fun y hy => by cases hy⟩, fun b hb => by cases hb⟩
theorem store5_old {w : World} {n : Nat} {v : Value} {l : List Int} {c : Array Value} (h : IntsT w v l) (hB : Blk w n c 123) (b0 b1 b2 b3 b4 : Value) : IntsT (((((w.setCell ⟨n, 0, none⟩ b0).setCell ⟨n, 1, none⟩ b1).setCell ⟨n, 2, none⟩ b2).setCell ⟨n, 3, none⟩ b3).setCell ⟨n, 4, none⟩ b4) v l :=
  h.keep (store5_keep w n b0 b1 b2 b3 b4) fun b e => by subst e; exact IsInt.not hB (by decide)
set_option maxRecDepth 100000 in
set_option maxHeartbeats 6400000 in
theorem consrule_addr (a1 a2 a3 : Option Addr) (c1 c2 c3 : Nat) (P : PP) (k : Nat) (x : PS) (hxk : P.stmts[k]? = some x) (w : World) (n0 : Nat) (ad : Nat → Addr) (h : PW w n0 ad a1 a2 a3 c1 c2 c3 P) (hkx : x.isK kAddr = true) :
    Calls Tryz.prog 122 #[pval a1 a2 a3 c1 c2 c3 P, .int .i64 (k : Int)] w fun e w' => ∃ av, e = .returned ((P.ruleV k x).val av) ∧ IntsT w' av (P.ruleV k x).args ∧ Ext w w' := by
  obtain ⟨W1, hW1⟩ : ∃ W1, W1 = w.alloc (.cells (pcells a1 a2 a3 c1 c2 c3 P) 26) := ⟨_, rfl⟩
  have hx1 : Ext w W1 := by rw [hW1]; exact (Ext.refl _).alloc _
  obtain ⟨W2, hW2⟩ : ∃ W2, W2 = W1.alloc (.cells #[.string ⟨#[]⟩, .int .i64 0, .int .i64 0, .int .i64 0, .slice none 0 0] 123) := ⟨_, rfl⟩
  have hx2 : Ext W1 W2 := by rw [hW2]; exact (Ext.refl _).alloc _
  have hk : k < P.stmts.length := by
    rcases Nat.lt_or_ge k P.stmts.length with h | h
    · exact h
    · rw [List.getElem?_eq_none h] at hxk; cases hxk
  have hml := h.prog.stmts.len
  obtain ⟨y, x', av, cv, rfl, hxk', e0, e1, e2, e3, hI⟩ := (h.prog.ext (hx1.trans hx2)).stmts.at hk
  obtain rfl := Option.some.inj (hxk.symm.trans hxk')
  obtain ⟨W3, hW3⟩ : ∃ W3, W3 = W2.alloc (.cells (scells x av cv) 77) := ⟨_, rfl⟩
  have hx3 : Ext W2 W3 := by rw [hW3]; exact (Ext.refl _).alloc _
  have s1 : W1.heap.size = w.heap.size + 1 := by rw [hW1, heap_size_alloc]
  have s2 : W2.heap.size = w.heap.size + 1 + 1 := by rw [hW2, heap_size_alloc, s1]
  have HX := hid ((hx1.trans hx2).trans hx3)
  have HB0 : Hid (Blk W3 w.heap.size (pcells a1 a2 (some y) c1 c2 c3 P) 26) := hid (by
    have : Blk W1 w.heap.size (pcells a1 a2 (some y) c1 c2 c3 P) 26 := by rw [hW1]; exact Blk.new _ _ _
    exact this.ext (hx2.trans hx3))
  have HB1 : Hid (Blk W3 (w.heap.size + 1) #[.string ⟨#[]⟩, .int .i64 0, .int .i64 0, .int .i64 0, .slice none 0 0] 123) := hid (by
    have : Blk W2 (w.heap.size + 1) #[.string ⟨#[]⟩, .int .i64 0, .int .i64 0, .int .i64 0, .slice none 0 0] 123 := by rw [← s1, hW2]; exact Blk.new _ _ _
    exact this.ext hx3)
  have HB2 : Hid (Blk W3 (w.heap.size + 1 + 1) (scells x av cv) 77) := hid (by rw [← s2, hW3]; exact Blk.new _ _ _)
  have HI := hid (hI.old (hx3.old n0))
  have HPW := hid h
  have Hxk := hid hxk
  rw [hW2, hW1] at e0 e1 e2 e3
  unfold pcells at e0 e1 e2 e3
  have HWe : Hid (W3 = ((w.alloc (.cells #[.slice a1 P.vars.length c1, .slice a2 P.funs.length c2, .slice (some y) P.stmts.length c3] 26)).alloc (.cells #[.string ⟨#[]⟩, .int .i64 0, .int .i64 0, .int .i64 0, .slice none 0 0] 123)).alloc (.cells #[.string x.kind, .int .i64 x.x, .int .i64 x.y, .slice av x.args.length cv] 77)) := hid (by rw [hW3, hW2, hW1]; rfl)
  obtain ⟨hf1, hf2, hf3⟩ := h.well.few
  clear hW1 hW2 hW3 hx1 hx2 hx3 s1 s2 hxk hxk' hI h
  unfold pval
  have Hr : Hid (P.ruleV k x = ⟨bBase, x.x, x.y, k, []⟩) := hid (by unfold PP.ruleV; rw [hkx]; rfl)
  have hkk := hkx
  unfold PS.isK kAddr at hkk
  clear hkx
  clear HWe
  go_enter Tryz.func122, Tryz.ntmps122
  go_wp2
  obtain ⟨V, hV⟩ : ∃ V, V = ((w.alloc (.cells #[.slice a1 P.vars.length c1, .slice a2 P.funs.length c2, .slice (some y) P.stmts.length c3] 26)).alloc (.cells #[.string ⟨#[98, 97, 115, 101]⟩, .int .i64 x.x, .int .i64 x.y, .int .i64 (k : Int), .slice none 0 0] 123)).alloc (.cells #[.string x.kind, .int .i64 x.x, .int .i64 x.y, .slice av x.args.length cv] 77) := ⟨_, rfl⟩
  have hxV : Ext w V := by rw [hV]; exact (((Ext.refl _).alloc _).alloc _).alloc _
  have HB9 : Blk V (w.heap.size + 1) #[.string ⟨#[98, 97, 115, 101]⟩, .int .i64 x.x, .int .i64 x.y, .int .i64 (k : Int), .slice none 0 0] 123 := by
    rw [hV]
    have := (Blk.new (w.alloc (.cells #[.slice a1 P.vars.length c1, .slice a2 P.funs.length c2, .slice (some y) P.stmts.length c3] 26)) #[.string ⟨#[98, 97, 115, 101]⟩, .int .i64 x.x, .int .i64 x.y, .int .i64 (k : Int), .slice none 0 0] 123).alloc (.cells #[.string x.kind, .int .i64 x.x, .int .i64 x.y, .slice av x.args.length cv] 77)
    rwa [heap_size_alloc] at this
  rw [← hV]
  exact bodyPost_ret (v := .agg #[.string ⟨#[98, 97, 115, 101]⟩, .int .i64 x.x, .int .i64 x.y, .int .i64 (k : Int), .slice none 0 0]) (by simp [results, Tryz.results122, go_sem, HB9.av 0 rfl, HB9.av 1 rfl, HB9.av 2 rfl, HB9.av 3 rfl, HB9.av 4 rfl]) rfl ⟨_, by rw [Hr.out]; rfl, by rw [Hr.out]; exact IntsT.nil _, hxV⟩
set_option maxRecDepth 100000 in
set_option maxHeartbeats 6400000 in
theorem consrule_copy (a1 a2 a3 : Option Addr) (c1 c2 c3 : Nat) (P : PP) (k : Nat) (x : PS) (hxk : P.stmts[k]? = some x) (w : World) (n0 : Nat) (ad : Nat → Addr) (h : PW w n0 ad a1 a2 a3 c1 c2 c3 P) (hkx : x.isK kCopy = true) :
    Calls Tryz.prog 122 #[pval a1 a2 a3 c1 c2 c3 P, .int .i64 (k : Int)] w fun e w' => ∃ av, e = .returned ((P.ruleV k x).val av) ∧ IntsT w' av (P.ruleV k x).args ∧ Ext w w' := by
  obtain ⟨W1, hW1⟩ : ∃ W1, W1 = w.alloc (.cells (pcells a1 a2 a3 c1 c2 c3 P) 26) := ⟨_, rfl⟩
  have hx1 : Ext w W1 := by rw [hW1]; exact (Ext.refl _).alloc _
  obtain ⟨W2, hW2⟩ : ∃ W2, W2 = W1.alloc (.cells #[.string ⟨#[]⟩, .int .i64 0, .int .i64 0, .int .i64 0, .slice none 0 0] 123) := ⟨_, rfl⟩
  have hx2 : Ext W1 W2 := by rw [hW2]; exact (Ext.refl _).alloc _
  have hk : k < P.stmts.length := by
    rcases Nat.lt_or_ge k P.stmts.length with h | h
    · exact h
    · rw [List.getElem?_eq_none h] at hxk; cases hxk
  have hml := h.prog.stmts.len
  obtain ⟨y, x', av, cv, rfl, hxk', e0, e1, e2, e3, hI⟩ := (h.prog.ext (hx1.trans hx2)).stmts.at hk
  obtain rfl := Option.some.inj (hxk.symm.trans hxk')
  obtain ⟨W3, hW3⟩ : ∃ W3, W3 = W2.alloc (.cells (scells x av cv) 77) := ⟨_, rfl⟩
  have hx3 : Ext W2 W3 := by rw [hW3]; exact (Ext.refl _).alloc _
  have s1 : W1.heap.size = w.heap.size + 1 := by rw [hW1, heap_size_alloc]
  have s2 : W2.heap.size = w.heap.size + 1 + 1 := by rw [hW2, heap_size_alloc, s1]
  have HX := hid ((hx1.trans hx2).trans hx3)
  have HB0 : Hid (Blk W3 w.heap.size (pcells a1 a2 (some y) c1 c2 c3 P) 26) := hid (by
    have : Blk W1 w.heap.size (pcells a1 a2 (some y) c1 c2 c3 P) 26 := by rw [hW1]; exact Blk.new _ _ _
    exact this.ext (hx2.trans hx3))
  have HB1 : Hid (Blk W3 (w.heap.size + 1) #[.string ⟨#[]⟩, .int .i64 0, .int .i64 0, .int .i64 0, .slice none 0 0] 123) := hid (by
    have : Blk W2 (w.heap.size + 1) #[.string ⟨#[]⟩, .int .i64 0, .int .i64 0, .int .i64 0, .slice none 0 0] 123 := by rw [← s1, hW2]; exact Blk.new _ _ _
    exact this.ext hx3)
  have HB2 : Hid (Blk W3 (w.heap.size + 1 + 1) (scells x av cv) 77) := hid (by rw [← s2, hW3]; exact Blk.new _ _ _)
  have HI := hid (hI.old (hx3.old n0))
  have HPW := hid h
  have Hxk := hid hxk
  rw [hW2, hW1] at e0 e1 e2 e3
  unfold pcells at e0 e1 e2 e3
  have HWe : Hid (W3 = ((w.alloc (.cells #[.slice a1 P.vars.length c1, .slice a2 P.funs.length c2, .slice (some y) P.stmts.length c3] 26)).alloc (.cells #[.string ⟨#[]⟩, .int .i64 0, .int .i64 0, .int .i64 0, .slice none 0 0] 123)).alloc (.cells #[.string x.kind, .int .i64 x.x, .int .i64 x.y, .slice av x.args.length cv] 77)) := hid (by rw [hW3, hW2, hW1]; rfl)
  obtain ⟨hf1, hf2, hf3⟩ := h.well.few
  clear hW1 hW2 hW3 hx1 hx2 hx3 s1 s2 hxk hxk' hI h
  unfold pval
  have h1 : (x.kind.toList == [97, 100, 100, 114]) = false := isK_ne hkx (k' := kAddr) rfl
  have h5 : (x.kind.toList == [110, 101, 119]) = false := isK_ne hkx (k' := kNew) rfl
  have h6 : (x.kind.toList == [102, 117, 110]) = false := isK_ne hkx (k' := kFun) rfl
  have h7 : (x.kind.toList == [99, 97, 108, 108]) = false := isK_ne hkx (k' := kCall) rfl
  have Hr : Hid (P.ruleV k x = ⟨x.kind, x.y, x.x, k, []⟩) := hid (by unfold PP.ruleV; rw [isK_ne hkx (k' := kAddr) rfl, isK_ne hkx (k' := kNew) rfl, isK_ne hkx (k' := kFun) rfl, isK_ne hkx (k' := kCall) rfl]; rfl)
  clear hkx
  clear HWe
  go_enter Tryz.func122, Tryz.ntmps122
  go_wp2
  obtain ⟨V, hV⟩ : ∃ V, V = ((w.alloc (.cells #[.slice a1 P.vars.length c1, .slice a2 P.funs.length c2, .slice (some y) P.stmts.length c3] 26)).alloc (.cells #[.string x.kind, .int .i64 x.y, .int .i64 x.x, .int .i64 (k : Int), .slice none 0 0] 123)).alloc (.cells #[.string x.kind, .int .i64 x.x, .int .i64 x.y, .slice av x.args.length cv] 77) := ⟨_, rfl⟩
  have hxV : Ext w V := by rw [hV]; exact (((Ext.refl _).alloc _).alloc _).alloc _
  have HB9 : Blk V (w.heap.size + 1) #[.string x.kind, .int .i64 x.y, .int .i64 x.x, .int .i64 (k : Int), .slice none 0 0] 123 := by
    rw [hV]
    have := (Blk.new (w.alloc (.cells #[.slice a1 P.vars.length c1, .slice a2 P.funs.length c2, .slice (some y) P.stmts.length c3] 26)) #[.string x.kind, .int .i64 x.y, .int .i64 x.x, .int .i64 (k : Int), .slice none 0 0] 123).alloc (.cells #[.string x.kind, .int .i64 x.x, .int .i64 x.y, .slice av x.args.length cv] 77)
    rwa [heap_size_alloc] at this
  rw [← hV]
  exact bodyPost_ret (v := .agg #[.string x.kind, .int .i64 x.y, .int .i64 x.x, .int .i64 (k : Int), .slice none 0 0]) (by simp [results, Tryz.results122, go_sem, HB9.av 0 rfl, HB9.av 1 rfl, HB9.av 2 rfl, HB9.av 3 rfl, HB9.av 4 rfl]) rfl ⟨_, by rw [Hr.out]; rfl, by rw [Hr.out]; exact IntsT.nil _, hxV⟩
set_option maxRecDepth 100000 in
set_option maxHeartbeats 6400000 in
theorem consrule_load (a1 a2 a3 : Option Addr) (c1 c2 c3 : Nat) (P : PP) (k : Nat) (x : PS) (hxk : P.stmts[k]? = some x) (w : World) (n0 : Nat) (ad : Nat → Addr) (h : PW w n0 ad a1 a2 a3 c1 c2 c3 P) (hkx : x.isK kLoad = true) :
    Calls Tryz.prog 122 #[pval a1 a2 a3 c1 c2 c3 P, .int .i64 (k : Int)] w fun e w' => ∃ av, e = .returned ((P.ruleV k x).val av) ∧ IntsT w' av (P.ruleV k x).args ∧ Ext w w' := by
  obtain ⟨W1, hW1⟩ : ∃ W1, W1 = w.alloc (.cells (pcells a1 a2 a3 c1 c2 c3 P) 26) := ⟨_, rfl⟩
  have hx1 : Ext w W1 := by rw [hW1]; exact (Ext.refl _).alloc _
  obtain ⟨W2, hW2⟩ : ∃ W2, W2 = W1.alloc (.cells #[.string ⟨#[]⟩, .int .i64 0, .int .i64 0, .int .i64 0, .slice none 0 0] 123) := ⟨_, rfl⟩
  have hx2 : Ext W1 W2 := by rw [hW2]; exact (Ext.refl _).alloc _
  have hk : k < P.stmts.length := by
    rcases Nat.lt_or_ge k P.stmts.length with h | h
    · exact h
    · rw [List.getElem?_eq_none h] at hxk; cases hxk
  have hml := h.prog.stmts.len
  obtain ⟨y, x', av, cv, rfl, hxk', e0, e1, e2, e3, hI⟩ := (h.prog.ext (hx1.trans hx2)).stmts.at hk
  obtain rfl := Option.some.inj (hxk.symm.trans hxk')
  obtain ⟨W3, hW3⟩ : ∃ W3, W3 = W2.alloc (.cells (scells x av cv) 77) := ⟨_, rfl⟩
  have hx3 : Ext W2 W3 := by rw [hW3]; exact (Ext.refl _).alloc _
  have s1 : W1.heap.size = w.heap.size + 1 := by rw [hW1, heap_size_alloc]
  have s2 : W2.heap.size = w.heap.size + 1 + 1 := by rw [hW2, heap_size_alloc, s1]
  have HX := hid ((hx1.trans hx2).trans hx3)
  have HB0 : Hid (Blk W3 w.heap.size (pcells a1 a2 (some y) c1 c2 c3 P) 26) := hid (by
    have : Blk W1 w.heap.size (pcells a1 a2 (some y) c1 c2 c3 P) 26 := by rw [hW1]; exact Blk.new _ _ _
    exact this.ext (hx2.trans hx3))
  have HB1 : Hid (Blk W3 (w.heap.size + 1) #[.string ⟨#[]⟩, .int .i64 0, .int .i64 0, .int .i64 0, .slice none 0 0] 123) := hid (by
    have : Blk W2 (w.heap.size + 1) #[.string ⟨#[]⟩, .int .i64 0, .int .i64 0, .int .i64 0, .slice none 0 0] 123 := by rw [← s1, hW2]; exact Blk.new _ _ _
    exact this.ext hx3)
  have HB2 : Hid (Blk W3 (w.heap.size + 1 + 1) (scells x av cv) 77) := hid (by rw [← s2, hW3]; exact Blk.new _ _ _)
  have HI := hid (hI.old (hx3.old n0))
  have HPW := hid h
  have Hxk := hid hxk
  rw [hW2, hW1] at e0 e1 e2 e3
  unfold pcells at e0 e1 e2 e3
  have HWe : Hid (W3 = ((w.alloc (.cells #[.slice a1 P.vars.length c1, .slice a2 P.funs.length c2, .slice (some y) P.stmts.length c3] 26)).alloc (.cells #[.string ⟨#[]⟩, .int .i64 0, .int .i64 0, .int .i64 0, .slice none 0 0] 123)).alloc (.cells #[.string x.kind, .int .i64 x.x, .int .i64 x.y, .slice av x.args.length cv] 77)) := hid (by rw [hW3, hW2, hW1]; rfl)
  obtain ⟨hf1, hf2, hf3⟩ := h.well.few
  clear hW1 hW2 hW3 hx1 hx2 hx3 s1 s2 hxk hxk' hI h
  unfold pval
  have h1 : (x.kind.toList == [97, 100, 100, 114]) = false := isK_ne hkx (k' := kAddr) rfl
  have h5 : (x.kind.toList == [110, 101, 119]) = false := isK_ne hkx (k' := kNew) rfl
  have h6 : (x.kind.toList == [102, 117, 110]) = false := isK_ne hkx (k' := kFun) rfl
  have h7 : (x.kind.toList == [99, 97, 108, 108]) = false := isK_ne hkx (k' := kCall) rfl
  have Hr : Hid (P.ruleV k x = ⟨x.kind, x.y, x.x, k, []⟩) := hid (by unfold PP.ruleV; rw [isK_ne hkx (k' := kAddr) rfl, isK_ne hkx (k' := kNew) rfl, isK_ne hkx (k' := kFun) rfl, isK_ne hkx (k' := kCall) rfl]; rfl)
  clear hkx
  clear HWe
  go_enter Tryz.func122, Tryz.ntmps122
  go_wp2
  obtain ⟨V, hV⟩ : ∃ V, V = ((w.alloc (.cells #[.slice a1 P.vars.length c1, .slice a2 P.funs.length c2, .slice (some y) P.stmts.length c3] 26)).alloc (.cells #[.string x.kind, .int .i64 x.y, .int .i64 x.x, .int .i64 (k : Int), .slice none 0 0] 123)).alloc (.cells #[.string x.kind, .int .i64 x.x, .int .i64 x.y, .slice av x.args.length cv] 77) := ⟨_, rfl⟩
  have hxV : Ext w V := by rw [hV]; exact (((Ext.refl _).alloc _).alloc _).alloc _
  have HB9 : Blk V (w.heap.size + 1) #[.string x.kind, .int .i64 x.y, .int .i64 x.x, .int .i64 (k : Int), .slice none 0 0] 123 := by
    rw [hV]
    have := (Blk.new (w.alloc (.cells #[.slice a1 P.vars.length c1, .slice a2 P.funs.length c2, .slice (some y) P.stmts.length c3] 26)) #[.string x.kind, .int .i64 x.y, .int .i64 x.x, .int .i64 (k : Int), .slice none 0 0] 123).alloc (.cells #[.string x.kind, .int .i64 x.x, .int .i64 x.y, .slice av x.args.length cv] 77)
    rwa [heap_size_alloc] at this
  rw [← hV]
  exact bodyPost_ret (v := .agg #[.string x.kind, .int .i64 x.y, .int .i64 x.x, .int .i64 (k : Int), .slice none 0 0]) (by simp [results, Tryz.results122, go_sem, HB9.av 0 rfl, HB9.av 1 rfl, HB9.av 2 rfl, HB9.av 3 rfl, HB9.av 4 rfl]) rfl ⟨_, by rw [Hr.out]; rfl, by rw [Hr.out]; exact IntsT.nil _, hxV⟩
set_option maxRecDepth 100000 in
set_option maxHeartbeats 6400000 in
theorem consrule_store (a1 a2 a3 : Option Addr) (c1 c2 c3 : Nat) (P : PP) (k : Nat) (x : PS) (hxk : P.stmts[k]? = some x) (w : World) (n0 : Nat) (ad : Nat → Addr) (h : PW w n0 ad a1 a2 a3 c1 c2 c3 P) (hkx : x.isK kStore = true) :
    Calls Tryz.prog 122 #[pval a1 a2 a3 c1 c2 c3 P, .int .i64 (k : Int)] w fun e w' => ∃ av, e = .returned ((P.ruleV k x).val av) ∧ IntsT w' av (P.ruleV k x).args ∧ Ext w w' := by
  obtain ⟨W1, hW1⟩ : ∃ W1, W1 = w.alloc (.cells (pcells a1 a2 a3 c1 c2 c3 P) 26) := ⟨_, rfl⟩
  have hx1 : Ext w W1 := by rw [hW1]; exact (Ext.refl _).alloc _
  obtain ⟨W2, hW2⟩ : ∃ W2, W2 = W1.alloc (.cells #[.string ⟨#[]⟩, .int .i64 0, .int .i64 0, .int .i64 0, .slice none 0 0] 123) := ⟨_, rfl⟩
  have hx2 : Ext W1 W2 := by rw [hW2]; exact (Ext.refl _).alloc _
  have hk : k < P.stmts.length := by
    rcases Nat.lt_or_ge k P.stmts.length with h | h
    · exact h
    · rw [List.getElem?_eq_none h] at hxk; cases hxk
  have hml := h.prog.stmts.len
  obtain ⟨y, x', av, cv, rfl, hxk', e0, e1, e2, e3, hI⟩ := (h.prog.ext (hx1.trans hx2)).stmts.at hk
  obtain rfl := Option.some.inj (hxk.symm.trans hxk')
  obtain ⟨W3, hW3⟩ : ∃ W3, W3 = W2.alloc (.cells (scells x av cv) 77) := ⟨_, rfl⟩
  have hx3 : Ext W2 W3 := by rw [hW3]; exact (Ext.refl _).alloc _
  have s1 : W1.heap.size = w.heap.size + 1 := by rw [hW1, heap_size_alloc]
  have s2 : W2.heap.size = w.heap.size + 1 + 1 := by rw [hW2, heap_size_alloc, s1]
  have HX := hid ((hx1.trans hx2).trans hx3)
  have HB0 : Hid (Blk W3 w.heap.size (pcells a1 a2 (some y) c1 c2 c3 P) 26) := hid (by
    have : Blk W1 w.heap.size (pcells a1 a2 (some y) c1 c2 c3 P) 26 := by rw [hW1]; exact Blk.new _ _ _
    exact this.ext (hx2.trans hx3))
  have HB1 : Hid (Blk W3 (w.heap.size + 1) #[.string ⟨#[]⟩, .int .i64 0, .int .i64 0, .int .i64 0, .slice none 0 0] 123) := hid (by
    have : Blk W2 (w.heap.size + 1) #[.string ⟨#[]⟩, .int .i64 0, .int .i64 0, .int .i64 0, .slice none 0 0] 123 := by rw [← s1, hW2]; exact Blk.new _ _ _
    exact this.ext hx3)
  have HB2 : Hid (Blk W3 (w.heap.size + 1 + 1) (scells x av cv) 77) := hid (by rw [← s2, hW3]; exact Blk.new _ _ _)
  have HI := hid (hI.old (hx3.old n0))
  have HPW := hid h
  have Hxk := hid hxk
  rw [hW2, hW1] at e0 e1 e2 e3
  unfold pcells at e0 e1 e2 e3
  have HWe : Hid (W3 = ((w.alloc (.cells #[.slice a1 P.vars.length c1, .slice a2 P.funs.length c2, .slice (some y) P.stmts.length c3] 26)).alloc (.cells #[.string ⟨#[]⟩, .int .i64 0, .int .i64 0, .int .i64 0, .slice none 0 0] 123)).alloc (.cells #[.string x.kind, .int .i64 x.x, .int .i64 x.y, .slice av x.args.length cv] 77)) := hid (by rw [hW3, hW2, hW1]; rfl)
  obtain ⟨hf1, hf2, hf3⟩ := h.well.few
  clear hW1 hW2 hW3 hx1 hx2 hx3 s1 s2 hxk hxk' hI h
  unfold pval
  have h1 : (x.kind.toList == [97, 100, 100, 114]) = false := isK_ne hkx (k' := kAddr) rfl
  have h5 : (x.kind.toList == [110, 101, 119]) = false := isK_ne hkx (k' := kNew) rfl
  have h6 : (x.kind.toList == [102, 117, 110]) = false := isK_ne hkx (k' := kFun) rfl
  have h7 : (x.kind.toList == [99, 97, 108, 108]) = false := isK_ne hkx (k' := kCall) rfl
  have Hr : Hid (P.ruleV k x = ⟨x.kind, x.y, x.x, k, []⟩) := hid (by unfold PP.ruleV; rw [isK_ne hkx (k' := kAddr) rfl, isK_ne hkx (k' := kNew) rfl, isK_ne hkx (k' := kFun) rfl, isK_ne hkx (k' := kCall) rfl]; rfl)
  clear hkx
  clear HWe
  go_enter Tryz.func122, Tryz.ntmps122
  go_wp2
  obtain ⟨V, hV⟩ : ∃ V, V = ((w.alloc (.cells #[.slice a1 P.vars.length c1, .slice a2 P.funs.length c2, .slice (some y) P.stmts.length c3] 26)).alloc (.cells #[.string x.kind, .int .i64 x.y, .int .i64 x.x, .int .i64 (k : Int), .slice none 0 0] 123)).alloc (.cells #[.string x.kind, .int .i64 x.x, .int .i64 x.y, .slice av x.args.length cv] 77) := ⟨_, rfl⟩
  have hxV : Ext w V := by rw [hV]; exact (((Ext.refl _).alloc _).alloc _).alloc _
  have HB9 : Blk V (w.heap.size + 1) #[.string x.kind, .int .i64 x.y, .int .i64 x.x, .int .i64 (k : Int), .slice none 0 0] 123 := by
    rw [hV]
    have := (Blk.new (w.alloc (.cells #[.slice a1 P.vars.length c1, .slice a2 P.funs.length c2, .slice (some y) P.stmts.length c3] 26)) #[.string x.kind, .int .i64 x.y, .int .i64 x.x, .int .i64 (k : Int), .slice none 0 0] 123).alloc (.cells #[.string x.kind, .int .i64 x.x, .int .i64 x.y, .slice av x.args.length cv] 77)
    rwa [heap_size_alloc] at this
  rw [← hV]
  exact bodyPost_ret (v := .agg #[.string x.kind, .int .i64 x.y, .int .i64 x.x, .int .i64 (k : Int), .slice none 0 0]) (by simp [results, Tryz.results122, go_sem, HB9.av 0 rfl, HB9.av 1 rfl, HB9.av 2 rfl, HB9.av 3 rfl, HB9.av 4 rfl]) rfl ⟨_, by rw [Hr.out]; rfl, by rw [Hr.out]; exact IntsT.nil _, hxV⟩
set_option maxRecDepth 100000 in
set_option maxHeartbeats 6400000 in
theorem consrule_new (a1 a2 a3 : Option Addr) (c1 c2 c3 : Nat) (P : PP) (k : Nat) (x : PS) (hxk : P.stmts[k]? = some x) (w : World) (n0 : Nat) (ad : Nat → Addr) (h : PW w n0 ad a1 a2 a3 c1 c2 c3 P) (hkx : x.isK kNew = true) :
    Calls Tryz.prog 122 #[pval a1 a2 a3 c1 c2 c3 P, .int .i64 (k : Int)] w fun e w' => ∃ av, e = .returned ((P.ruleV k x).val av) ∧ IntsT w' av (P.ruleV k x).args ∧ Ext w w' := by
  have HPl := fun w1 (x : Ext w w1) => hid (progplace_any a1 a2 a3 c1 c2 c3 P (k : Int) w1 n0 ad (h.errs.ext x) (h.prog.ext x) h.z1 h.z2 h.well)
  obtain ⟨W1, hW1⟩ : ∃ W1, W1 = w.alloc (.cells (pcells a1 a2 a3 c1 c2 c3 P) 26) := ⟨_, rfl⟩
  have hx1 : Ext w W1 := by rw [hW1]; exact (Ext.refl _).alloc _
  obtain ⟨W2, hW2⟩ : ∃ W2, W2 = W1.alloc (.cells #[.string ⟨#[]⟩, .int .i64 0, .int .i64 0, .int .i64 0, .slice none 0 0] 123) := ⟨_, rfl⟩
  have hx2 : Ext W1 W2 := by rw [hW2]; exact (Ext.refl _).alloc _
  have hk : k < P.stmts.length := by
    rcases Nat.lt_or_ge k P.stmts.length with h | h
    · exact h
    · rw [List.getElem?_eq_none h] at hxk; cases hxk
  have hml := h.prog.stmts.len
  obtain ⟨y, x', av, cv, rfl, hxk', e0, e1, e2, e3, hI⟩ := (h.prog.ext (hx1.trans hx2)).stmts.at hk
  obtain rfl := Option.some.inj (hxk.symm.trans hxk')
  obtain ⟨W3, hW3⟩ : ∃ W3, W3 = W2.alloc (.cells (scells x av cv) 77) := ⟨_, rfl⟩
  have hx3 : Ext W2 W3 := by rw [hW3]; exact (Ext.refl _).alloc _
  have s1 : W1.heap.size = w.heap.size + 1 := by rw [hW1, heap_size_alloc]
  have s2 : W2.heap.size = w.heap.size + 1 + 1 := by rw [hW2, heap_size_alloc, s1]
  have HX := hid ((hx1.trans hx2).trans hx3)
  have HB0 : Hid (Blk W3 w.heap.size (pcells a1 a2 (some y) c1 c2 c3 P) 26) := hid (by
    have : Blk W1 w.heap.size (pcells a1 a2 (some y) c1 c2 c3 P) 26 := by rw [hW1]; exact Blk.new _ _ _
    exact this.ext (hx2.trans hx3))
  have HB1 : Hid (Blk W3 (w.heap.size + 1) #[.string ⟨#[]⟩, .int .i64 0, .int .i64 0, .int .i64 0, .slice none 0 0] 123) := hid (by
    have : Blk W2 (w.heap.size + 1) #[.string ⟨#[]⟩, .int .i64 0, .int .i64 0, .int .i64 0, .slice none 0 0] 123 := by rw [← s1, hW2]; exact Blk.new _ _ _
    exact this.ext hx3)
  have HB2 : Hid (Blk W3 (w.heap.size + 1 + 1) (scells x av cv) 77) := hid (by rw [← s2, hW3]; exact Blk.new _ _ _)
  have HI := hid (hI.old (hx3.old n0))
  have HPW := hid h
  have Hxk := hid hxk
  rw [hW2, hW1] at e0 e1 e2 e3
  unfold pcells at e0 e1 e2 e3
  have HWe : Hid (W3 = ((w.alloc (.cells #[.slice a1 P.vars.length c1, .slice a2 P.funs.length c2, .slice (some y) P.stmts.length c3] 26)).alloc (.cells #[.string ⟨#[]⟩, .int .i64 0, .int .i64 0, .int .i64 0, .slice none 0 0] 123)).alloc (.cells #[.string x.kind, .int .i64 x.x, .int .i64 x.y, .slice av x.args.length cv] 77)) := hid (by rw [hW3, hW2, hW1]; rfl)
  obtain ⟨hf1, hf2, hf3⟩ := h.well.few
  clear hW1 hW2 hW3 hx1 hx2 hx3 s1 s2 hxk hxk' hI h
  unfold pval
  unfold pval at HPl
  have h1 : (x.kind.toList == [97, 100, 100, 114]) = false := isK_ne hkx (k' := kAddr) rfl
  have hkk := hkx
  unfold PS.isK kNew at hkk
  have Hr : Hid (P.ruleV k x = ⟨bBase, x.x, P.placeV k, k, []⟩) := hid (by unfold PP.ruleV; rw [isK_ne hkx (k' := kAddr) rfl, hkx]; rfl)
  clear hkx
  have x0 := Ext.refl W3
  have m0 := (HB2.out.ext x0).kc (X := fun _ => False) (fun e => e) 0 rfl
  have m1 := (HB2.out.ext x0).kc (X := fun _ => False) (fun e => e) 1 rfl
  have m2 := (HB2.out.ext x0).kc (X := fun _ => False) (fun e => e) 2 rfl
  have m3 := (HB2.out.ext x0).kc (X := fun _ => False) (fun e => e) 3 rfl
  have d0 := (HB0.out.ext x0).kc (X := fun _ => False) (fun e => e) 0 rfl
  have d1 := (HB0.out.ext x0).kc (X := fun _ => False) (fun e => e) 1 rfl
  have d2 := (HB0.out.ext x0).kc (X := fun _ => False) (fun e => e) 2 rfl
  simp only [pcells, scells, qA0, qA1, qA2] at m0 m1 m2 m3 d0 d1 d2
  clear x0
  go_enter Tryz.func122, Tryz.ntmps122
  go_wp2
  rw [← HWe.out]
  refine wp_flowT (fun _ => False) (by kernel_rfl) (by kernel_rfl) ?_
  repeat (apply FlowT.d; (intro w1 hk; unfold does; go_simp; (try go_ints); (first | exact DetR.mk | (simp only [↓IntWalk.iteOmega, Oper.doesUpon_value]; exact DetR.mk) | (simp only [↓IntWalk.iteOmega]; go_simp; (try go_ints); exact DetR.mk))); simp only [Act.put, qS0, qS1, qS2])
  apply FlowT.d
  · intro w1 hk
    unfold does
    go_simp
    exact CallR.det ((HPl w1 (HX.out.trans hk.ext)).out)
  simp only [Act.put, qS0, qS1, qS2]
  repeat (apply FlowT.d; (intro w1 hk; unfold does; go_simp; (try go_ints); (first | exact DetR.mk | (simp only [↓IntWalk.iteOmega, Oper.doesUpon_value]; exact DetR.mk) | (simp only [↓IntWalk.iteOmega]; go_simp; (try go_ints); exact DetR.mk))); simp only [Act.put, qS0, qS1, qS2])
  refine FlowT.last (fun _ w' => Blk w' (w.heap.size + 1) #[.string ⟨#[98, 97, 115, 101]⟩, .int .i64 x.x, .int .i64 (P.placeV k), .int .i64 (k : Int), .slice none 0 0] 123 ∧ IntsT w' (.slice none 0 0) (P.ruleV k x).args ∧ Ext w w') 7 rfl (by kernel_rfl) (by kernel_rfl) (fun w1 hC hk => ?_) (fun _ w2 hR => ?_)
  · have hB := HB1.out.ext hC
    have c0 := hB.av 0 rfl
    have c1 := hB.av 1 rfl
    have c2 := hB.av 2 rfl
    have c3 := hB.av 3 rfl
    have c4 := hB.av 4 rfl
    have f0 := hB.free
    unfold does
    go_simp
    exact ⟨store5 hB, by rw [Hr.out]; exact IntsT.nil _, Keep.new (HX.out.trans hC) (store5_keep _ _ _ _ _ _ _) (fun b hb => by omega)⟩
  obtain ⟨hB, hT, hxw⟩ := hR
  simp only [Act.put]
  have HT := hid hT
  have HBw := hid hB
  clear hT
  go_wp2
  exact bodyPost_ret (v := .agg #[.string ⟨#[98, 97, 115, 101]⟩, .int .i64 x.x, .int .i64 (P.placeV k), .int .i64 (k : Int), .slice none 0 0]) (by simp [results, Tryz.results122, go_sem, hB.av 0 rfl, hB.av 1 rfl, hB.av 2 rfl, hB.av 3 rfl, hB.av 4 rfl]) rfl ⟨_, by rw [Hr.out]; rfl, HT.out, hxw⟩
set_option maxRecDepth 100000 in
set_option maxHeartbeats 6400000 in
theorem consrule_fun (a1 a2 a3 : Option Addr) (c1 c2 c3 : Nat) (P : PP) (k : Nat) (x : PS) (hxk : P.stmts[k]? = some x) (w : World) (n0 : Nat) (ad : Nat → Addr) (h : PW w n0 ad a1 a2 a3 c1 c2 c3 P) (hkx : x.isK kFun = true) :
    Calls Tryz.prog 122 #[pval a1 a2 a3 c1 c2 c3 P, .int .i64 (k : Int)] w fun e w' => ∃ av, e = .returned ((P.ruleV k x).val av) ∧ IntsT w' av (P.ruleV k x).args ∧ Ext w w' := by
  have HNo := fun w1 (x : Ext w w1) => hid (prognodes_any a1 a2 a3 c1 c2 c3 P w1 n0 ad (h.errs.ext x) (h.prog.ext x) h.z1 h.z2 h.well)
  have hg := (PP.good (h.well.2 k x (by
    rcases Nat.lt_or_ge k P.stmts.length with h | h
    · exact h
    · rw [List.getElem?_eq_none h] at hxk; cases hxk) hxk)).yf hkx
  have hnl := P.nodesV_le2
  obtain ⟨W1, hW1⟩ : ∃ W1, W1 = w.alloc (.cells (pcells a1 a2 a3 c1 c2 c3 P) 26) := ⟨_, rfl⟩
  have hx1 : Ext w W1 := by rw [hW1]; exact (Ext.refl _).alloc _
  obtain ⟨W2, hW2⟩ : ∃ W2, W2 = W1.alloc (.cells #[.string ⟨#[]⟩, .int .i64 0, .int .i64 0, .int .i64 0, .slice none 0 0] 123) := ⟨_, rfl⟩
  have hx2 : Ext W1 W2 := by rw [hW2]; exact (Ext.refl _).alloc _
  have hk : k < P.stmts.length := by
    rcases Nat.lt_or_ge k P.stmts.length with h | h
    · exact h
    · rw [List.getElem?_eq_none h] at hxk; cases hxk
  have hml := h.prog.stmts.len
  obtain ⟨y, x', av, cv, rfl, hxk', e0, e1, e2, e3, hI⟩ := (h.prog.ext (hx1.trans hx2)).stmts.at hk
  obtain rfl := Option.some.inj (hxk.symm.trans hxk')
  obtain ⟨W3, hW3⟩ : ∃ W3, W3 = W2.alloc (.cells (scells x av cv) 77) := ⟨_, rfl⟩
  have hx3 : Ext W2 W3 := by rw [hW3]; exact (Ext.refl _).alloc _
  have s1 : W1.heap.size = w.heap.size + 1 := by rw [hW1, heap_size_alloc]
  have s2 : W2.heap.size = w.heap.size + 1 + 1 := by rw [hW2, heap_size_alloc, s1]
  have HX := hid ((hx1.trans hx2).trans hx3)
  have HB0 : Hid (Blk W3 w.heap.size (pcells a1 a2 (some y) c1 c2 c3 P) 26) := hid (by
    have : Blk W1 w.heap.size (pcells a1 a2 (some y) c1 c2 c3 P) 26 := by rw [hW1]; exact Blk.new _ _ _
    exact this.ext (hx2.trans hx3))
  have HB1 : Hid (Blk W3 (w.heap.size + 1) #[.string ⟨#[]⟩, .int .i64 0, .int .i64 0, .int .i64 0, .slice none 0 0] 123) := hid (by
    have : Blk W2 (w.heap.size + 1) #[.string ⟨#[]⟩, .int .i64 0, .int .i64 0, .int .i64 0, .slice none 0 0] 123 := by rw [← s1, hW2]; exact Blk.new _ _ _
    exact this.ext hx3)
  have HB2 : Hid (Blk W3 (w.heap.size + 1 + 1) (scells x av cv) 77) := hid (by rw [← s2, hW3]; exact Blk.new _ _ _)
  have HI := hid (hI.old (hx3.old n0))
  have HPW := hid h
  have Hxk := hid hxk
  rw [hW2, hW1] at e0 e1 e2 e3
  unfold pcells at e0 e1 e2 e3
  have HWe : Hid (W3 = ((w.alloc (.cells #[.slice a1 P.vars.length c1, .slice a2 P.funs.length c2, .slice (some y) P.stmts.length c3] 26)).alloc (.cells #[.string ⟨#[]⟩, .int .i64 0, .int .i64 0, .int .i64 0, .slice none 0 0] 123)).alloc (.cells #[.string x.kind, .int .i64 x.x, .int .i64 x.y, .slice av x.args.length cv] 77)) := hid (by rw [hW3, hW2, hW1]; rfl)
  obtain ⟨hf1, hf2, hf3⟩ := h.well.few
  clear hW1 hW2 hW3 hx1 hx2 hx3 s1 s2 hxk hxk' hI h
  unfold pval
  unfold pval at HNo
  have h1 : (x.kind.toList == [97, 100, 100, 114]) = false := isK_ne hkx (k' := kAddr) rfl
  have h5 : (x.kind.toList == [110, 101, 119]) = false := isK_ne hkx (k' := kNew) rfl
  have hkk := hkx
  unfold PS.isK kFun at hkk
  obtain ⟨N, hN⟩ : ∃ N, N = P.nodesV := ⟨_, rfl⟩
  have Hr : Hid (P.ruleV k x = ⟨bBase, x.x, (N : Int) + x.y, k, []⟩) := hid (by unfold PP.ruleV; rw [isK_ne hkx (k' := kAddr) rfl, isK_ne hkx (k' := kNew) rfl, hkx, hN]; rfl)
  rw [← hN] at HNo hnl
  obtain ⟨hg1, hg2⟩ := hg
  clear hkx hN
  have x0 := Ext.refl W3
  have m0 := (HB2.out.ext x0).kc (X := fun _ => False) (fun e => e) 0 rfl
  have m1 := (HB2.out.ext x0).kc (X := fun _ => False) (fun e => e) 1 rfl
  have m2 := (HB2.out.ext x0).kc (X := fun _ => False) (fun e => e) 2 rfl
  have m3 := (HB2.out.ext x0).kc (X := fun _ => False) (fun e => e) 3 rfl
  have d0 := (HB0.out.ext x0).kc (X := fun _ => False) (fun e => e) 0 rfl
  have d1 := (HB0.out.ext x0).kc (X := fun _ => False) (fun e => e) 1 rfl
  have d2 := (HB0.out.ext x0).kc (X := fun _ => False) (fun e => e) 2 rfl
  simp only [pcells, scells, qA0, qA1, qA2] at m0 m1 m2 m3 d0 d1 d2
  clear x0
  go_enter Tryz.func122, Tryz.ntmps122
  go_wp2
  rw [← HWe.out]
  refine wp_flowT (fun _ => False) (by kernel_rfl) (by kernel_rfl) ?_
  repeat (apply FlowT.d; (intro w1 hk; unfold does; go_simp; (try go_ints); (first | exact DetR.mk | (simp only [↓IntWalk.iteOmega, Oper.doesUpon_value]; exact DetR.mk) | (simp only [↓IntWalk.iteOmega]; go_simp; (try go_ints); exact DetR.mk))); simp only [Act.put, qS0, qS1, qS2])
  apply FlowT.d
  · intro w1 hk
    unfold does
    go_simp
    exact CallR.det ((HNo w1 (HX.out.trans hk.ext)).out)
  simp only [Act.put, qS0, qS1, qS2]
  repeat (apply FlowT.d; (intro w1 hk; unfold does; go_simp; (try go_ints); (first | exact DetR.mk | (simp only [↓IntWalk.iteOmega, Oper.doesUpon_value]; exact DetR.mk) | (simp only [↓IntWalk.iteOmega]; go_simp; (try go_ints); exact DetR.mk))); simp only [Act.put, qS0, qS1, qS2])
  refine FlowT.last (fun _ w' => Blk w' (w.heap.size + 1) #[.string ⟨#[98, 97, 115, 101]⟩, .int .i64 x.x, .int .i64 ((N : Int) + x.y), .int .i64 (k : Int), .slice none 0 0] 123 ∧ IntsT w' (.slice none 0 0) (P.ruleV k x).args ∧ Ext w w') 9 rfl (by kernel_rfl) (by kernel_rfl) (fun w1 hC hk => ?_) (fun _ w2 hR => ?_)
  · have hB := HB1.out.ext hC
    have c0 := hB.av 0 rfl
    have c1 := hB.av 1 rfl
    have c2 := hB.av 2 rfl
    have c3 := hB.av 3 rfl
    have c4 := hB.av 4 rfl
    have f0 := hB.free
    unfold does
    go_simp
    exact ⟨store5 hB, by rw [Hr.out]; exact IntsT.nil _, Keep.new (HX.out.trans hC) (store5_keep _ _ _ _ _ _ _) (fun b hb => by omega)⟩
  obtain ⟨hB, hT, hxw⟩ := hR
  simp only [Act.put]
  have HT := hid hT
  have HBw := hid hB
  clear hT
  go_wp2
  exact bodyPost_ret (v := .agg #[.string ⟨#[98, 97, 115, 101]⟩, .int .i64 x.x, .int .i64 ((N : Int) + x.y), .int .i64 (k : Int), .slice none 0 0]) (by simp [results, Tryz.results122, go_sem, hB.av 0 rfl, hB.av 1 rfl, hB.av 2 rfl, hB.av 3 rfl, hB.av 4 rfl]) rfl ⟨_, by rw [Hr.out]; rfl, HT.out, hxw⟩
theorem call_few {P : PP} {x : PS} (h0 : P.stmtErr x = 0) (h : x.isK kCall = true) : x.args.length ≤ 3 := by
  unfold PP.stmtErr at h0
  cases h1 : memB x.kind kindsS with
  | false => rw [h1] at h0; simp at h0
  | true =>
    cases h2 : P.bound x with
    | false => rw [h1, h2] at h0; simp at h0
    | true =>
      rw [h1, h2, h] at h0
      rcases Nat.lt_or_ge 3 x.args.length with h3 | h3
      · simp [h3] at h0
      · exact h3
set_option maxRecDepth 100000 in
set_option maxHeartbeats 6400000 in
theorem consrule_call (a1 a2 a3 : Option Addr) (c1 c2 c3 : Nat) (P : PP) (k : Nat) (x : PS) (hxk : P.stmts[k]? = some x) (w : World) (n0 : Nat) (ad : Nat → Addr) (h : PW w n0 ad a1 a2 a3 c1 c2 c3 P) (hkx : x.isK kCall = true) :
    Calls Tryz.prog 122 #[pval a1 a2 a3 c1 c2 c3 P, .int .i64 (k : Int)] w fun e w' => ∃ av, e = .returned ((P.ruleV k x).val av) ∧ IntsT w' av (P.ruleV k x).args ∧ Ext w w' := by
  have hfew := call_few (h.well.2 k x (by
    rcases Nat.lt_or_ge k P.stmts.length with h | h
    · exact h
    · rw [List.getElem?_eq_none h] at hxk; cases hxk) hxk) hkx
  obtain ⟨W1, hW1⟩ : ∃ W1, W1 = w.alloc (.cells (pcells a1 a2 a3 c1 c2 c3 P) 26) := ⟨_, rfl⟩
  have hx1 : Ext w W1 := by rw [hW1]; exact (Ext.refl _).alloc _
  obtain ⟨W2, hW2⟩ : ∃ W2, W2 = W1.alloc (.cells #[.string ⟨#[]⟩, .int .i64 0, .int .i64 0, .int .i64 0, .slice none 0 0] 123) := ⟨_, rfl⟩
  have hx2 : Ext W1 W2 := by rw [hW2]; exact (Ext.refl _).alloc _
  have hk : k < P.stmts.length := by
    rcases Nat.lt_or_ge k P.stmts.length with h | h
    · exact h
    · rw [List.getElem?_eq_none h] at hxk; cases hxk
  have hml := h.prog.stmts.len
  obtain ⟨y, x', av, cv, rfl, hxk', e0, e1, e2, e3, hI⟩ := (h.prog.ext (hx1.trans hx2)).stmts.at hk
  obtain rfl := Option.some.inj (hxk.symm.trans hxk')
  obtain ⟨W3, hW3⟩ : ∃ W3, W3 = W2.alloc (.cells (scells x av cv) 77) := ⟨_, rfl⟩
  have hx3 : Ext W2 W3 := by rw [hW3]; exact (Ext.refl _).alloc _
  have s1 : W1.heap.size = w.heap.size + 1 := by rw [hW1, heap_size_alloc]
  have s2 : W2.heap.size = w.heap.size + 1 + 1 := by rw [hW2, heap_size_alloc, s1]
  have HX := hid ((hx1.trans hx2).trans hx3)
  have HB0 : Hid (Blk W3 w.heap.size (pcells a1 a2 (some y) c1 c2 c3 P) 26) := hid (by
    have : Blk W1 w.heap.size (pcells a1 a2 (some y) c1 c2 c3 P) 26 := by rw [hW1]; exact Blk.new _ _ _
    exact this.ext (hx2.trans hx3))
  have HB1 : Hid (Blk W3 (w.heap.size + 1) #[.string ⟨#[]⟩, .int .i64 0, .int .i64 0, .int .i64 0, .slice none 0 0] 123) := hid (by
    have : Blk W2 (w.heap.size + 1) #[.string ⟨#[]⟩, .int .i64 0, .int .i64 0, .int .i64 0, .slice none 0 0] 123 := by rw [← s1, hW2]; exact Blk.new _ _ _
    exact this.ext hx3)
  have HB2 : Hid (Blk W3 (w.heap.size + 1 + 1) (scells x av cv) 77) := hid (by rw [← s2, hW3]; exact Blk.new _ _ _)
  have HI := hid (hI.old (hx3.old n0))
  have HPW := hid h
  have Hxk := hid hxk
  rw [hW2, hW1] at e0 e1 e2 e3
  unfold pcells at e0 e1 e2 e3
  have HWe : Hid (W3 = ((w.alloc (.cells #[.slice a1 P.vars.length c1, .slice a2 P.funs.length c2, .slice (some y) P.stmts.length c3] 26)).alloc (.cells #[.string ⟨#[]⟩, .int .i64 0, .int .i64 0, .int .i64 0, .slice none 0 0] 123)).alloc (.cells #[.string x.kind, .int .i64 x.x, .int .i64 x.y, .slice av x.args.length cv] 77)) := hid (by rw [hW3, hW2, hW1]; rfl)
  obtain ⟨hf1, hf2, hf3⟩ := h.well.few
  clear hW1 hW2 hW3 hx1 hx2 hx3 s1 s2 hxk hxk' hI h
  unfold pval
  have HCl := fun w1 (y : Ext W3 w1) => hid (clone_big (.slice av x.args.length cv) x.args w1 n0 (HI.out.old (y.old n0)) (by omega))
  have h1 : (x.kind.toList == [97, 100, 100, 114]) = false := isK_ne hkx (k' := kAddr) rfl
  have h5 : (x.kind.toList == [110, 101, 119]) = false := isK_ne hkx (k' := kNew) rfl
  have h6 : (x.kind.toList == [102, 117, 110]) = false := isK_ne hkx (k' := kFun) rfl
  have hkk := hkx
  unfold PS.isK kCall at hkk
  have Hr : Hid (P.ruleV k x = ⟨bCall, x.y, x.x, k, x.args⟩) := hid (by unfold PP.ruleV; rw [isK_ne hkx (k' := kAddr) rfl, isK_ne hkx (k' := kNew) rfl, isK_ne hkx (k' := kFun) rfl, hkx]; rfl)
  clear hkx
  have x0 := Ext.refl W3
  have m0 := (HB2.out.ext x0).kc (X := fun _ => False) (fun e => e) 0 rfl
  have m1 := (HB2.out.ext x0).kc (X := fun _ => False) (fun e => e) 1 rfl
  have m2 := (HB2.out.ext x0).kc (X := fun _ => False) (fun e => e) 2 rfl
  have m3 := (HB2.out.ext x0).kc (X := fun _ => False) (fun e => e) 3 rfl
  have d0 := (HB0.out.ext x0).kc (X := fun _ => False) (fun e => e) 0 rfl
  have d1 := (HB0.out.ext x0).kc (X := fun _ => False) (fun e => e) 1 rfl
  have d2 := (HB0.out.ext x0).kc (X := fun _ => False) (fun e => e) 2 rfl
  simp only [pcells, scells, qA0, qA1, qA2] at m0 m1 m2 m3 d0 d1 d2
  clear x0
  go_enter Tryz.func122, Tryz.ntmps122
  go_wp2
  rw [← HWe.out]
  refine wp_flowT (fun _ => False) (by kernel_rfl) (by kernel_rfl) ?_
  repeat (apply FlowT.d; (intro w1 hk; unfold does; go_simp; (try go_ints); (first | exact DetR.mk | (simp only [↓IntWalk.iteOmega, Oper.doesUpon_value]; exact DetR.mk) | (simp only [↓IntWalk.iteOmega]; go_simp; (try go_ints); exact DetR.mk))); simp only [Act.put, qS0, qS1, qS2])
  refine FlowT.s (fun v w' => (∃ a c, v = .slice a x.args.length c) ∧ IntsT w' v x.args ∧ Ext W3 w') 7 rfl (by kernel_rfl) (fun _ _ _ ⟨h1, h2, h3⟩ y => ⟨h1, h2.ext y, h3.trans y⟩) (fun w1 hC hk => ?_) ?_
  · unfold does
    go_simp
    refine CallR.act ((HCl w1 hC).out.mono ?_)
    rintro e w2 ⟨v, rfl, hx, hr⟩
    exact ⟨v, rfl, (hC.trans hx).keep _, hr.form, IntsT.of_row hr, hC.trans hx⟩
  rintro _ ⟨_, ⟨a9, c9, rfl⟩, _, _⟩
  simp only [Act.put, qS0, qS1, qS2]
  repeat (apply FlowT.d; (intro w1 hk; unfold does; go_simp; (try go_ints); (first | exact DetR.mk | (simp only [↓IntWalk.iteOmega, Oper.doesUpon_value]; exact DetR.mk) | (simp only [↓IntWalk.iteOmega]; go_simp; (try go_ints); exact DetR.mk))); simp only [Act.put, qS0, qS1, qS2])
  refine FlowT.last (fun _ w' => Blk w' (w.heap.size + 1) #[.string ⟨#[99, 97, 108, 108]⟩, .int .i64 x.y, .int .i64 x.x, .int .i64 (k : Int), .slice a9 x.args.length c9] 123 ∧ IntsT w' (.slice a9 x.args.length c9) (P.ruleV k x).args ∧ Ext w w') 9 rfl (by kernel_rfl) (by kernel_rfl) (fun w1 hC hk => ?_) (fun _ w2 hR => ?_)
  · obtain ⟨_, hT, hC⟩ := hC
    have hB := HB1.out.ext hC
    have c0 := hB.av 0 rfl
    have c1 := hB.av 1 rfl
    have c2 := hB.av 2 rfl
    have c3 := hB.av 3 rfl
    have c4 := hB.av 4 rfl
    have f0 := hB.free
    unfold does
    go_simp
    exact ⟨store5 hB, by rw [Hr.out]; exact store5_old hT hB _ _ _ _ _, Keep.new (HX.out.trans hC) (store5_keep _ _ _ _ _ _ _) (fun b hb => by omega)⟩
  obtain ⟨hB, hT, hxw⟩ := hR
  simp only [Act.put]
  have HT := hid hT
  have HBw := hid hB
  clear hT
  go_wp2
  exact bodyPost_ret (v := .agg #[.string ⟨#[99, 97, 108, 108]⟩, .int .i64 x.y, .int .i64 x.x, .int .i64 (k : Int), .slice a9 x.args.length c9]) (by simp [results, Tryz.results122, go_sem, hB.av 0 rfl, hB.av 1 rfl, hB.av 2 rfl, hB.av 3 rfl, hB.av 4 rfl]) rfl ⟨_, by rw [Hr.out]; rfl, HT.out, hxw⟩
theorem consrule_any (a1 a2 a3 : Option Addr) (c1 c2 c3 : Nat) (P : PP) (k : Nat) (x : PS) (hxk : P.stmts[k]? = some x) (w : World) (n0 : Nat) (ad : Nat → Addr) (h : PW w n0 ad a1 a2 a3 c1 c2 c3 P) :
    Calls Tryz.prog 122 #[pval a1 a2 a3 c1 c2 c3 P, .int .i64 (k : Int)] w fun e w' => ∃ av, e = .returned ((P.ruleV k x).val av) ∧ IntsT w' av (P.ruleV k x).args ∧ Ext w w' := by
  have hk : k < P.stmts.length := by
    rcases Nat.lt_or_ge k P.stmts.length with h | h
    · exact h
    · rw [List.getElem?_eq_none h] at hxk; cases hxk
  rcases kind_cases (h.well.2 k x hk hxk) with g | g | g | g | g | g | g
  · exact consrule_addr a1 a2 a3 c1 c2 c3 P k x hxk w n0 ad h g
  · exact consrule_copy a1 a2 a3 c1 c2 c3 P k x hxk w n0 ad h g
  · exact consrule_load a1 a2 a3 c1 c2 c3 P k x hxk w n0 ad h g
  · exact consrule_store a1 a2 a3 c1 c2 c3 P k x hxk w n0 ad h g
  · exact consrule_new a1 a2 a3 c1 c2 c3 P k x hxk w n0 ad h g
  · exact consrule_fun a1 a2 a3 c1 c2 c3 P k x hxk w n0 ad h g
  · exact consrule_call a1 a2 a3 c1 c2 c3 P k x hxk w n0 ad h g
end Go.Proofs.YtbagppdibncfdaaGreatDoor
