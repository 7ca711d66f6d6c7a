/- Texts of one proof, put together: WD V7 V8 WE WF. -/
import Derived.Test.YtkabgmohgjljkaaGreatDoorZRD13
import Derived.Test.YtkabgmohgjljkaaGreatDoorZRD15

/- The reference's runs: any statement; the beginning. -/
namespace Go.Proofs.YtkabgmohgjljkaaGreatDoor
set_option linter.unusedSimpArgs false
set_option linter.unusedVariables false
open Go Go.RowKit

theorem stmt_call_eq {P : PP} {k : Nat} {x : PS} (h : x.isK kCall = true) (s : Rn) : s.stmt P k x = s.call P x := by
  unfold Rn.stmt; rw [isK_ne h (k' := kAddr) rfl, isK_ne h (k' := kCopy) rfl, isK_ne h (k' := kLoad) rfl, isK_ne h (k' := kStore) rfl, isK_ne h (k' := kNew) rfl, isK_ne h (k' := kFun) rfl, h]; simp only [cond_true, cond_false]
theorem rstdo_call (a1 a2 a3 : Option Addr) (c1 c2 c3 : Nat) (P : PP) (k : Nat) (x : PS) (hxk : P.stmts[k]? = some x) (hg : P.Good x) (hkx : x.isK kCall = true) (hF : ∀ f ∈ P.funs, P.GoodF f) (s : Rn) (hs : s.Ok P) (w : World) (n0 sb : Nat) (vv tv pv : Value) (hR : RfAt w n0 sb vv tv pv s) (hP : ProgR w n0 (.slice a1 P.vars.length c1) (.slice a2 P.funs.length c2) (.slice a3 P.stmts.length c3) P) (hn0 : n0 ≤ w.heap.size) (hsm : s.things.length ≤ 100000) :
    Calls Tryz.prog 13 #[.pointer (some ⟨sb, 0, none⟩), pval a1 a2 a3 c1 c2 c3 P, .int .i64 (k : Int)] w fun e w' => e = .returned (.tuple #[]) ∧ (∃ vv' tv' pv', RfAt w' n0 sb vv' tv' pv' (s.stmt P k x)) ∧ Old n0 w w' := by
  rw [stmt_call_eq hkx]
  cases hv : s.at x.y with
  | fn n =>
    have hn : n < P.funs.length := by have := hs.at x.y; rw [hv] at this; exact this
    have hf : P.funs[n]? = some (P.funs[n]'hn) := List.getElem?_eq_getElem hn
    by_cases hl : (P.funs[n]'hn).params.length = x.args.length
    · have h := rstdo_call_yes a1 a2 a3 c1 c2 c3 P k x hxk hg hkx hF s hs w n0 sb vv tv pv hR hP hn0 hsm n _ hv hf hl
      have e : s.call P x = s.callF x (P.funs[n]'hn) := by unfold Rn.call; rw [hv]; simp only [hf]
      rw [e]; exact h
    · have h := rstdo_call_far a1 a2 a3 c1 c2 c3 P k x hxk hg hkx hF s hs w n0 sb vv tv pv hR hP hn0 hsm n hv (fun f h => by rw [hf] at h; obtain rfl := Option.some.inj h; exact hl)
      have e : s.call P x = s := by unfold Rn.call; rw [hv]; simp only [hf, Rn.callF, if_neg hl]
      rw [e]; exact h
  | none =>
    have e : s.call P x = s := by unfold Rn.call; rw [hv]
    rw [e]; exact rstdo_call_no a1 a2 a3 c1 c2 c3 P k x hxk hg hkx hF s hs w n0 sb vv tv pv hR hP hn0 hsm (fun n h => by rw [hv] at h; cases h)
  | var m =>
    have e : s.call P x = s := by unfold Rn.call; rw [hv]
    rw [e]; exact rstdo_call_no a1 a2 a3 c1 c2 c3 P k x hxk hg hkx hF s hs w n0 sb vv tv pv hR hP hn0 hsm (fun n h => by rw [hv] at h; cases h)
  | thing m =>
    have e : s.call P x = s := by unfold Rn.call; rw [hv]
    rw [e]; exact rstdo_call_no a1 a2 a3 c1 c2 c3 P k x hxk hg hkx hF s hs w n0 sb vv tv pv hR hP hn0 hsm (fun n h => by rw [hv] at h; cases h)
/-- What any statement does. -/
theorem rstdo_any (a1 a2 a3 : Option Addr) (c1 c2 c3 : Nat) (P : PP) (k : Nat) (x : PS) (hxk : P.stmts[k]? = some x) (hx0 : P.stmtErr x = 0) (hF : ∀ f ∈ P.funs, P.GoodF f) (s : Rn) (hs : s.Ok P) (w : World) (n0 sb : Nat) (vv tv pv : Value) (hR : RfAt w n0 sb vv tv pv s) (hP : ProgR w n0 (.slice a1 P.vars.length c1) (.slice a2 P.funs.length c2) (.slice a3 P.stmts.length c3) P) (hn0 : n0 ≤ w.heap.size) (hsm : s.things.length ≤ 100000) :
    Calls Tryz.prog 13 #[.pointer (some ⟨sb, 0, none⟩), pval a1 a2 a3 c1 c2 c3 P, .int .i64 (k : Int)] w fun e w' => e = .returned (.tuple #[]) ∧ (∃ vv' tv' pv', RfAt w' n0 sb vv' tv' pv' (s.stmt P k x)) ∧ Old n0 w w' := by
  have hg := PP.good hx0
  rcases kind_cases hx0 with h | h | h | h | h | h | h
  · exact rstdo_addr a1 a2 a3 c1 c2 c3 P k x hxk hg h s hs w n0 sb vv tv pv hR hP hn0 hsm
  · exact rstdo_copy a1 a2 a3 c1 c2 c3 P k x hxk hg h s hs w n0 sb vv tv pv hR hP hn0 hsm
  · exact rstdo_load a1 a2 a3 c1 c2 c3 P k x hxk hg h s hs w n0 sb vv tv pv hR hP hn0 hsm
  · exact rstdo_store a1 a2 a3 c1 c2 c3 P k x hxk hg h s hs w n0 sb vv tv pv hR hP hn0 hsm
  · exact rstdo_new a1 a2 a3 c1 c2 c3 P k x hxk hg h s hs w n0 sb vv tv pv hR hP hn0 hsm
  · exact rstdo_fun a1 a2 a3 c1 c2 c3 P k x hxk hg h s hs w n0 sb vv tv pv hR hP hn0 hsm
  · exact rstdo_call a1 a2 a3 c1 c2 c3 P k x hxk hg h hF s hs w n0 sb vv tv pv hR hP hn0 hsm

set_option maxRecDepth 100000 in
set_option maxHeartbeats 6400000 in
/-- The beginning: no value at all. -/
theorem rbegin_any (a1 a2 a3 : Option Addr) (c1 c2 c3 : Nat) (P : PP) (w : World) (hvl : P.vars.length ≤ 1000) :
    Calls Tryz.prog 12 #[pval a1 a2 a3 c1 c2 c3 P] w fun e w' => Ext w w' ∧ ∃ sb vv, e = .returned (.pointer (some ⟨sb, 0, none⟩)) ∧ w.heap.size ≤ sb ∧ RfAt w' sb sb vv (.slice none 0 0) (.slice none 0 0) (Rn.begin P) := by
  obtain ⟨W1, hW1⟩ : ∃ W1, W1 = w.alloc (.cells (pcells a1 a2 a3 c1 c2 c3 P) 26) := ⟨_, rfl⟩
  obtain ⟨W2, hW2⟩ : ∃ W2, W2 = W1.alloc (.cells #[.slice none 0 0, .slice none 0 0, .slice none 0 0] 55) := ⟨_, rfl⟩
  have x1 : Ext w W1 := by rw [hW1]; exact (Ext.refl _).alloc _
  have x2 : Ext W1 W2 := by rw [hW2]; exact (Ext.refl _).alloc _
  have s1 : W1.heap.size = w.heap.size + 1 := by rw [hW1, heap_size_alloc]
  have HX := hid (x1.trans x2)
  have HB1 : Hid (Blk W2 w.heap.size (pcells a1 a2 a3 c1 c2 c3 P) 26) := hid (by
    have : Blk W1 w.heap.size (pcells a1 a2 a3 c1 c2 c3 P) 26 := by rw [hW1]; exact Blk.new _ _ _
    exact this.ext x2)
  obtain ⟨sb, hsb⟩ : ∃ sb, sb = w.heap.size + 1 := ⟨_, rfl⟩
  have HR0 : Hid (RfAt W2 sb sb (.slice none 0 0) (.slice none 0 0) (.slice none 0 0) ⟨List.replicate 0 .none, [], []⟩) := hid
    ⟨by rw [hW2, hsb, ← s1]; exact Blk.new _ _ _, Nat.le_refl _, World.ownsRow_nil _ _ _ _, World.ownsRow_nil _ _ _ _, World.ownsRow_nil _ _ _ _, fun b h => by cases h⟩
  have HW2 : Hid (W2 = (w.alloc (.cells #[.slice a1 P.vars.length c1, .slice a2 P.funs.length c2, .slice a3 P.stmts.length c3] 26)).alloc (.cells #[.slice none 0 0, .slice none 0 0, .slice none 0 0] 55)) := hid (by rw [hW2, hW1]; rfl)
  have Hsb := hid hsb
  unfold pval
  clear hW1 hW2 x1 x2 s1
  go_enter Tryz.func12, Tryz.ntmps12
  go_wp2
  rw [← HW2.out, ← hsb]
  clear hsb
  go_loopw [4] (fun t4 wr => ∃ (k : Nat) (vv : Value), t4 = .int .i64 (k : Int) ∧ k ≤ P.vars.length ∧ RfAt wr sb sb vv (.slice none 0 0) (.slice none 0 0) ⟨List.replicate k .none, [], []⟩ ∧ Old sb W2 wr) (fun t4 _ => P.vars.length - (intOf t4).toNat)
  case atStart => exact ⟨0, _, rfl, Nat.zero_le _, HR0.out, Old.refl _ _⟩
  case round =>
    obtain ⟨k, vv, rfl, hk, hR, hO⟩ := hrel
    obtain ⟨av, cv, hvv⟩ := row_form hR.vars
    rw [List.length_replicate] at hvv
    subst hvv
    have HR := hid hR
    have HO := hid hO
    have p0 := (HB1.out.keep hO (fun e => by have := Hsb.out; omega)).av 0 rfl
    have d0 := hR.blk.av 0 rfl
    simp only [pcells, List.getElem_toArray, List.getElem_cons_zero, List.getElem_cons_succ] at p0 d0
    have Hrow : Hid (wr.ownsRow sb 52 2 (.slice av k cv) k ((List.replicate k Vl.none).flatMap Vl.cells)) := hid (by have := hR.vars; simpa only [List.length_replicate] using this)
    have Hsl : Hid (sb ≤ (wr.alloc (.cells #[.string ⟨#[110, 111, 110, 101]⟩, .int .i64 0] 52)).heap.size) := hid (Nat.le_trans (Nat.le_of_lt hR.blk.lt) ((Ext.refl _).alloc _).size)
    clear hR hO
    by_cases hlt : k < P.vars.length
    · have Hkl : Hid (k ≤ 1000000) := hid (by omega)
      go_wp2_with (at_builtin; (refine wpList_append_el sb Hsl.out 53 52 (.agg #[.string ⟨#[]⟩, .int .i64 0]) 2 24 Tryz.underlying53 r1val_info rfl (by omega) (by omega) rfl _ _ rfl (.slice av k cv) k ((List.replicate k Vl.none).flatMap Vl.cells) rfl (own_ext Hrow.out ((Ext.refl _).alloc _)) wr.heap.size (Vl.cells .none) rfl (by simp [Vl.cells, Value.oneCell']) rfl (Blk.new _ _ _) Hkl.out ?_; intro v6 w6 ho6 hk6 hl6; rw [← fm_rep] at ho6; obtain ⟨a6, c6, rfl⟩ := row_form ho6; have hB6 := (HR.out.blk.ext ((Ext.refl _).alloc _)).keep hk6 (fun e => HR.out.vb e rfl); have z0 := hB6.av 0 rfl; have f0 := hB6.free 0; have Ho6 := hid ho6; have HB6 := hid hB6; have HO6 : Hid (Old sb wr w6) := hid ((((Ext.refl wr).alloc _).old sb).trans (hk6.mono fun q _ e => (World.ownsRow.lt Hrow.out q e).1)); clear ho6 hk6 hl6 hB6))
      have hB2 := HB6.out.set 0 (.slice a6 (k + 1) c6)
      simp only [List.setIfInBounds_toArray, List.set_cons_zero] at hB2
      have hk3 : Keep (fun q => q = sb) w6 (w6.setCell ⟨sb, 0, none⟩ (.slice a6 (k + 1) c6)) := Keep.set (X := fun q => q = sb) (Keep.refl _ _) rfl _
      have HR7 : Hid (RfAt (w6.setCell ⟨sb, 0, none⟩ (.slice a6 (k + 1) c6)) sb sb (.slice a6 (k + 1) c6) (.slice none 0 0) (.slice none 0 0) ⟨List.replicate (k + 1) .none, [], []⟩) := hid
        ⟨hB2, Nat.le_refl _, row_keep (by simpa only [List.length_replicate] using Ho6.out) hk3 (fun i hi e => by
          subst e
          obtain ⟨c, hc⟩ := own_ty Ho6.out hi
          exact Blk.ty_ne hc HB6.out (by decide) rfl), World.ownsRow_nil _ _ _ _, World.ownsRow_nil _ _ _ _, fun b _ e => by cases e⟩
      have HO7 := hid (HO.out.trans (HO6.out.trans (hk3.mono fun q _ e => by rw [e]; exact Nat.le_refl _)))
      clear hB2 hk3 z0 f0
      go_roundw
      case rel => exact ⟨k + 1, _, by go_num, by omega, HR7.out, HO7.out⟩
      case measure => simp [intOf]; omega
    · obtain rfl : k = P.vars.length := by omega
      have hE := hid (Keep.new HX.out HO.out fun q hq => by have := Hsb.out; omega)
      have hle : w.heap.size ≤ sb := by have := Hsb.out; omega
      go_wp2
      go_ret
      exact ⟨hE.out, sb, _, rfl, hle, HR.out⟩
end Go.Proofs.YtkabgmohgjljkaaGreatDoor


/- Runs: the law's own small run. -/
namespace Go.Proofs.YtkabgmohgjljkaaGreatDoor
set_option linter.unusedSimpArgs false
set_option linter.unusedVariables false
open Go Go.RowKit

def ranP : PP := ⟨[⟨#[97]⟩, ⟨#[98]⟩], [], [⟨⟨#[97, 100, 100, 114]⟩, 0, 1, []⟩, ⟨⟨#[115, 116, 111, 114, 101]⟩, 0, 0, []⟩]⟩
theorem ran_runs : ranP.Runs [0, 1] := by
  refine ⟨by decide +kernel, fun j t hj ht => ?_, by decide, fun x hx => ?_⟩
  · have hj2 : j < 2 := hj
    rcases (by omega : j = 0 ∨ j = 1) with rfl | rfl
    · obtain rfl := Option.some.inj ht
      decide +kernel
    · obtain rfl := Option.some.inj ht
      decide +kernel
  · rcases (by simpa using hx : x = 0 ∨ x = 1) with rfl | rfl <;> decide
theorem ran_end : (Rn.run ranP ([0, 1].map Int.toNat)).vars = [.var 1, .var 1] := by
  have e : [(0 : Int), 1].map Int.toNat = [0, 1] := rfl
  rw [e]
  unfold Rn.run Rn.begin
  simp only [List.foldl_cons, List.foldl_nil, Rn.step, ranP, List.getElem?_cons_zero, List.getElem?_cons_succ, Rn.stmt]
  have k1 : PS.isK ⟨⟨#[97, 100, 100, 114]⟩, 0, 1, []⟩ kAddr = true := by decide +kernel
  have k2 : PS.isK ⟨⟨#[115, 116, 111, 114, 101]⟩, 0, 0, []⟩ kAddr = false := by decide +kernel
  have k3 : PS.isK ⟨⟨#[115, 116, 111, 114, 101]⟩, 0, 0, []⟩ kCopy = false := by decide +kernel
  have k4 : PS.isK ⟨⟨#[115, 116, 111, 114, 101]⟩, 0, 0, []⟩ kLoad = false := by decide +kernel
  have k5 : PS.isK ⟨⟨#[115, 116, 111, 114, 101]⟩, 0, 0, []⟩ kStore = true := by decide +kernel
  rw [k1, k2, k3, k4, k5]
  rfl
def ranS : Array Value := #[.string ⟨#[97, 100, 100, 114]⟩, .int .i64 0, .int .i64 1, .slice none 0 0, .string ⟨#[115, 116, 111, 114, 101]⟩, .int .i64 0, .int .i64 0, .slice none 0 0]
theorem ran_prog {w : World} {a b n0 : Nat} (ha : Blk w a #[.string ⟨#[97]⟩, .string ⟨#[98]⟩] 9) (hb : Blk w b ranS 58) (h1 : a < n0) (h2 : b < n0) : ProgR w n0 (.slice (some ⟨a, 0, none⟩) 2 2) (.slice none 0 0) (.slice (some ⟨b, 0, none⟩) 2 2) ranP := by
  refine ⟨⟨_, 2, rfl, by decide, by decide, fun _ => ⟨_, rfl⟩, fun y hy _ => ?_⟩, ⟨_, 0, rfl, by decide, by decide, fun h => absurd h (by decide), fun y hy => by cases hy⟩, ⟨_, 2, rfl, by decide, by decide, fun _ => ⟨_, rfl⟩, fun y hy _ => ?_⟩⟩
  · obtain rfl := Option.some.inj hy
    refine ⟨h1, fun i hi s hs => ?_⟩
    have hi2 : i < 2 := hi
    rcases (by omega : i = 0 ∨ i = 1) with rfl | rfl
    · obtain rfl := Option.some.inj hs
      exact ha.av 0 rfl
    · obtain rfl := Option.some.inj hs
      exact ha.av 1 rfl
  · obtain rfl := Option.some.inj hy
    refine ⟨h2, fun i hi s hs => ?_⟩
    have hi2 : i < 2 := hi
    have hn : IntsR w n0 (.slice none 0 0) [] := ⟨none, 0, rfl, by decide, by decide, fun h => absurd h (by decide), fun y hy => by cases hy⟩
    rcases (by omega : i = 0 ∨ i = 1) with rfl | rfl
    · obtain rfl := Option.some.inj hs
      exact ⟨.slice none 0 0, hb.av 0 rfl, hb.av 1 rfl, hb.av 2 rfl, hb.av 3 rfl, hn⟩
    · obtain rfl := Option.some.inj hs
      exact ⟨.slice none 0 0, hb.av 4 rfl, hb.av 5 rfl, hb.av 6 rfl, hb.av 7 rfl, hn⟩

set_option maxRecDepth 100000 in
set_option maxHeartbeats 3200000 in
theorem ran_any (w : World) (ad : Nat → Addr) (hE : ErrsP w ad) : Calls Tryz.prog 4 #[] w fun e w' => e = .returned (.bool true) ∧ Ext w w' := by
  obtain ⟨W1, hW1⟩ : ∃ W1, W1 = w.alloc (.cells #[.string ⟨#[97]⟩, .string ⟨#[98]⟩] 9) := ⟨_, rfl⟩
  obtain ⟨W2, hW2⟩ : ∃ W2, W2 = W1.alloc (.cells ranS 58) := ⟨_, rfl⟩
  obtain ⟨W3, hW3⟩ : ∃ W3, W3 = W2.alloc (.cells #[.slice (some ⟨w.heap.size, 0, none⟩) 2 2, .slice none 0 0, .slice (some ⟨w.heap.size + 1, 0, none⟩) 2 2] 26) := ⟨_, rfl⟩
  obtain ⟨W4, hW4⟩ : ∃ W4, W4 = W3.alloc (.cells #[.int .i64 0, .int .i64 1] 3) := ⟨_, rfl⟩
  have x1 : Ext w W1 := by rw [hW1]; exact (Ext.refl _).alloc _
  have x2 : Ext W1 W2 := by rw [hW2]; exact (Ext.refl _).alloc _
  have x3 : Ext W2 W3 := by rw [hW3]; exact (Ext.refl _).alloc _
  have x4 : Ext W3 W4 := by rw [hW4]; exact (Ext.refl _).alloc _
  have s1 : W1.heap.size = w.heap.size + 1 := by rw [hW1, heap_size_alloc]
  have s2 : W2.heap.size = w.heap.size + 2 := by rw [hW2, heap_size_alloc, s1]
  have s3 : W3.heap.size = w.heap.size + 3 := by rw [hW3, heap_size_alloc, s2]
  have s4 : W4.heap.size = w.heap.size + 4 := by rw [hW4, heap_size_alloc, s3]
  have bA : Blk W1 w.heap.size #[.string ⟨#[97]⟩, .string ⟨#[98]⟩] 9 := by rw [hW1]; exact Blk.new _ _ _
  have bB : Blk W2 (w.heap.size + 1) ranS 58 := by rw [hW2, ← s1]; exact Blk.new _ _ _
  have bD : Blk W4 (w.heap.size + 3) #[.int .i64 0, .int .i64 1] 3 := by rw [hW4, ← s3]; exact Blk.new _ _ _
  have hP := ran_prog (n0 := W4.heap.size) (bA.ext (x2.trans (x3.trans x4))) (bB.ext (x3.trans x4)) (by omega) (by omega)
  have hI : IntsR W4 W4.heap.size (.slice (some ⟨w.heap.size + 3, 0, none⟩) 2 2) [0, 1] := IntsR.blk (l := [0, 1]) bD rfl (by decide)
  have xx : Ext w W4 := x1.trans (x2.trans (x3.trans x4))
  have HD := hid (rundo_ok _ _ _ 2 0 2 ranP _ [0, 1] W4 ad (hE.ext xx) hP hI (fun s hs => by rcases (by simpa [ranP] using hs : s = ⟨#[97]⟩ ∨ s = ⟨#[98]⟩) with rfl | rfl <;> decide) (fun s hs => by simp [PP.names, ranP] at hs) ran_runs)
  have HX := hid xx
  have HW4 : Hid (W4 = (((w.alloc (.cells #[.string ⟨#[97]⟩, .string ⟨#[98]⟩] 9)).alloc (.cells #[.string ⟨#[97, 100, 100, 114]⟩, .int .i64 0, .int .i64 1, .slice none 0 0, .string ⟨#[115, 116, 111, 114, 101]⟩, .int .i64 0, .int .i64 0, .slice none 0 0] 58)).alloc (.cells #[.slice (some ⟨w.heap.size, 0, none⟩) 2 2, .slice none 0 0, .slice (some ⟨w.heap.size + 1, 0, none⟩) 2 2] 26)).alloc (.cells #[.int .i64 0, .int .i64 1] 3)) := hid (by rw [hW4, hW3, hW2, hW1]; rfl)
  unfold pval at HD
  clear hE hW1 hW2 hW3 hW4 x1 x2 x3 x4 s1 s2 s3 s4 bA bB bD hP hI xx
  go_enter Tryz.func4, Tryz.ntmps4
  go_wp2_with fail
  rw [← HW4.out]
  refine HD.out.mono ?_
  intro e w5 hx
  obtain ⟨hx5, vv, tv, pv, rfl, hR⟩ := hx
  have hv := hR.vars
  rw [ran_end] at hv
  obtain ⟨b2, e2, rfl⟩ := row_form hR.things
  obtain ⟨b3, e3, rfl⟩ := row_form hR.places
  obtain ⟨g, cap, rfl⟩ := own_some hv (by decide)
  obtain ⟨q0, q1⟩ := own_v hv (i := 1) (x := .var 1) rfl
  have HX5 := hid (HX.out.trans hx5)
  have q0' : w5.cell? ⟨g, 2, none⟩ = some (.string ⟨#[118, 97, 114]⟩) := q0
  have q1' : w5.cell? ⟨g, 3, none⟩ = some (.int .i64 1) := q1
  clear HD hx5 hR hv q0 q1
  generalize (Rn.run ranP ([0, 1].map Int.toNat)).things.length = n2 at *
  generalize (Rn.run ranP ([0, 1].map Int.toNat)).places.length = n3 at *
  have r0 : (w5.alloc (.cells #[.slice (some ⟨g, 0, none⟩) 2 cap, .slice b2 n2 e2, .slice b3 n3 e3] 33)).cell? ⟨g, 2, none⟩ = some (.string ⟨#[118, 97, 114]⟩) := ((Ext.refl _).alloc _).cellx q0'
  have r1 : (w5.alloc (.cells #[.slice (some ⟨g, 0, none⟩) 2 cap, .slice b2 n2 e2, .slice b3 n3 e3] 33)).cell? ⟨g, 3, none⟩ = some (.int .i64 1) := ((Ext.refl _).alloc _).cellx q1'
  clear q0' q1'
  simp only [List.length_cons, List.length_nil, Nat.zero_add]
  go_wp2
  go_ret
  exact ⟨rfl, HX5.out.trans ((Ext.refl _).alloc _)⟩
end Go.Proofs.YtkabgmohgjljkaaGreatDoor


/- Runs: what the law needs, plainly. -/
namespace Go.Proofs.YtkabgmohgjljkaaGreatDoor
set_option linter.unusedSimpArgs false
set_option linter.unusedVariables false
open Go Go.RowKit

def PP.isNew (P : PP) (k : Nat) : Bool := match P.stmts[k]? with
  | some x => x.isK kNew
  | none => false
theorem Rn.step_places (P : PP) (s : Rn) (k : Nat) : (s.step P k).places = s.places ++ [k].filter P.isNew := by
  unfold Rn.step PP.isNew
  cases hx : P.stmts[k]? with
  | none => simp [hx]
  | some x =>
    simp only [Rn.stmt_places, List.filter_cons, List.filter_nil, hx]
theorem Rn.foldl_places (P : PP) : ∀ (l : List Nat) (s : Rn), (l.foldl (Rn.step P) s).places = s.places ++ l.filter P.isNew
  | [], s => by simp
  | k :: l, s => by
    rw [List.foldl_cons, Rn.foldl_places P l, Rn.step_places, List.append_assoc, ← List.filter_append]
    rfl
theorem Rn.run_places (P : PP) (l : List Nat) : (Rn.run P l).places = l.filter P.isNew := by
  unfold Rn.run
  rw [Rn.foldl_places]
  simp [Rn.begin]
theorem PP.Runs.take {P : PP} {l : List Int} (h : P.Runs l) (k : Nat) : P.Runs (l.take k) :=
  ⟨h.1, h.2.1, by have := h.2.2.1; rw [List.length_take]; omega, fun x hx => h.2.2.2 x (List.mem_of_mem_take hx)⟩
theorem PP.Runs.lt {P : PP} {l : List Int} (h : P.Runs l) {q : Int} (hq : q ∈ l) : 0 ≤ q ∧ q < P.stmts.length := by
  have hb := h.2.2.2 q hq
  unfold PP.badk at hb
  simp at hb
  omega
theorem PP.Runs.stmts {P : PP} {l : List Int} (h : P.Runs l) : P.stmts.length ≤ 80 := by
  have h1 := h.1
  unfold PP.err1 at h1
  cases hb : P.big with
  | true => rw [hb] at h1; simp at h1
  | false => unfold PP.big at hb; simp at hb; omega
/-- The places of a script's run, as numbers. -/
def newOf (P : PP) (l : List Int) : List Int := ((l.map Int.toNat).filter P.isNew).map Int.ofNat
theorem Rn.run_pl (P : PP) (l : List Int) : (Rn.run P (l.map Int.toNat)).pl = newOf P l := by unfold Rn.pl newOf; rw [Rn.run_places]
theorem newOf_append (P : PP) (l m : List Int) : newOf P (l ++ m) = newOf P l ++ newOf P m := by simp [newOf]
theorem newOf_take (P : PP) (l : List Int) (k : Nat) : newOf P (l.take k) = (newOf P l).take (newOf P (l.take k)).length := by
  have h : newOf P l = newOf P (l.take k) ++ newOf P (l.drop k) := by rw [← newOf_append, List.take_append_drop]
  rw [h]
  simp
theorem newOf_le (P : PP) (l : List Int) (k : Nat) : (newOf P (l.take k)).length ≤ (newOf P l).length := by
  have h : newOf P l = newOf P (l.take k) ++ newOf P (l.drop k) := by rw [← newOf_append, List.take_append_drop]
  rw [h, List.length_append]
  omega
theorem newOf_one (P : PP) (K : Nat) : newOf P [(K : Int)] = if P.isNew K then [(K : Int)] else [] := by
  unfold newOf
  by_cases h : P.isNew K <;> simp [h]
theorem newOf_yes {P : PP} {l : List Int} {i K : Nat} (hi : l[i]? = some (K : Int)) (hn : P.isNew K = true) : newOf P (l.take (i + 1)) = newOf P (l.take i) ++ [(K : Int)] := by
  rw [List.take_add_one, hi, newOf_append]
  simp only [Option.toList]
  rw [newOf_one, if_pos hn]
theorem newOf_no {P : PP} {l : List Int} {i K : Nat} (hi : l[i]? = some (K : Int)) (hn : P.isNew K = false) : newOf P (l.take (i + 1)) = newOf P (l.take i) := by
  rw [List.take_add_one, hi, newOf_append]
  simp only [Option.toList]
  rw [newOf_one, hn]
  simp
theorem newOf_at {P : PP} {l : List Int} {i K : Nat} (hi : l[i]? = some (K : Int)) (hn : P.isNew K = true) : (newOf P l)[(newOf P (l.take i)).length]? = some (K : Int) := by
  have h : newOf P l = newOf P (l.take (i + 1)) ++ newOf P (l.drop (i + 1)) := by rw [← newOf_append, List.take_append_drop]
  rw [h, newOf_yes hi hn]
  simp
theorem newOf_hi {P : PP} {l : List Int} (h : P.Runs l) (i : Nat) : (newOf P l).getD i 0 ≤ 9223372036854775807 := by
  rw [List.getD_eq_getElem?_getD]
  cases hx : (newOf P l)[i]? with
  | none => simp
  | some q =>
    have hm := List.mem_of_getElem? hx
    unfold newOf at hm
    obtain ⟨K, hK, rfl⟩ := List.mem_map.1 hm
    obtain ⟨q, hq, rfl⟩ := List.mem_map.1 (List.mem_filter.1 hK).1
    have := (h.lt hq).2
    have := h.stmts
    simp only [Option.getD_some, Int.ofNat_eq_natCast]
    omega

/-- What run.Do answers, in one. -/
def RunOut (P : PP) (l : List Int) (n0 : Nat) (w : World) (sv ev : Value) : Prop :=
  (P.Runs l ∧ ev = .nilIface ∧ ∃ a1 a2 a3 c1 c2 c3, sv = .agg #[.slice a1 (Rn.run P (l.map Int.toNat)).vars.length c1, .slice a2 (newOf P l).length c2, .slice a3 (newOf P l).length c3] ∧
    w.ownsRow n0 3 1 (.slice a3 (newOf P l).length c3) (newOf P l).length (icells (newOf P l))) ∨
  (¬ P.Runs l ∧ sv = zeroS ∧ ∃ t x, ev = .iface t (.pointer (some x)))
theorem RunOut.ext {P : PP} {l : List Int} {n0 : Nat} {w w' : World} {sv ev : Value} (h : RunOut P l n0 w sv ev) (x : Ext w w') : RunOut P l n0 w' sv ev := by
  rcases h with ⟨h1, h2, a1, a2, a3, c1, c2, c3, h3, h4⟩ | h
  · exact .inl ⟨h1, h2, a1, a2, a3, c1, c2, c3, h3, own_ext h4 x⟩
  · exact .inr h
theorem RunOut.low {P : PP} {l : List Int} {n0 n1 : Nat} {w : World} {sv ev : Value} (h : RunOut P l n0 w sv ev) (hn : n1 ≤ n0) : RunOut P l n1 w sv ev := by
  rcases h with ⟨h1, h2, a1, a2, a3, c1, c2, c3, h3, h4⟩ | h
  · exact .inl ⟨h1, h2, a1, a2, a3, c1, c2, c3, h3, own_low h4 hn⟩
  · exact .inr h
theorem RunOut.form {P : PP} {l : List Int} {n0 : Nat} {w : World} {sv ev : Value} (h : RunOut P l n0 w sv ev) : ∃ a1 n1 c1 a2 n2 c2 a3 n3 c3, sv = .agg #[.slice a1 n1 c1, .slice a2 n2 c2, .slice a3 n3 c3] := by
  rcases h with ⟨h1, h2, a1, a2, a3, c1, c2, c3, h3, h4⟩ | ⟨_, h, _⟩
  · exact ⟨_, _, _, _, _, _, _, _, _, h3⟩
  · exact ⟨_, _, _, _, _, _, _, _, _, h⟩
theorem RunOut.keep {X : Nat → Prop} {P : PP} {l : List Int} {n0 : Nat} {w w' : World} {sv ev : Value} (h : RunOut P l n0 w sv ev) (k : Keep X w w') (hX : ∀ b, X b → ∃ c, Blk w b c 33) : RunOut P l n0 w' sv ev := by
  rcases h with ⟨h1, h2, a1, a2, a3, c1, c2, c3, h3, h4⟩ | h
  · exact .inl ⟨h1, h2, a1, a2, a3, c1, c2, c3, h3, row_keep h4 k fun i hi e => by
      obtain ⟨c, hc⟩ := own_ty h4 hi
      obtain ⟨d, hd⟩ := hX i e
      exact Blk.ty_ne hc hd (by decide) rfl⟩
  · exact .inr h
theorem rundo_out (a1 a2 a3 : Option Addr) (c1 c2 c3 : Nat) (P : PP) (va : Value) (l : List Int) (w : World) (ad : Nat → Addr) (hE : ErrsP w ad) (hP : ProgR w w.heap.size (.slice a1 P.vars.length c1) (.slice a2 P.funs.length c2) (.slice a3 P.stmts.length c3) P) (hI : IntsR w w.heap.size va l)
    (hz1 : ∀ s ∈ P.vars, s.size ≤ 1000000) (hz2 : ∀ s ∈ P.names, s.size ≤ 1000000) :
    Calls Tryz.prog 7 #[pval a1 a2 a3 c1 c2 c3 P, va] w fun e w' => Ext w w' ∧ ∃ sv ev, e = .returned (.tuple #[sv, ev]) ∧ RunOut P l w.heap.size w' sv ev := by
  have no : ¬ P.Runs l → (Calls Tryz.prog 7 #[pval a1 a2 a3 c1 c2 c3 P, va] w fun e w' => Ext w w' ∧ ∃ v, e = .returned (.tuple #[zeroS, v]) ∧ RunNo ad P l w' v) → Calls Tryz.prog 7 #[pval a1 a2 a3 c1 c2 c3 P, va] w fun e w' => Ext w w' ∧ ∃ sv ev, e = .returned (.tuple #[sv, ev]) ∧ RunOut P l w.heap.size w' sv ev := fun hn h => h.mono fun e w' ⟨hx, v, he, hr⟩ => by
    refine ⟨hx, _, _, he, .inr ⟨hn, rfl, ?_⟩⟩
    rcases hr with ⟨hb, hr⟩ | ⟨_, _, _, rfl⟩ | ⟨_, _, _, i, b, _, rfl, _⟩
    · rcases hr.form with ⟨_, h1⟩ | ⟨h1, _⟩
      · exact absurd h1 hb
      · exact h1
    · exact ⟨_, _, rfl⟩
    · exact ⟨_, _, rfl⟩
  by_cases h1 : P.err1 = 0 ∧ P.allWell
  · by_cases h2 : 2000 < l.length
    · exact no (fun h => by have := h.2.2.1; omega) (rundo_full a1 a2 a3 c1 c2 c3 P va l w ad hE hP hI hz1 hz2 h1 h2)
    · by_cases h3 : ∃ x ∈ l, P.badk x = true
      · exact no (fun h => by obtain ⟨x, hx, h4⟩ := h3; rw [h.2.2.2 x hx] at h4; cases h4) (rundo_bound a1 a2 a3 c1 c2 c3 P va l w ad hE hP hI hz1 hz2 h1 (by omega) h3)
      · have hr : P.Runs l := ⟨h1.1, h1.2, by omega, fun x hx => by
          cases hb : P.badk x with
          | false => rfl
          | true => exact absurd ⟨x, hx, hb⟩ h3⟩
        refine (rundo_ok a1 a2 a3 c1 c2 c3 P va l w ad hE hP hI hz1 hz2 hr).mono fun e w' ⟨hx, vv, tv, pv, he, hR⟩ => ⟨hx, _, _, he, .inl ⟨hr, rfl, ?_⟩⟩
        obtain ⟨b1, e1, rfl⟩ := row_form hR.vars
        obtain ⟨b2, e2, rfl⟩ := row_form hR.things
        obtain ⟨b3, e3, rfl⟩ := row_form hR.places
        have hpl : (Rn.run P (l.map Int.toNat)).places.length = (newOf P l).length := by rw [← Rn.run_pl]; simp [Rn.pl]
        have htl : (Rn.run P (l.map Int.toNat)).things.length = (newOf P l).length := by rw [← (Rn.Ok.run h1.2 _).lp, hpl]
        have hp := hR.places
        rw [Rn.run_pl, hpl] at hp
        rw [hpl, htl]
        exact ⟨_, _, _, _, _, _, rfl, hp⟩
  · exact no (fun h => h1 ⟨h.1, h.2.1⟩) (rundo_bad a1 a2 a3 c1 c2 c3 P va l w ad hE hP hI hz1 hz2 h1)
end Go.Proofs.YtkabgmohgjljkaaGreatDoor


/- Places and nodes of a program. -/
namespace Go.Proofs.YtkabgmohgjljkaaGreatDoor
set_option linter.unusedSimpArgs false
set_option linter.unusedVariables false
open Go Go.RowKit

def PP.newsN (P : PP) (k : Nat) : Nat := ((List.range k).filter P.isNew).length
theorem PP.newsN_succ (P : PP) (k : Nat) : P.newsN (k + 1) = P.newsN k + if P.isNew k then 1 else 0 := by
  unfold PP.newsN
  rw [List.range_succ, List.filter_append, List.length_append]
  congr 1
  by_cases h : P.isNew k <;> simp [h]
theorem PP.newsN_le (P : PP) (k : Nat) : P.newsN k ≤ k := by
  unfold PP.newsN
  have := List.length_filter_le P.isNew (List.range k)
  simpa using this
def PP.nodesV (P : PP) : Nat := P.vars.length + P.newsN P.stmts.length
def PP.placeV (P : PP) (k : Int) : Int := if 0 ≤ k ∧ k < P.stmts.length ∧ P.isNew k.toNat = true then ((P.vars.length + P.newsN k.toNat : Nat) : Int) else -1
theorem isNew_at {P : PP} {k : Nat} {x : PS} (h : P.stmts[k]? = some x) : P.isNew k = x.isK kNew := by unfold PP.isNew; rw [h]

set_option maxRecDepth 100000 in
set_option maxHeartbeats 3200000 in
theorem rnodesof_any (a1 a2 a3 : Option Addr) (c1 c2 c3 : Nat) (P : PP) (w : World) (n0 : Nat) (h : ProgR w n0 (.slice a1 P.vars.length c1) (.slice a2 P.funs.length c2) (.slice a3 P.stmts.length c3) P) (hv : P.vars.length ≤ 1000) (hs : P.stmts.length ≤ 1000) :
    Calls Tryz.prog 35 #[pval a1 a2 a3 c1 c2 c3 P] w fun e w' => e = .returned (.int .i64 (P.nodesV : Int)) ∧ Ext w w' := by
  have HP0 := hid h
  have hml1 : (P.vars.length : Int) ≤ 1000 := by omega
  obtain ⟨W, hW⟩ : ∃ W, W = w.alloc (.cells (pcells a1 a2 a3 c1 c2 c3 P) 26) := ⟨_, rfl⟩
  have HX : Hid (Ext w W) := hid (by rw [hW]; exact (Ext.refl _).alloc _)
  have hB : Blk W w.heap.size (pcells a1 a2 a3 c1 c2 c3 P) 26 := by rw [hW]; exact Blk.new _ _ _
  have HP := hid (h.ext HX.out)
  have d0 := hB.av 0 rfl
  have d2 := hB.av 2 rfl
  simp only [pcells, List.getElem_toArray, List.getElem_cons_zero, List.getElem_cons_succ] at d0 d2
  unfold pcells at hW
  have HWe := hid hW
  unfold pval
  clear hW hB h
  go_enter Tryz.func35, Tryz.ntmps35
  go_wp2
  rw [← HWe.out]
  go_loop [3, 4] (fun tn ti => ∃ k : Nat, ti = .int .i64 (k : Int) ∧ k ≤ P.stmts.length ∧ tn = .int .i64 ((P.vars.length + P.newsN k : Nat) : Int)) (fun _ ti => P.stmts.length - (intOf ti).toNat)
  case atStart => exact ⟨0, rfl, Nat.zero_le _, rfl⟩
  case round =>
    obtain ⟨k, rfl, hk, rfl⟩ := hrel
    have Hle := hid (P.newsN_le k)
    have Hsu := hid (P.newsN_succ k)
    by_cases hlt : k < P.stmts.length
    · obtain ⟨yk, x, av, cv, hyk, hxk, e0, e1, e2, e3, _⟩ := HP.out.stmts.at (show k < P.stmts.length by omega)
      first | subst hyk | (obtain rfl := Option.some.inj hyk)
      have hnw := isNew_at hxk
      have hcn : ((P.vars.length + P.newsN k : Nat) : Int) ≤ 100000 := by have := Hle.out; omega
      cases hb : (x.kind.toList == [110, 101, 119]) with
      | true =>
        have Hn2 := hid (show P.newsN (k + 1) = P.newsN k + 1 by rw [Hsu.out, hnw.trans hb]; rfl)
        clear hxk hnw
        generalize P.newsN k = m at *
        go_wp2
        refine ⟨⟨k + 1, by go_num, by omega, ?_⟩, by simp [intOf]; omega⟩
        rw [Hn2.out]
        go_num
      | false =>
        have Hn2 := hid (show P.newsN (k + 1) = P.newsN k by rw [Hsu.out, hnw.trans hb]; rfl)
        clear hxk hnw
        go_wp2
        refine ⟨⟨k + 1, by go_num, by omega, ?_⟩, by simp [intOf]; omega⟩
        rw [Hn2.out]
    · obtain rfl : k = P.stmts.length := by omega
      go_wp2
      go_ret
      exact ⟨rfl, HX.out⟩
set_option maxRecDepth 100000 in
set_option maxHeartbeats 3200000 in
theorem rplaceof_any (a1 a2 a3 : Option Addr) (c1 c2 c3 : Nat) (P : PP) (p : Int) (w : World) (n0 : Nat) (h : ProgR w n0 (.slice a1 P.vars.length c1) (.slice a2 P.funs.length c2) (.slice a3 P.stmts.length c3) P) (hv : P.vars.length ≤ 1000) (hs : P.stmts.length ≤ 1000) :
    Calls Tryz.prog 34 #[pval a1 a2 a3 c1 c2 c3 P, .int .i64 p] w fun e w' => e = .returned (.int .i64 (P.placeV p)) ∧ Ext w w' := by
  have HP0 := hid h
  have hml1 : (P.vars.length : Int) ≤ 1000 := by omega
  obtain ⟨W, hW⟩ : ∃ W, W = w.alloc (.cells (pcells a1 a2 a3 c1 c2 c3 P) 26) := ⟨_, rfl⟩
  have HX : Hid (Ext w W) := hid (by rw [hW]; exact (Ext.refl _).alloc _)
  have hB : Blk W w.heap.size (pcells a1 a2 a3 c1 c2 c3 P) 26 := by rw [hW]; exact Blk.new _ _ _
  have HP := hid (h.ext HX.out)
  have d0 := hB.av 0 rfl
  have d2 := hB.av 2 rfl
  simp only [pcells, List.getElem_toArray, List.getElem_cons_zero, List.getElem_cons_succ] at d0 d2
  unfold pcells at hW
  have HWe := hid hW
  unfold pval
  clear hW hB h
  go_enter Tryz.func34, Tryz.ntmps34
  by_cases h1 : p < 0
  · have Hr := hid (show P.placeV p = -1 by unfold PP.placeV; rw [if_neg (by omega)])
    go_wp2
    go_ret
    exact ⟨by rw [Hr.out]; rfl, (Ext.refl w).alloc _⟩
  · obtain ⟨K, rfl⟩ := Int.eq_ofNat_of_zero_le (show 0 ≤ p by omega)
    by_cases h2 : K < P.stmts.length
    · obtain ⟨y, x, av, cv, rfl, hxk, e0, e1, e2, e3, _⟩ := HP.out.stmts.at h2
      have hnw := isNew_at hxk
      cases hb : (x.kind.toList == [110, 101, 119]) with
      | true =>
        have Hr := hid (show P.placeV (K : Int) = ((P.vars.length + P.newsN K : Nat) : Int) by unfold PP.placeV; rw [if_pos ⟨by omega, by omega, by rw [Int.toNat_natCast]; exact hnw.trans hb⟩, Int.toNat_natCast])
        rw [Hr.out]
        rw [HWe.out] at e0
        clear hnw hxk e1 e2 e3
        go_wp2
        rw [← HWe.out]
        clear e0 hb
        go_loop [5, 6] (fun tn ti => ∃ k : Nat, ti = .int .i64 (k : Int) ∧ k ≤ K ∧ tn = .int .i64 ((P.vars.length + P.newsN k : Nat) : Int)) (fun _ ti => K - (intOf ti).toNat)
        case atStart => exact ⟨0, rfl, Nat.zero_le _, rfl⟩
        case round =>
          obtain ⟨k, rfl, hk, rfl⟩ := hrel
          have Hle := hid (P.newsN_le k)
          have Hsu := hid (P.newsN_succ k)
          by_cases hlt : k < K
          · obtain ⟨yk, x, av, cv, hyk, hxk, e0, e1, e2, e3, _⟩ := HP.out.stmts.at (show k < P.stmts.length by omega)
            first | subst hyk | (obtain rfl := Option.some.inj hyk)
            have hnw := isNew_at hxk
            have hcn : ((P.vars.length + P.newsN k : Nat) : Int) ≤ 100000 := by have := Hle.out; omega
            cases hb : (x.kind.toList == [110, 101, 119]) with
            | true =>
              have Hn2 := hid (show P.newsN (k + 1) = P.newsN k + 1 by rw [Hsu.out, hnw.trans hb]; rfl)
              clear hxk hnw
              generalize P.newsN k = m at *
              go_wp2
              refine ⟨⟨k + 1, by go_num, by omega, ?_⟩, by simp [intOf]; omega⟩
              rw [Hn2.out]
              go_num
            | false =>
              have Hn2 := hid (show P.newsN (k + 1) = P.newsN k by rw [Hsu.out, hnw.trans hb]; rfl)
              clear hxk hnw
              go_wp2
              refine ⟨⟨k + 1, by go_num, by omega, ?_⟩, by simp [intOf]; omega⟩
              rw [Hn2.out]
          · obtain rfl : k = K := by omega
            go_wp2
            go_ret
            exact ⟨rfl, HX.out⟩
      | false =>
        have Hr := hid (show P.placeV (K : Int) = -1 by unfold PP.placeV; rw [if_neg (by rw [Int.toNat_natCast, show P.isNew K = false from hnw.trans hb]; simp)])
        rw [HWe.out] at e0
        clear hnw hxk e1 e2 e3
        go_wp2
        go_ret
        exact ⟨by rw [Hr.out]; rfl, (Ext.refl w).alloc _⟩
    · have Hr := hid (show P.placeV (K : Int) = -1 by unfold PP.placeV; rw [if_neg (by omega)])
      go_wp2
      go_ret
      exact ⟨by rw [Hr.out]; rfl, (Ext.refl w).alloc _⟩
end Go.Proofs.YtkabgmohgjljkaaGreatDoor


/- prog.Place and prog.Nodes. -/
namespace Go.Proofs.YtkabgmohgjljkaaGreatDoor
set_option linter.unusedSimpArgs false
set_option linter.unusedVariables false
open Go Go.RowKit

set_option maxRecDepth 100000 in
set_option maxHeartbeats 3200000 in
theorem prognodes2_any (a1 a2 a3 : Option Addr) (c1 c2 c3 : Nat) (P : PP) (w : World) (n0 : Nat) (h : ProgR w n0 (.slice a1 P.vars.length c1) (.slice a2 P.funs.length c2) (.slice a3 P.stmts.length c3) P) (hv : P.vars.length ≤ 1000) (hs : P.stmts.length ≤ 1000) :
    Calls Tryz.prog 45 #[pval a1 a2 a3 c1 c2 c3 P] w fun e w' => e = .returned (.int .i64 (P.nodesV : Int)) ∧ Ext w w' := by
  have HP0 := hid h
  have hml1 : (P.vars.length : Int) ≤ 1000 := by omega
  obtain ⟨W, hW⟩ : ∃ W, W = w.alloc (.cells (pcells a1 a2 a3 c1 c2 c3 P) 26) := ⟨_, rfl⟩
  have HX : Hid (Ext w W) := hid (by rw [hW]; exact (Ext.refl _).alloc _)
  have hB : Blk W w.heap.size (pcells a1 a2 a3 c1 c2 c3 P) 26 := by rw [hW]; exact Blk.new _ _ _
  have HP := hid (h.ext HX.out)
  have d0 := hB.av 0 rfl
  have d2 := hB.av 2 rfl
  simp only [pcells, List.getElem_toArray, List.getElem_cons_zero, List.getElem_cons_succ] at d0 d2
  unfold pcells at hW
  have HWe := hid hW
  unfold pval
  clear hW hB h
  go_enter Tryz.func45, Tryz.ntmps45
  go_wp2
  rw [← HWe.out]
  go_loopw [3, 12] (fun tn ti wr => ∃ k : Nat, ti = .int .i64 (k : Int) ∧ k ≤ P.stmts.length ∧ tn = .int .i64 ((P.vars.length + P.newsN k : Nat) : Int) ∧ Ext W wr) (fun _ ti _ => P.stmts.length - (intOf ti).toNat)
  case atStart => exact ⟨0, rfl, Nat.zero_le _, rfl, Ext.refl _⟩
  case round =>
    obtain ⟨k, rfl, hk, rfl, hx⟩ := hrel
    have Hx := hid hx
    clear hx
    have Hle := hid (P.newsN_le k)
    have Hsu := hid (P.newsN_succ k)
    by_cases hlt : k < P.stmts.length
    · obtain ⟨yk, x, av, cv, hyk, hxk, e0, e1, e2, e3, _⟩ := (HP0.out.ext ((HX).out.trans Hx.out)).stmts.at (show k < P.stmts.length by omega)
      first | subst hyk | (obtain rfl := Option.some.inj hyk)
      have hnw := isNew_at hxk
      have hcn : ((P.vars.length + P.newsN k : Nat) : Int) ≤ 100000 := by have := Hle.out; omega
      cases hb : (x.kind.toList == [110, 101, 119]) with
      | true =>
        have Hn2 := hid (show P.newsN (k + 1) = P.newsN k + 1 by rw [Hsu.out, hnw.trans hb]; rfl)
        clear hxk hnw
        generalize P.newsN k = m at *
        go_wp2
        go_roundw
        case rel => exact ⟨k + 1, by go_num, by omega, by rw [Hn2.out]; go_num, Hx.out.alloc _⟩
        case measure => simp [intOf]; omega
      | false =>
        have Hn2 := hid (show P.newsN (k + 1) = P.newsN k by rw [Hsu.out, hnw.trans hb]; rfl)
        clear hxk hnw
        go_wp2
        go_roundw
        case rel => exact ⟨k + 1, by go_num, by omega, by rw [Hn2.out], Hx.out.alloc _⟩
        case measure => simp [intOf]; omega
    · obtain rfl : k = P.stmts.length := by omega
      go_wp2
      go_ret
      exact ⟨rfl, HX.out.trans Hx.out⟩
/-- A program that is well. -/
def PP.Well (P : PP) : Prop := P.err1 = 0 ∧ P.allWell
theorem PP.Well.few {P : PP} (h : P.Well) : P.vars.length ≤ 40 ∧ P.funs.length ≤ 6 ∧ P.stmts.length ≤ 80 := by
  have h1 := h.1
  unfold PP.err1 at h1
  cases hb : P.big with
  | true => rw [hb] at h1; simp at h1
  | false => unfold PP.big at hb; simp at hb; omega
theorem check_well {a1 a2 a3 : Option Addr} {c1 c2 c3 : Nat} {P : PP} {w : World} {n0 : Nat} {ad : Nat → Addr} (hE : ErrsP w ad) (h : ProgR w n0 (.slice a1 P.vars.length c1) (.slice a2 P.funs.length c2) (.slice a3 P.stmts.length c3) P)
    (hz1 : ∀ s ∈ P.vars, s.size ≤ 1000000) (hz2 : ∀ s ∈ P.names, s.size ≤ 1000000) (hw : P.Well) :
    Calls Tryz.prog 17 #[pval a1 a2 a3 c1 c2 c3 P] w fun e w' => e = .returned .nilIface ∧ Ext w w' := by
  have hml : (P.vars.length : Int) ≤ 9223372036854775807 := by have := hw.few; omega
  refine (pcheck_any a1 a2 a3 c1 c2 c3 P w n0 ad hE h hz1 hz2 hml).mono fun e w' ⟨v, he, hi, hx⟩ => ⟨?_, hx⟩
  rcases hi.form with ⟨rfl, _⟩ | ⟨_, hn⟩
  · exact he
  · exact absurd hw hn
set_option maxRecDepth 100000 in
set_option maxHeartbeats 3200000 in
theorem prognodes_any (a1 a2 a3 : Option Addr) (c1 c2 c3 : Nat) (P : PP) (w : World) (n0 : Nat) (ad : Nat → Addr) (hE : ErrsP w ad) (h : ProgR w n0 (.slice a1 P.vars.length c1) (.slice a2 P.funs.length c2) (.slice a3 P.stmts.length c3) P)
    (hz1 : ∀ s ∈ P.vars, s.size ≤ 1000000) (hz2 : ∀ s ∈ P.names, s.size ≤ 1000000) (hw : P.Well) :
    Calls Tryz.prog 33 #[pval a1 a2 a3 c1 c2 c3 P] w fun e w' => e = .returned (.int .i64 (P.nodesV : Int)) ∧ Ext w w' := by
  have HP00 := hid h
  have hv := hw.few
  obtain ⟨hv1, hv2, hv3⟩ := hv
  have hv : P.vars.length ≤ 1000 := by omega
  have hs : P.stmts.length ≤ 1000 := by omega
  have HP0 := hid h
  have hml1 : (P.vars.length : Int) ≤ 1000 := by omega
  obtain ⟨W, hW⟩ : ∃ W, W = w.alloc (.cells (pcells a1 a2 a3 c1 c2 c3 P) 26) := ⟨_, rfl⟩
  have HX : Hid (Ext w W) := hid (by rw [hW]; exact (Ext.refl _).alloc _)
  have hB : Blk W w.heap.size (pcells a1 a2 a3 c1 c2 c3 P) 26 := by rw [hW]; exact Blk.new _ _ _
  have HP := hid (h.ext HX.out)
  have d0 := hB.av 0 rfl
  have d2 := hB.av 2 rfl
  simp only [pcells, List.getElem_toArray, List.getElem_cons_zero, List.getElem_cons_succ] at d0 d2
  unfold pcells at hW
  have HWe := hid hW
  unfold pval
  clear hW hB h
  have HK := hid (check_well (hE.ext HX.out) HP.out hz1 hz2 hw)
  unfold pval at HK
  have HBx := hid (show Blk W w.heap.size (pcells a1 a2 a3 c1 c2 c3 P) 26 by rw [HWe.out]; exact Blk.new _ _ _)
  have HN := fun w1 (x : Ext w w1) => hid (prognodes2_any a1 a2 a3 c1 c2 c3 P w1 n0 (HP0.out.ext x) hv hs)
  unfold pval at HN
  clear d0 d2
  go_enter Tryz.func33, Tryz.ntmps33
  go_wp2_with fail
  rw [← HWe.out]
  refine HK.out.mono ?_
  intro e w1 hx
  obtain ⟨rfl, hx1⟩ := hx
  have HX1 := hid (HX.out.trans hx1)
  have d0 := (HBx.out.ext hx1).av 0 rfl
  have d1 := (HBx.out.ext hx1).av 1 rfl
  have d2 := (HBx.out.ext hx1).av 2 rfl
  simp only [pcells, List.getElem_toArray, List.getElem_cons_zero, List.getElem_cons_succ] at d0 d1 d2
  clear HK hx1
  go_wp2_with fail
  refine (HN w1 HX1.out).out.mono ?_
  intro e w2 hx
  obtain ⟨rfl, hx2⟩ := hx
  clear HN d0 d1 d2
  go_wp2
  go_ret
  exact ⟨rfl, HX1.out.trans hx2⟩
set_option maxRecDepth 100000 in
set_option maxHeartbeats 3200000 in
theorem progplace_any (a1 a2 a3 : Option Addr) (c1 c2 c3 : Nat) (P : PP) (p : Int) (w : World) (n0 : Nat) (ad : Nat → Addr) (hE : ErrsP w ad) (h : ProgR w n0 (.slice a1 P.vars.length c1) (.slice a2 P.funs.length c2) (.slice a3 P.stmts.length c3) P)
    (hz1 : ∀ s ∈ P.vars, s.size ≤ 1000000) (hz2 : ∀ s ∈ P.names, s.size ≤ 1000000) (hw : P.Well) :
    Calls Tryz.prog 32 #[pval a1 a2 a3 c1 c2 c3 P, .int .i64 p] w fun e w' => e = .returned (.int .i64 (P.placeV p)) ∧ Ext w w' := by
  have hc3 : P.stmts.length ≤ c3 := by
    obtain ⟨_, _, e, h2, _⟩ := h.stmts
    simp only [Value.slice.injEq] at e
    obtain ⟨_, _, rfl⟩ := e
    exact h2
  have HP00 := hid h
  have hv := hw.few
  obtain ⟨hv1, hv2, hv3⟩ := hv
  have hv : P.vars.length ≤ 1000 := by omega
  have hs : P.stmts.length ≤ 1000 := by omega
  have HP0 := hid h
  have hml1 : (P.vars.length : Int) ≤ 1000 := by omega
  obtain ⟨W, hW⟩ : ∃ W, W = w.alloc (.cells (pcells a1 a2 a3 c1 c2 c3 P) 26) := ⟨_, rfl⟩
  have HX : Hid (Ext w W) := hid (by rw [hW]; exact (Ext.refl _).alloc _)
  have hB : Blk W w.heap.size (pcells a1 a2 a3 c1 c2 c3 P) 26 := by rw [hW]; exact Blk.new _ _ _
  have HP := hid (h.ext HX.out)
  have d0 := hB.av 0 rfl
  have d2 := hB.av 2 rfl
  simp only [pcells, List.getElem_toArray, List.getElem_cons_zero, List.getElem_cons_succ] at d0 d2
  unfold pcells at hW
  have HWe := hid hW
  unfold pval
  clear hW hB h
  have HK := hid (check_well (hE.ext HX.out) HP.out hz1 hz2 hw)
  unfold pval at HK
  have HBx := hid (show Blk W w.heap.size (pcells a1 a2 a3 c1 c2 c3 P) 26 by rw [HWe.out]; exact Blk.new _ _ _)
  clear d0 d2
  go_enter Tryz.func32, Tryz.ntmps32
  go_wp2_with fail
  rw [← HWe.out]
  refine HK.out.mono ?_
  intro e w1 hx
  obtain ⟨rfl, hx1⟩ := hx
  have HX1 := hid (HX.out.trans hx1)
  have d0 := (HBx.out.ext hx1).av 0 rfl
  have d1 := (HBx.out.ext hx1).av 1 rfl
  have d2 := (HBx.out.ext hx1).av 2 rfl
  simp only [pcells, List.getElem_toArray, List.getElem_cons_zero, List.getElem_cons_succ] at d0 d1 d2
  clear HK hx1
  by_cases h1 : p < 0
  · have Hr := hid (show PP.placeV P p = -1 by unfold PP.placeV; rw [if_neg (by omega)])
    go_wp2
    go_ret
    exact ⟨by rw [Hr.out]; rfl, HX1.out⟩
  · obtain ⟨K, rfl⟩ := Int.eq_ofNat_of_zero_le (show 0 ≤ p by omega)
    by_cases h2 : K < P.stmts.length
    · obtain ⟨y, x, av, cv, rfl, hxk, e0, e1, e2, e3, _⟩ := (HP0.out.ext HX1.out).stmts.at h2
      have hnw := isNew_at hxk
      have hKc : K ≤ c3 := by omega
      cases hb : (x.kind.toList == [110, 101, 119]) with
      | true =>
        have Hr := hid (show P.placeV (K : Int) = ((P.vars.length + P.newsN K : Nat) : Int) by unfold PP.placeV; rw [if_pos ⟨by omega, by omega, by rw [Int.toNat_natCast]; exact hnw.trans hb⟩, Int.toNat_natCast])
        clear hnw hxk e1 e2 e3
        go_wp2
        clear e0 hb
        go_loopw [5, 39] (fun tn ti wr => ∃ k : Nat, ti = .int .i64 (k : Int) ∧ k ≤ K ∧ tn = .int .i64 ((P.vars.length + P.newsN k : Nat) : Int) ∧ Ext w1 wr) (fun _ ti _ => K - (intOf ti).toNat)
        case atStart => exact ⟨0, rfl, Nat.zero_le _, rfl, Ext.refl _⟩
        case round =>
          obtain ⟨k, rfl, hk, rfl, hx⟩ := hrel
          have Hx := hid hx
          clear hx
          have Hle := hid (P.newsN_le k)
          have Hsu := hid (P.newsN_succ k)
          by_cases hlt : k < K
          · obtain ⟨yk, x, av, cv, hyk, hxk, e0, e1, e2, e3, _⟩ := (HP0.out.ext ((HX1).out.trans Hx.out)).stmts.at (show k < P.stmts.length by omega)
            first | subst hyk | (obtain rfl := Option.some.inj hyk)
            have hnw := isNew_at hxk
            have hcn : ((P.vars.length + P.newsN k : Nat) : Int) ≤ 100000 := by have := Hle.out; omega
            cases hb : (x.kind.toList == [110, 101, 119]) with
            | true =>
              have Hn2 := hid (show P.newsN (k + 1) = P.newsN k + 1 by rw [Hsu.out, hnw.trans hb]; rfl)
              clear hxk hnw
              generalize P.newsN k = m at *
              go_wp2
              go_roundw
              case rel => exact ⟨k + 1, by go_num, by omega, by rw [Hn2.out]; go_num, Hx.out.alloc _⟩
              case measure => simp [intOf]; omega
            | false =>
              have Hn2 := hid (show P.newsN (k + 1) = P.newsN k by rw [Hsu.out, hnw.trans hb]; rfl)
              clear hxk hnw
              go_wp2
              go_roundw
              case rel => exact ⟨k + 1, by go_num, by omega, by rw [Hn2.out], Hx.out.alloc _⟩
              case measure => simp [intOf]; omega
          · obtain rfl : k = K := by omega
            go_wp2
            go_ret
            exact ⟨by rw [Hr.out]; rfl, HX1.out.trans Hx.out⟩
      | false =>
        have hno : ¬ (0 ≤ (K : Int) ∧ (K : Int) < P.stmts.length ∧ P.isNew (K : Int).toNat = true) := by rw [Int.toNat_natCast, show P.isNew K = false from hnw.trans hb]; simp
        have Hno := hid hno
        clear hno hnw hxk e1 e2 e3
        have Hr := hid (show PP.placeV P (K : Int) = -1 by unfold PP.placeV; rw [if_neg (Hno.out)])
        go_wp2
        go_ret
        exact ⟨by rw [Hr.out]; rfl, HX1.out⟩
    · have Hr := hid (show PP.placeV P (K : Int) = -1 by unfold PP.placeV; rw [if_neg (by omega)])
      go_wp2
      go_ret
      exact ⟨by rw [Hr.out]; rfl, HX1.out⟩
end Go.Proofs.YtkabgmohgjljkaaGreatDoor
