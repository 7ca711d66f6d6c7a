/- Texts of one proof, put together: ZA ZC Z6 ZG. -/
import Derived.Test.YtoaoienfggjepaaGreatDoorTL04
import Derived.Test.YtoaoienfggjepaaGreatDoorTL07
import Derived.Test.YtoaoienfggjepaaGreatDoorTL08
import Derived.Test.YtoaoienfggjepaaGreatDoorTL11
import Derived.Test.YtoaoienfggjepaaGreatDoorTL12
import Derived.Test.YtoaoienfggjepaaGreatDoorTL15

/- calls.Graph: who is called; the law's own small program. -/
namespace Go.Proofs.YtoaoienfggjepaaGreatDoor
set_option linter.unusedSimpArgs false
set_option linter.unusedVariables false
open Go Go.RowKit

theorem call_info : (Tryz.prog.info? 80).map (fun i => (i.zero, i.size, i.bytes)) = some (some (.agg #[.int .i64 0, .int .i64 0]), 2, 16) := by kernel_rfl
set_option maxRecDepth 100000 in
@[go_sem high] theorem eql_call (w : World) (a b c d : Int) :
    (binOp .eql 80 (.agg #[.int .i64 a, .int .i64 b]) (.agg #[.int .i64 c, .int .i64 d])).run Tryz.prog w = .ok (.bool (a == c && b == d)) w := by
  have hS : Tryz.prog.underlying 80 = some (.struct (Tryz.prog.fieldsOf 80)) := by kernel_rfl
  have hp : Tryz.prog.stoodInHeld 80 = false := by kernel_rfl
  rw [run_eql_struct, show (10000 : Nat) = 9999 + 1 from rfl, run_equalIn_agg w 9999 80 _ _ hS hp]
  simp only [Program.fieldsOf, Tryz.underlying80]
  go_simp
  by_cases h1 : a = c <;> by_cases h2 : b = d <;> simp [h1, h2]
/-- Calls of statements. -/
def graphUp (P : PP) (S : List (List Int)) (n : Nat) : List (Int × Int) := (List.range n).flatMap fun k => (calledL P S (P.stAt k)).map fun f => ((k : Int), f)
theorem graphUp_succ (P : PP) (S : List (List Int)) (n : Nat) : graphUp P S (n + 1) = graphUp P S n ++ (calledL P S (P.stAt n)).map fun f => ((n : Int), f) := by
  unfold graphUp
  rw [List.range_succ, List.flatMap_append]
  simp
def graphL (P : PP) (S : List (List Int)) : List (Int × Int) := graphUp P S P.stmts.length
def CRow (n0 : Nat) (w : World) (v : Value) (l : List (Int × Int)) : Prop := w.ownsRow n0 80 2 v l.length (l.flatMap eCells)
set_option maxRecDepth 100000 in
set_option maxHeartbeats 1600000 in
theorem callsgraph_no (a1 a2 a3 : Option Addr) (c1 c2 c3 : Nat) (P : PP) (w : World) (n0 : Nat) (ad : Nat → Addr) (h : PS0 w n0 ad a1 a2 a3 c1 c2 c3 P) (hn : n0 ≤ w.heap.size) (hw : ¬ P.Well) :
    Calls Tryz.prog 40 #[pval a1 a2 a3 c1 c2 c3 P] w fun e w' => ∃ t z, e = .returned (.tuple #[.slice none 0 0, .iface t (.pointer (some z))]) ∧ ErrIs ad P w' (.iface t (.pointer (some z))) ∧ Ext w w' := by
  obtain ⟨W, hW⟩ : ∃ W, W = w.alloc (.cells (pcells a1 a2 a3 c1 c2 c3 P) 39) := ⟨_, rfl⟩
  have HX : Hid (Ext w W) := hid (by rw [hW]; exact (Ext.refl _).alloc _)
  have HBx : Hid (Blk W w.heap.size (pcells a1 a2 a3 c1 c2 c3 P) 39) := hid (by rw [hW]; exact Blk.new _ _ _)
  have HWe : Hid (W = w.alloc (.cells #[.slice a1 P.vars.length c1, .slice a2 P.funs.length c2, .slice a3 P.stmts.length c3] 39)) := hid (by rw [hW]; rfl)
  have d0 := HBx.out.av 0 rfl
  have d1 := HBx.out.av 1 rfl
  have d2 := HBx.out.av 2 rfl
  simp only [pcells, List.getElem_toArray, List.getElem_cons_zero, List.getElem_cons_succ] at d0 d1 d2
  rw [HWe.out] at d0 d1 d2
  have HL := hid (fixleast_no a1 a2 a3 c1 c2 c3 P W W.heap.size ad (h.on hn HX.out) hw)
  clear h hw
  unfold pval at HL ⊢
  clear hW
  go_enter Tryz.func40, Tryz.ntmps40
  go_wp2_with fail
  rw [← HWe.out]
  refine HL.out.mono ?_
  intro e w1 hx
  obtain ⟨t, z, rfl, hei, hx1⟩ := hx
  have Hei := hid hei
  have Hx1 := hid (HX.out.trans hx1)
  clear HL hei hx1 d0 d1 d2
  go_wp2
  go_ret2
  exact ⟨t, z, rfl, Hei.out, Hx1.out⟩
set_option maxRecDepth 100000 in
set_option maxHeartbeats 3200000 in
theorem callsgraph_ok (a1 a2 a3 : Option Addr) (c1 c2 c3 : Nat) (P : PP) (w : World) (ad : Nat → Addr) (h : PW w w.heap.size ad a1 a2 a3 c1 c2 c3 P) (hS : ErrS w ad) (n : Nat) (S : List (List Int)) (hL : LeastAt P n S) :
    Calls Tryz.prog 40 #[pval a1 a2 a3 c1 c2 c3 P] w fun e w' => ∃ a c, e = .returned (.tuple #[.slice a (graphL P S).length c, .nilIface]) ∧ CRow w.heap.size w' (.slice a (graphL P S).length c) (graphL P S) ∧ Ext w w' := by
  have HG := hid (hL.good h.well)
  have HSl := hid HG.out.2.1
  have hsl : P.stmts.length ≤ 80 := h.well.few.2.2
  have HPW := hid h
  obtain ⟨W, hW⟩ : ∃ W, W = w.alloc (.cells (pcells a1 a2 a3 c1 c2 c3 P) 39) := ⟨_, rfl⟩
  have HX : Hid (Ext w W) := hid (by rw [hW]; exact (Ext.refl _).alloc _)
  have HBx : Hid (Blk W w.heap.size (pcells a1 a2 a3 c1 c2 c3 P) 39) := hid (by rw [hW]; exact Blk.new _ _ _)
  have HWe : Hid (W = w.alloc (.cells #[.slice a1 P.vars.length c1, .slice a2 P.funs.length c2, .slice a3 P.stmts.length c3] 39)) := hid (by rw [hW]; rfl)
  have d0 := HBx.out.av 0 rfl
  have d1 := HBx.out.av 1 rfl
  have d2 := HBx.out.av 2 rfl
  simp only [pcells, List.getElem_toArray, List.getElem_cons_zero, List.getElem_cons_succ] at d0 d1 d2
  rw [HWe.out] at d0 d1 d2
  have HL := hid (fixleast_ok a1 a2 a3 c1 c2 c3 P W ad ((h.ext HX.out).lift HX.out.size) (hS.ext HX.out) n S hL)
  rw [← HSl.out] at HL
  clear h hS hL
  unfold pval at HL ⊢
  clear hW
  go_enter Tryz.func40, Tryz.ntmps40
  go_wp2_with fail
  rw [← HWe.out]
  refine HL.out.mono ?_
  intro e w1 hx
  obtain ⟨a, c, rfl, hs, hx1⟩ := hx
  have Hs1 := hid hs
  have Hx1 := hid (HX.out.trans hx1)
  have HCl := fun k x w2 (y : Ext w1 w2) (hk : P.stmts[k]? = some x) => hid (callscalled_any a1 a2 a3 c1 c2 c3 P a c S k x w2 w2.heap.size ad ((HPW.out.ext (Hx1.out.trans y)).lift (Hx1.out.trans y).size) ((Hs1.out.ext y).lift y.size) HG.out hk (Nat.le_refl _))
  unfold pval at HCl
  have d2 := (HBx.out.ext hx1).av 2 rfl
  simp only [pcells, List.getElem_toArray, List.getElem_cons_zero, List.getElem_cons_succ] at d2
  have Hx1W := hid hx1
  clear HL hs hx1 d0 d1
  go_wp2
  clear d2
  go_loopw [7, 23] (fun t7 t23 wr => ∃ (k : Nat) (G : List (Int × Int)), t23 = .int .i64 (k : Int) ∧ k ≤ P.stmts.length ∧ G = graphUp P S k ∧ G.length ≤ 1000 * k ∧ CRow w1.heap.size wr t7 G ∧ Ext w1 wr) (fun _ t23 _ => P.stmts.length - (intOf t23).toNat)
  case atStart => exact ⟨0, [], rfl, Nat.zero_le _, rfl, Nat.zero_le _, World.ownsRow_nil _ _ _ _, Ext.refl _⟩
  case round =>
    obtain ⟨k, G, rfl, hk, hG, hGl, hr, hx⟩ := hrel
    unfold CRow at hr
    obtain ⟨a7, c7, rfl⟩ := row_form hr
    have Hr7 := hid hr
    have Hx := hid hx
    have HGe := hid hG
    clear hr hx hG
    by_cases hlt : k < P.stmts.length
    · have HC := HCl k _ wr Hx.out (stAt_some hlt)
      have hcl := calledL_len HG.out (P.stAt k)
      have Hn := hid (graphUp_succ P S k)
      obtain ⟨M, hM⟩ : ∃ M, M = calledL P S (P.stAt k) := ⟨_, rfl⟩
      rw [← hM] at HC hcl Hn
      have d0 := (HBx.out.ext (Hx1W.out.trans Hx.out)).av 0 rfl
      have d1 := (HBx.out.ext (Hx1W.out.trans Hx.out)).av 1 rfl
      have d2 := (HBx.out.ext (Hx1W.out.trans Hx.out)).av 2 rfl
      simp only [pcells, List.getElem_toArray, List.getElem_cons_zero, List.getElem_cons_succ] at d0 d1 d2
      clear hM
      go_wp2_with fail
      refine HC.out.mono ?_
      intro e w2 hx
      obtain ⟨v2, rfl, hr2, hx2⟩ := hx
      obtain ⟨am, cm, rfl⟩ := hr2.form
      have hml := (IntsR.own hr2 (Nat.le_refl _)).len
      have Hx2 := hid (Hx.out.trans hx2)
      have Hr2 := hid (own_ext Hr7.out hx2)
      have HM2 : Hid (w2.ownsRow 0 3 1 (.slice am M.length cm) M.length (icells M)) := hid (own_low hr2 (Nat.zero_le _))
      clear HC hr2 hx2 d0 d1 d2
      go_wp2
      go_loopw [7, 31] (fun t7 t31 wq => ∃ (j : Nat) (E : List (Int × Int)), t31 = .int .i64 (j : Int) ∧ j ≤ M.length ∧ E = G ++ (M.take j).map (fun f => ((k : Int), f)) ∧ E.length ≤ G.length + j ∧ CRow w1.heap.size wq t7 E ∧ wq.ownsRow 0 3 1 (.slice am M.length cm) M.length (icells M) ∧ Ext w1 wq) (fun _ t31 _ => M.length - (intOf t31).toNat)
      case atStart => exact ⟨0, G, rfl, Nat.zero_le _, by simp, by omega, Hr2.out, HM2.out, Hx2.out⟩
      case round =>
        obtain ⟨j, E, rfl, hj, hE, hEl, hr, hm, hx⟩ := hrel
        unfold CRow at hr
        obtain ⟨a8, c8, rfl⟩ := row_form hr
        have Hr8 := hid hr
        have Hm8 := hid hm
        have Hxq := hid hx
        have HEe := hid hE
        clear hr hx hE hm
        by_cases hlj : j < M.length
        · obtain ⟨ym, f, hym, hf, hcf⟩ := (IntsR.own Hm8.out (Nat.le_refl _)).at hlj
          subst hym
          have Hn2 : Hid (G ++ (M.take (j + 1)).map (fun f => ((k : Int), f)) = E ++ [((k : Int), f)]) := hid (by rw [List.take_add_one, hf, HEe.out]; simp)
          have hxa : Hid (Ext w1 (wr.alloc (.cells #[.int .i64 (k : Int), .int .i64 f] 80))) := hid (Hxq.out.alloc _)
          have Hra := hid (own_ext Hr8.out ((Ext.refl wr).alloc (.cells #[.int .i64 (k : Int), .int .i64 f] 80)))
          have Hma := hid (own_ext Hm8.out ((Ext.refl wr).alloc (.cells #[.int .i64 (k : Int), .int .i64 f] 80)))
          clear hf
          go_wp2_with (at_builtin; refine wpList_append_el w1.heap.size hxa.out.size 75 80 (.agg #[.int .i64 0, .int .i64 0]) 2 16 Tryz.underlying75 call_info rfl (by omega) (by omega) rfl _ _ rfl (.slice a8 E.length c8) E.length (E.flatMap eCells) rfl Hra.out wr.heap.size [.int .i64 (k : Int), .int .i64 f] rfl (by simp [Value.oneCell']) rfl (Blk.new _ _ _) (by omega) ?_; intro v' w' h1 h2 h4; obtain ⟨a', c', rfl⟩ := row_form h1; have h3 := hid (Keep.new hxa.out h2 (fun k hk => (World.ownsRow.lt Hra.out k hk).1)); have hm := hid (row_keep Hma.out h2 (fun i hi e => by obtain ⟨c1', k1⟩ := own_ty Hma.out hi; obtain ⟨c2', k2⟩ := own_ty Hra.out e; exact Blk.ty_ne k1 k2 (by decide) rfl)); have h1 := hid h1; clear h2 h4)
          go_roundw
          case rel => exact ⟨j + 1, E ++ [((k : Int), f)], by go_num, by omega, Hn2.out.symm, by rw [List.length_append]; simp; omega, by have := h1.out; unfold CRow; rw [List.flatMap_append, List.length_append]; simpa [eCells] using this, hm.out, h3.out⟩
          case measure => simp [intOf]; omega
        · obtain rfl : j = M.length := by omega
          have HEn : Hid (E = graphUp P S (k + 1)) := hid (by rw [Hn.out, HEe.out, List.take_of_length_le (Nat.le_refl _), HGe.out])
          go_wp2
          go_roundw
          case rel => exact ⟨k + 1, E, by go_num, by omega, HEn.out, by omega, Hr8.out, Hxq.out⟩
          case measure => simp [intOf]; omega
    · obtain rfl : k = P.stmts.length := by omega
      have HGn : Hid (graphL P S = G) := hid HGe.out.symm
      go_wp2
      go_ret2
      exact ⟨a7, c7, by rw [HGn.out]; rfl, by rw [HGn.out]; exact own_low Hr7.out (Nat.le_trans HX.out.size Hx1W.out.size), Hx1.out.trans Hx.out⟩

def calledP : PP := ⟨[⟨#[97]⟩, ⟨#[98]⟩], [⟨⟨#[102]⟩, [], 1⟩], [⟨⟨#[102, 117, 110]⟩, 0, 0, []⟩, ⟨⟨#[99, 97, 108, 108]⟩, 1, 0, []⟩]⟩
theorem called_well : calledP.Well := by
  refine ⟨by decide +kernel, fun j t hj ht => ?_⟩
  have hj2 : j < 2 := hj
  rcases (by omega : j = 0 ∨ j = 1) with rfl | rfl
  · obtain rfl := Option.some.inj ht
    decide +kernel
  · obtain rfl := Option.some.inj ht
    decide +kernel
theorem called_least : LeastAt calledP 1 [[2], []] := by
  refine ⟨by decide +kernel, by decide +kernel, fun m hm => ?_⟩
  obtain rfl : m = 0 := by omega
  decide +kernel
theorem called_graph : graphL calledP [[2], []] = [(1, 0)] := by decide +kernel
def calledS : Array Value := #[.string ⟨#[102, 117, 110]⟩, .int .i64 0, .int .i64 0, .slice none 0 0, .string ⟨#[99, 97, 108, 108]⟩, .int .i64 1, .int .i64 0, .slice none 0 0]
theorem called_prog {w : World} {a f b n0 : Nat} (ha : Blk w a #[.string ⟨#[97]⟩, .string ⟨#[98]⟩] 9) (hf : Blk w f #[.string ⟨#[102]⟩, .slice none 0 0, .int .i64 1] 100) (hb : Blk w b calledS 48) (h1 : a < n0) (h3 : f < n0) (h2 : b < n0) : ProgR w n0 (.slice (some ⟨a, 0, none⟩) 2 2) (.slice (some ⟨f, 0, none⟩) 1 1) (.slice (some ⟨b, 0, none⟩) 2 2) calledP := by
  have hn : IntsR w n0 (.slice none 0 0) [] := ⟨none, 0, rfl, by decide, by decide, fun h => absurd h (by decide), fun y hy => by cases hy⟩
  refine ⟨⟨_, 2, rfl, by decide, by decide, fun _ => ⟨_, rfl⟩, fun y hy _ => ?_⟩, ⟨_, 1, rfl, by decide, by decide, fun _ => ⟨_, rfl⟩, fun y hy _ => ?_⟩, ⟨_, 2, rfl, by decide, by decide, fun _ => ⟨_, rfl⟩, fun y hy _ => ?_⟩⟩
  · obtain rfl := Option.some.inj hy
    refine ⟨h1, fun i hi s hs => ?_⟩
    have hi2 : i < 2 := hi
    rcases (by omega : i = 0 ∨ i = 1) with rfl | rfl
    · obtain rfl := Option.some.inj hs
      exact ha.av 0 rfl
    · obtain rfl := Option.some.inj hs
      exact ha.av 1 rfl
  · obtain rfl := Option.some.inj hy
    refine ⟨h3, fun i hi s hs => ?_⟩
    have hi2 : i < 1 := hi
    obtain rfl : i = 0 := by omega
    obtain rfl := Option.some.inj hs
    exact ⟨.slice none 0 0, hf.av 0 rfl, hf.av 1 rfl, hf.av 2 rfl, hn⟩
  · obtain rfl := Option.some.inj hy
    refine ⟨h2, fun i hi s hs => ?_⟩
    have hi2 : i < 2 := hi
    rcases (by omega : i = 0 ∨ i = 1) with rfl | rfl
    · obtain rfl := Option.some.inj hs
      exact ⟨.slice none 0 0, hb.av 0 rfl, hb.av 1 rfl, hb.av 2 rfl, hb.av 3 rfl, hn⟩
    · obtain rfl := Option.some.inj hs
      exact ⟨.slice none 0 0, hb.av 4 rfl, hb.av 5 rfl, hb.av 6 rfl, hb.av 7 rfl, hn⟩
set_option maxRecDepth 100000 in
set_option maxHeartbeats 3200000 in
theorem callsfact_any (w : World) (ad : Nat → Addr) (hE : ErrsP w ad) (hS : ErrS w ad) : Calls Tryz.prog 21 #[] w fun e w' => e = .returned (.bool true) ∧ Ext w w' := by
  obtain ⟨W1, hW1⟩ : ∃ W1, W1 = w.alloc (.cells #[.string ⟨#[97]⟩, .string ⟨#[98]⟩] 9) := ⟨_, rfl⟩
  obtain ⟨W2, hW2⟩ : ∃ W2, W2 = W1.alloc (.cells #[.string ⟨#[102]⟩, .slice none 0 0, .int .i64 1] 100) := ⟨_, rfl⟩
  obtain ⟨W3, hW3⟩ : ∃ W3, W3 = W2.alloc (.cells calledS 48) := ⟨_, rfl⟩
  obtain ⟨W4, hW4⟩ : ∃ W4, W4 = W3.alloc (.cells #[.slice (some ⟨w.heap.size, 0, none⟩) 2 2, .slice (some ⟨w.heap.size + 1, 0, none⟩) 1 1, .slice (some ⟨w.heap.size + 1 + 1, 0, none⟩) 2 2] 39) := ⟨_, rfl⟩
  have x1 : Ext w W1 := by rw [hW1]; exact (Ext.refl _).alloc _
  have x2 : Ext W1 W2 := by rw [hW2]; exact (Ext.refl _).alloc _
  have x3 : Ext W2 W3 := by rw [hW3]; exact (Ext.refl _).alloc _
  have x4 : Ext W3 W4 := by rw [hW4]; exact (Ext.refl _).alloc _
  have s1 : W1.heap.size = w.heap.size + 1 := by rw [hW1, heap_size_alloc]
  have s2 : W2.heap.size = w.heap.size + 1 + 1 := by rw [hW2, heap_size_alloc, s1]
  have s3 : W3.heap.size = w.heap.size + 1 + 1 + 1 := by rw [hW3, heap_size_alloc, s2]
  have s4 : W4.heap.size = w.heap.size + 1 + 1 + 1 + 1 := by rw [hW4, heap_size_alloc, s3]
  have bA : Blk W1 w.heap.size #[.string ⟨#[97]⟩, .string ⟨#[98]⟩] 9 := by rw [hW1]; exact Blk.new _ _ _
  have bF : Blk W2 (w.heap.size + 1) #[.string ⟨#[102]⟩, .slice none 0 0, .int .i64 1] 100 := by rw [hW2, ← s1]; exact Blk.new _ _ _
  have bB : Blk W3 (w.heap.size + 1 + 1) calledS 48 := by rw [hW3, ← s2]; exact Blk.new _ _ _
  have hP := called_prog (n0 := W4.heap.size) (bA.ext (x2.trans (x3.trans x4))) (bF.ext (x3.trans x4)) (bB.ext x4) (by omega) (by omega) (by omega)
  have xx : Ext w W4 := x1.trans (x2.trans (x3.trans x4))
  have HD := hid (callsgraph_ok _ _ _ 2 1 2 calledP W4 ad ⟨hE.ext xx, hP, fun s hs => by rcases (by simpa [calledP] using hs : s = ⟨#[97]⟩ ∨ s = ⟨#[98]⟩) with rfl | rfl <;> decide, fun s hs => by
    obtain rfl : s = ⟨#[102]⟩ := by simpa [PP.names, calledP] using hs
    decide, called_well⟩ (hS.ext xx) 1 [[2], []] called_least)
  rw [called_graph] at HD
  have HX := hid xx
  have HW4 : Hid (W4 = (((w.alloc (.cells #[.string ⟨#[97]⟩, .string ⟨#[98]⟩] 9)).alloc (.cells #[.string ⟨#[102]⟩, .slice none 0 0, .int .i64 1] 100)).alloc (.cells #[.string ⟨#[102, 117, 110]⟩, .int .i64 0, .int .i64 0, .slice none 0 0, .string ⟨#[99, 97, 108, 108]⟩, .int .i64 1, .int .i64 0, .slice none 0 0] 48)).alloc (.cells #[.slice (some ⟨w.heap.size, 0, none⟩) 2 2, .slice (some ⟨w.heap.size + 1, 0, none⟩) 1 1, .slice (some ⟨w.heap.size + 1 + 1, 0, none⟩) 2 2] 39)) := hid (by rw [hW4, hW3, hW2, hW1]; rfl)
  unfold pval at HD
  clear hE hS hW1 hW2 hW3 hW4 x1 x2 x3 x4 s1 s2 s3 s4 bA bF bB hP xx
  go_enter Tryz.func21, Tryz.ntmps21
  go_wp2_with fail
  rw [← HW4.out]
  refine HD.out.mono ?_
  intro e w5 hx
  obtain ⟨a, c, rfl, hs, hx5⟩ := hx
  have HX5 := hid (HX.out.trans hx5)
  unfold CRow at hs
  obtain ⟨g, cp, hge⟩ := own_some hs (by decide)
  simp only [Value.slice.injEq, true_and] at hge
  obtain ⟨rfl, rfl⟩ := hge
  have r0 : w5.cell? ⟨g, 0, none⟩ = some (.int .i64 1) := own_get hs 0 rfl
  have r1 : w5.cell? ⟨g, 1, none⟩ = some (.int .i64 0) := own_get hs 1 rfl
  clear HD hs hx5
  go_wp2
  go_ret
  exact ⟨rfl, HX5.out⟩
end Go.Proofs.YtoaoienfggjepaaGreatDoor



/- calls.nodes, calls.idle, calls.Idle: statements that can do nothing. -/
namespace Go.Proofs.YtoaoienfggjepaaGreatDoor
set_option linter.unusedSimpArgs false
set_option linter.unusedVariables false
open Go Go.RowKit

/-- The nodes among a node's objects. -/
def nodesL (S : List (List Int)) (l : List Int) : List Int := l.filter fun o => !decide ((S.length : Int) ≤ o)
set_option maxRecDepth 100000 in
set_option maxHeartbeats 800000 in
theorem indexfi_cnodes (b : Value) (p : Int → Bool) (v : Value) (l : List Int) (w : World) (n0 : Nat) (h : IntsR w n0 v l) (hF : ∀ n w1, Ext w w1 → Calls Tryz.prog 114 #[.int .i64 n, b] w1 fun e w' => e = .returned (.bool (p n)) ∧ Ext w1 w') :
    Calls Tryz.prog 67 #[v, .func (.func 114) #[] #[b]] w fun e w' => ∃ r : Int, e = .returned (.int .i64 r) ∧ IdxF p l r ∧ Ext w w' := by
  have HS := hid h
  have HF := hid hF
  obtain ⟨a, cap, rfl, h2, h3, h4, _⟩ := h
  have H4 := hid h4
  have hml : (l.length : Int) ≤ 9223372036854775807 := by omega
  clear h2 h3 h4 hF
  go_enter Tryz.func67, Tryz.ntmps67
  go_wp2
  go_loopw [8] (fun t8 wr => ∃ k : Nat, t8 = .int .i64 (k : Int) ∧ k ≤ l.length ∧ (∀ j t, j < k → l[j]? = some t → p t = false) ∧ Ext w wr) (fun t8 _ => l.length - (intOf t8).toNat)
  case atStart => exact ⟨0, rfl, Nat.zero_le _, fun j t h => by omega, Ext.refl _⟩
  case round =>
    obtain ⟨k, rfl, hk, hne, hx⟩ := hrel
    have Hne := hid hne
    clear hne
    by_cases hlt : k < l.length
    · obtain ⟨y, rfl⟩ := H4.out (by omega)
      have hxk : l[k]? = some (l[k]'hlt) := List.getElem?_eq_getElem hlt
      obtain ⟨t, ht⟩ : ∃ t, t = l[k]'hlt := ⟨_, rfl⟩
      rw [← ht] at hxk
      obtain ⟨a', cap', h1, _, _, _, h5⟩ := HS.out.old (hx.old n0)
      obtain ⟨rfl, rfl⟩ : some y = a' ∧ cap = cap' := by simpa using h1
      have hc := (h5 y rfl (by omega)).2 k hlt t hxk
      have HN := hid (HF.out t wr hx)
      have Hxk := hid hxk
      have Hx := hid hx
      clear hxk ht h1 h5 hx
      go_wp2_with fail
      refine HN.out.mono ?_
      intro e w1 hx1
      obtain ⟨rfl, hx1⟩ := hx1
      have Hx1 := hid (Hx.out.trans hx1)
      clear HN hx1 Hx hc
      cases he : p t with
      | true =>
        have Hin := hid (show IdxF p l (k : Int) from .inr ⟨k, t, rfl, hlt, Hxk.out, he, Hne.out⟩)
        go_wp2
        go_ret
        exact ⟨(k : Int), rfl, Hin.out, Hx1.out⟩
      | false =>
        have Hf := hid he
        clear he
        go_wp2
        go_roundw
        case rel =>
          refine ⟨k + 1, by go_num, by omega, fun j u hj hu => ?_, Hx1.out⟩
          by_cases hjk : j = k
          · subst hjk
            obtain rfl := Option.some.inj (Hxk.out.symm.trans hu)
            exact Hf.out
          · exact Hne.out j u (by omega) hu
        case measure => simp [intOf]; omega
    · obtain rfl : k = l.length := by omega
      have Hx := hid hx
      clear hx
      have Hnot := hid (show IdxF p l (-1) from .inl ⟨rfl, fun x hx => by
        obtain ⟨j, hj, e2⟩ := List.mem_iff_getElem.1 hx
        exact Hne.out j x hj (by rw [List.getElem?_eq_getElem hj, e2])⟩)
      go_wp2
      go_ret
      exact ⟨(-1 : Int), rfl, Hnot.out, Hx.out⟩

set_option maxRecDepth 100000 in
set_option maxHeartbeats 3200000 in
theorem idel_cnodes (b : Value) (p : Int → Bool) (lv : Value) (l : List Int) (w0 w : World) (n0 : Nat) (hx0 : Ext w0 w) (hb0 : w0.heap.size ≤ n0) (hr : IRow n0 w lv l) (hF : ∀ n w1, Ext w0 w1 → Calls Tryz.prog 114 #[.int .i64 n, b] w1 fun e w' => e = .returned (.bool (p n)) ∧ Ext w1 w') (hfew : l.length ≤ 100000) :
    Calls Tryz.prog 113 #[lv, .func (.func 114) #[] #[b]] w fun e w' => ∃ lv', e = .returned lv' ∧ IRow n0 w' lv' (l.filter fun x => !p x) ∧ Ext w0 w' := by
  have HI := hid (indexfi_cnodes b p lv l w w.heap.size (IntsR.own hr (Nat.le_refl _)) (fun n w1 x => hF n w1 (hx0.trans x)))
  have HF := hid hF
  obtain ⟨a, c, rfl⟩ := hr.form
  have Hr := hid hr
  have Hx0 := hid hx0
  have Hb0 := hid hb0
  clear hr hF hx0 hb0
  go_enter Tryz.func113, Tryz.ntmps113
  go_wp2_with fail
  refine HI.out.mono ?_
  intro e w1 hx
  obtain ⟨r, rfl, hidx, hx1⟩ := hx
  have Hx1 := hid (Hx0.out.trans hx1)
  have Hr1 := hid (Hr.out.ext hx1)
  clear HI hx1
  rcases hidx with ⟨rfl, hall⟩ | ⟨i0, x0, rfl, hi0, hx0, hd0, hlow⟩
  · have hf : Hid (l.filter (fun x => !p x) = l) := hid (List.filter_eq_self.2 fun x hx => by rw [hall x hx]; rfl)
    clear hall
    go_wp2
    go_ret
    exact ⟨_, rfl, by rw [hf.out]; exact Hr1.out, Hx1.out⟩
  · obtain ⟨gb, cp, he⟩ : ∃ g cap, Value.slice a l.length c = .slice (some ⟨g, 0, none⟩) l.length cap := by
      rcases Hr1.out.case with ⟨_, h⟩ | h
      · rw [h] at hi0; simp at hi0
      · exact h
    simp only [Value.slice.injEq, true_and] at he
    obtain ⟨rfl, rfl⟩ := he
    obtain ⟨_, hbase, hcap, hmx, _⟩ := Hr1.out.cur
    have hstart : l.take i0 = (l.take (i0 + 1)).filter fun x => !p x := by
      rw [filter_next hx0, hd0, List.filter_eq_self.2 fun x hx => ?_]
      · simp
      · obtain ⟨j, hj, e⟩ := List.mem_iff_getElem.1 hx
        rw [List.length_take] at hj
        rw [List.getElem_take] at e
        rw [hlow j x (by omega) (by rw [List.getElem?_eq_getElem (by omega), e])]; rfl
    have Hstart := hid hstart
    have Hbase := hid hbase
    have hmx' : (c : Int) ≤ 9223372036854775807 := by unfold maxLen at hmx; omega
    have hcl : (l.length : Int) ≤ (c : Int) := by omega
    have hi1 : ((i0 : Int) == -1) = false := beq_eq_false_iff_ne.2 (by omega)
    clear hstart hx0 hd0 hlow hbase hcap hmx
    go_wp2
    clear hi1
    go_loopw [5, 6] (fun t5 t6 wr => ∃ (i j : Nat) (R : List Int), t5 = .int .i64 (i : Int) ∧ t6 = .int .i64 (j : Int) ∧ i < j ∧ j ≤ l.length ∧ R.length = l.length ∧ R.take i = (l.take j).filter (fun x => !p x) ∧ R.drop j = l.drop j ∧
      wr.ownsRow n0 3 1 (.slice (some ⟨gb, 0, none⟩) l.length c) l.length (icells R) ∧ Ext w0 wr) (fun _ t6 _ => l.length - (intOf t6).toNat)
    case atStart => exact ⟨i0, i0 + 1, l, rfl, rfl, by omega, by omega, rfl, Hstart.out, rfl, Hr1.out, Hx1.out⟩
    case round =>
      obtain ⟨i, j, R, rfl, rfl, hij, hj, hRl, hT, hD, hrow, hx⟩ := hrel
      have HRl := hid hRl
      have HT := hid hT
      have HD := hid hD
      have Hrow := hid hrow
      have Hx := hid hx
      clear hRl hT hD Hstart hrow hx
      by_cases hlt : j < l.length
      · have hxj : R[j]? = some (l[j]'hlt) := by
          have := congrArg (fun l => l[0]?) HD.out
          simpa [List.getElem?_drop, List.getElem?_eq_getElem hlt] using this
        obtain ⟨x, hxd⟩ : ∃ x, x = l[j]'hlt := ⟨_, rfl⟩
        rw [← hxd] at hxj
        have hxk : l[j]? = some x := by rw [hxd]; exact List.getElem?_eq_getElem hlt
        have c0 := own_i Hrow.out hxj
        have HN := hid (HF.out x wr Hx.out)
        have Hxk := hid hxk
        have hji : (i : Int) < (l.length : Int) := by omega
        clear hxd hxj hxk
        go_wp2_with fail
        refine HN.out.mono ?_
        intro e w2 hx2
        obtain ⟨rfl, hx2⟩ := hx2
        have Hrow2 := hid (own_ext Hrow.out hx2)
        have Hx2 := hid (Hx.out.trans hx2)
        clear HN hx2 c0
        cases hf : p x with
        | true =>
          have Hf : Hid ((fun x => !p x) x = false) := hid (by show (!p x) = false; rw [hf]; rfl)
          clear hf
          go_wp2
          go_roundw
          case rel => exact ⟨i, j + 1, R, rfl, by go_num, by omega, by omega, HRl.out, by rw [filter_next Hxk.out, if_neg (by rw [Hf.out]; simp), HT.out]; simp, by rw [← List.drop_drop, HD.out, List.drop_drop], Hrow2.out, Hx2.out⟩
          case measure => simp [intOf]; omega
        | false =>
          have Hf : Hid ((fun x => !p x) x = true) := hid (by show (!p x) = true; rw [hf]; rfl)
          have hiR : i < R.length := by have := HRl.out; omega
          have y0 := own_i Hrow2.out (List.getElem?_eq_getElem hiR)
          have hfr := own_free Hrow2.out
          have hput := hid (own_putI Hrow2.out i hiR x)
          have hkp2 : Hid (Ext w0 (w2.setCell ⟨gb, i, none⟩ (.int .i64 x))) := hid (Keep.new Hx2.out (Keep.set (X := fun b => b = gb) (Keep.refl _ w2) rfl (.int .i64 x) : Keep (fun b => b = gb) w2 (w2.setCell ⟨gb, i, none⟩ (.int .i64 x))) fun b e => by rw [e]; exact Nat.le_trans Hb0.out Hbase.out)
          generalize hyv : R[i] = y at *
          clear hyv hf
          go_wp2
          go_roundw
          case rel => exact ⟨i + 1, j + 1, R.set i x, by go_num, by go_num, by omega, by omega, by rw [List.length_set]; exact HRl.out, by rw [take_set_succ R i x hiR, filter_next Hxk.out, if_pos Hf.out, HT.out], by rw [List.drop_set_of_lt (by omega), ← List.drop_drop, HD.out, List.drop_drop], hput.out, hkp2.out⟩
          case measure => simp [intOf]; omega
      · obtain rfl : j = l.length := by omega
        have hTf : R.take i = l.filter fun x => !p x := by rw [HT.out, List.take_length]
        have hRi : (l.filter fun x => !p x).length = i := by rw [← hTf, List.length_take, HRl.out]; omega
        obtain ⟨cu, hcu, hb0, hcap, hmx, hcs, htk⟩ := own_blk Hrow.out
        obtain ⟨ti, hi, hz0, hz1, hz2⟩ := info_parts ints_info
        have hsz : i + (l.length - i) * 1 ≤ cu.size := by rw [hcs]; omega
        have hclr := fun ty => run_clear_row (P := Tryz.prog) wr 22 ty 3 ti _ Tryz.underlying22 hi hz0 (by simp [Value.cells, Value.oneCell']) gb i (l.length - i) (c - i) (by omega) cu hcu hsz
        obtain ⟨cu', hcu'⟩ : ∃ cu', cu' = (cu.toList.take i ++ (Builtin.zeroCells (Value.int .i64 0).cells (l.length - i)).toList ++ cu.toList.drop (i + (l.length - i) * (Value.int .i64 0).cells.size)).toArray := ⟨_, rfl⟩
        rw [← hcu'] at hclr
        have hsz' : cu'.size = c * 1 := by
          have h6 : (Value.int .i64 0).cells.size = 1 := rfl
          rw [hcu', List.size_toArray, List.length_append, List.length_append, List.length_take, List.length_drop, Array.length_toList, Array.length_toList, size_zeroCells, h6, hcs]
          omega
        have htk' : cu'.toList.take (i * 1) = icells (l.filter fun x => !p x) := by
          rw [hcu', List.toList_toArray, List.append_assoc, Nat.mul_one, List.take_append_of_le_length (by rw [List.length_take, Array.length_toList]; omega), List.take_take, Nat.min_self, ← hTf]
          have h7 : cu.toList.take l.length = icells R := by simpa using htk
          have h8 := congrArg (fun l => l.take i) h7
          simp only [List.take_take, Nat.min_eq_left (show i ≤ l.length by omega)] at h8
          rw [h8]; unfold icells; rw [List.map_take]
        have hfin := hid (own_of_blk (setRow_blk hcu cu') hb0 (show i ≤ c by omega) hmx hsz' htk')
        have hkf : Hid (Ext w0 _) := hid (Keep.new Hx.out (setRow_keep wr gb cu') fun b e => by rw [e]; exact Nat.le_trans Hb0.out Hbase.out)
        have HRi := hid hRi
        have hci : (i : Int) ≤ (l.length : Int) := by omega
        clear hTf hRi hcu hb0 hcap hmx hcs htk hi hz0 hz1 hz2 hsz hcu' hsz' htk' HRl HT HD
        go_wp2
        go_ret
        exact ⟨.slice (some ⟨gb, 0, none⟩) i c, rfl, by unfold IRow; rw [HRi.out]; exact hfin.out, hkf.out⟩
theorem callsnodesc_any (g : Nat) (ah : Option Addr) (ch : Nat) (N : Nat) (n : Int) (w : World) (hB : Blk w g #[.slice ah N ch] 44) (hN : (N : Int) ≤ 9223372036854775807) :
    Calls Tryz.prog 114 #[.int .i64 n, .pointer (some ⟨g, 0, none⟩)] w fun e w' => e = .returned (.bool (decide ((N : Int) ≤ n))) ∧ Ext w w' := by
  have g0 := hB.av 0 rfl
  simp only [List.getElem_toArray, List.getElem_cons_zero] at g0
  clear hB
  by_cases hn : (N : Int) ≤ n
  · go_enter Tryz.func114, Tryz.ntmps114
    go_wp2
    go_ret
    exact ⟨by simp [hn], Ext.refl _⟩
  · go_enter Tryz.func114, Tryz.ntmps114
    go_wp2
    go_ret
    exact ⟨by simp [hn], Ext.refl _⟩
set_option maxRecDepth 100000 in
set_option maxHeartbeats 1600000 in
theorem callsnodes_any (ah : Option Addr) (ch : Nat) (S : List (List Int)) (x : Nat) (w : World) (n0 : Nat) (hh : SetsR w n0 (.slice ah S.length ch) S) (hx : x < S.length) (hfew : (S.getD x []).length ≤ 100000) :
    Calls Tryz.prog 74 #[.slice ah S.length ch, .int .i64 (x : Int)] w fun e w' => ∃ v', e = .returned v' ∧ IRow w.heap.size w' v' (nodesL S (S.getD x [])) ∧ Ext w w' := by
  have hhl := hh.len
  obtain ⟨W, hW⟩ : ∃ W, W = w.alloc (.cells #[.slice ah S.length ch] 44) := ⟨_, rfl⟩
  have HX : Hid (Ext w W) := hid (by rw [hW]; exact (Ext.refl _).alloc _)
  have HBx : Hid (Blk W w.heap.size #[.slice ah S.length ch] 44) := hid (by rw [hW]; exact Blk.new _ _ _)
  obtain ⟨z, l, bl, cl, rfl, hl, hc, hI⟩ := (hh.ext HX.out).at hx
  have hDl : S.getD x [] = l := by rw [List.getD_eq_getElem?_getD, hl]; rfl
  rw [hDl] at hfew ⊢
  have HWe := hid hW
  have HC := hid (clone_big (.slice bl l.length cl) l W n0 hI hfew)
  rw [HWe.out] at hc
  clear hW hh hl hI hDl
  go_enter Tryz.func74, Tryz.ntmps74
  go_wp2_with fail
  rw [← HWe.out]
  refine HC.out.mono ?_
  intro e w1 hx
  obtain ⟨v1, rfl, hx1, hr1⟩ := hx
  have HD := hid (idel_cnodes (.pointer (some ⟨w.heap.size, 0, none⟩)) (fun o => decide ((S.length : Int) ≤ o)) v1 l W w1 W.heap.size hx1 (Nat.le_refl _) hr1 (fun n w2 x => callsnodesc_any w.heap.size _ ch S.length n w2 (HBx.out.ext x) hhl) hfew)
  obtain ⟨a1', p1', rfl⟩ := hr1.form
  clear HC hx1 hr1 hc
  go_wp2_with fail
  refine HD.out.mono ?_
  intro e w2 hx
  obtain ⟨v2, rfl, hr2, hx2⟩ := hx
  have Hr2 := hid (hr2.base HX.out.size)
  have Hx2 := hid (HX.out.trans hx2)
  clear HD hr2 hx2
  obtain ⟨a2', p2', rfl⟩ := Hr2.out.form
  go_wp2
  go_ret
  exact ⟨_, rfl, Hr2.out, Hx2.out⟩
/-- Can a statement do nothing? -/
def idleV (P : PP) (S : List (List Int)) (x : PS) : Bool :=
  bif x.isK kLoad then decide ((nodesL S (S.getD x.y.toNat [])).length = 0) else
  bif x.isK kStore then decide ((nodesL S (S.getD x.x.toNat [])).length = 0) else
  bif x.isK kCall then decide ((calledL P S x).length = 0) else false
theorem len_zero (n : Nat) : ((n : Int) == 0) = decide (n = 0) := by
  by_cases h : n = 0
  · subst h; rfl
  · rw [decide_eq_false h]; exact beq_eq_false_iff_ne.2 (by omega)
theorem good_few {P : PP} {S : List (List Int)} (hg : P.GoodS S) (n : Nat) : (S.getD n []).length ≤ 1000 := by
  rw [List.getD_eq_getElem?_getD]
  cases hl : S[n]? with
  | none => simp
  | some l => exact srt_few (hg.ok.ok l (List.mem_of_getElem? hl)).1
theorem nodesL_few {P : PP} {S : List (List Int)} (hg : P.GoodS S) (n : Nat) : (nodesL S (S.getD n [])).length ≤ 1000 := by
  have h1 := good_few hg n
  have h2 := List.length_filter_le (fun o => !decide ((S.length : Int) ≤ o)) (S.getD n [])
  unfold nodesL
  omega
set_option maxRecDepth 100000 in
set_option maxHeartbeats 3200000 in
theorem callsidle1_any (a1 a2 a3 : Option Addr) (c1 c2 c3 : Nat) (P : PP) (ah : Option Addr) (ch : Nat) (S : List (List Int)) (k : Nat) (x : PS) (w : World) (n0 : Nat) (ad : Nat → Addr) (h : PW w n0 ad a1 a2 a3 c1 c2 c3 P) (hh : SetsR w n0 (.slice ah S.length ch) S) (hg : P.GoodS S) (hk : P.stmts[k]? = some x) (hn0 : n0 ≤ w.heap.size) :
    Calls Tryz.prog 73 #[pval a1 a2 a3 c1 c2 c3 P, .slice ah S.length ch, .int .i64 (k : Int)] w fun e w' => e = .returned (.bool (idleV P S x)) ∧ Ext w w' := by
  have Hk := hid hk
  have hkl : k < P.stmts.length := by
    rcases Nat.lt_or_ge k P.stmts.length with g | g
    · exact g
    · rw [List.getElem?_eq_none g] at hk; cases hk
  obtain ⟨hf1, hf2, hf3⟩ := h.well.few
  have hgd := PP.good (h.well.2 k x hkl hk)
  obtain ⟨W, hW⟩ : ∃ W, W = w.alloc (.cells (pcells a1 a2 a3 c1 c2 c3 P) 39) := ⟨_, rfl⟩
  have hx1 : Ext w W := by rw [hW]; exact (Ext.refl _).alloc _
  obtain ⟨y, x', aa, ca, rfl, hxk', e0, e1, e2, e3, hIa⟩ := (h.prog.ext hx1).stmts.at hkl
  obtain rfl : x = x' := Option.some.inj (hk.symm.trans hxk')
  have hal := hIa.len
  obtain ⟨V, hV⟩ : ∃ V, V = W.alloc (.cells #[.string x.kind, .int .i64 x.x, .int .i64 x.y, .slice aa x.args.length ca] 48) := ⟨_, rfl⟩
  have hxV : Ext W V := by rw [hV]; exact (Ext.refl _).alloc _
  have sW : W.heap.size = w.heap.size + 1 := by rw [hW, heap_size_alloc]
  have HX : Hid (Ext w V) := hid (hx1.trans hxV)
  have HBp : Hid (Blk V w.heap.size (pcells a1 a2 (some y) c1 c2 c3 P) 39) := hid ((show Blk W w.heap.size (pcells a1 a2 (some y) c1 c2 c3 P) 39 by rw [hW]; exact Blk.new _ _ _).ext hxV)
  have HBs : Hid (Blk V (w.heap.size + 1) #[.string x.kind, .int .i64 x.x, .int .i64 x.y, .slice aa x.args.length ca] 48) := hid (by rw [← sW, hV]; exact Blk.new _ _ _)
  have d2 : W.cell? ⟨w.heap.size, 2, none⟩ = some (.slice (some y) P.stmts.length c3) := (show Blk W w.heap.size (pcells a1 a2 (some y) c1 c2 c3 P) 39 by rw [hW]; exact Blk.new _ _ _).av 2 rfl
  have HWe : Hid (W = w.alloc (.cells #[.slice a1 P.vars.length c1, .slice a2 P.funs.length c2, .slice (some y) P.stmts.length c3] 39)) := hid (by rw [hW]; rfl)
  have HVe : Hid (V = (w.alloc (.cells #[.slice a1 P.vars.length c1, .slice a2 P.funs.length c2, .slice (some y) P.stmts.length c3] 39)).alloc (.cells #[.string x.kind, .int .i64 x.x, .int .i64 x.y, .slice aa x.args.length ca] 48)) := hid (by rw [hV, hW]; rfl)
  have HPW := hid h
  have HG := hid hg
  have HH := hid hh
  have hhl := hh.len
  have s0 := HBs.out.av 0 rfl
  have s1 := HBs.out.av 1 rfl
  have s2 := HBs.out.av 2 rfl
  simp only [List.getElem_toArray, List.getElem_cons_zero, List.getElem_cons_succ] at s0 s1 s2
  rw [HVe.out] at s0 s1 s2
  rw [HWe.out] at d2 e0 e1 e2 e3
  unfold pval
  clear hW hx1 hxV hV sW hIa hxk' h hg hh
  cases h1 : (x.kind.toList == [108, 111, 97, 100]) with
  | true =>
    have hk1 : x.isK kLoad = true := h1
    have hyv := hgd.yv (isK_ne hk1 (by decide)) (isK_ne hk1 (by decide))
    obtain ⟨Y, hY⟩ := Int.eq_ofNat_of_zero_le hyv.1
    have hnv := nodes_vars P
    have hYl : Y < S.length := by have := HG.out.2.1; omega
    have HN := hid (callsnodes_any ah ch S Y V n0 (HH.out.ext HX.out) hYl (by have := good_few HG.out Y; omega))
    obtain ⟨M, hM⟩ : ∃ M, M = nodesL S (S.getD Y []) := ⟨_, rfl⟩
    rw [← hM] at HN
    have hml : M.length ≤ 1000 := by rw [hM]; exact nodesL_few HG.out _
    have Hr : Hid (idleV P S x = decide (M.length = 0)) := hid (by unfold idleV; rw [hk1, cond_true, hY, Int.toNat_natCast, hM])
    rw [hY] at e2 s2 s0 s1
    have HVz : Hid (V = (w.alloc (.cells #[.slice a1 P.vars.length c1, .slice a2 P.funs.length c2, .slice (some y) P.stmts.length c3] 39)).alloc (.cells #[.string x.kind, .int .i64 x.x, .int .i64 (Y : Int), .slice aa x.args.length ca] 48)) := hid (by rw [HVe.out, hY])
    clear hk1 hyv hnv
    have hb := len_zero M.length
    obtain ⟨d, hd⟩ : ∃ d, d = decide (M.length = 0) := ⟨_, rfl⟩
    rw [← hd] at hb
    have Hd := hid hd
    clear hM hd
    go_enter Tryz.func73, Tryz.ntmps73
    go_wp2_with fail
    rw [← HVz.out]
    refine HN.out.mono ?_
    intro e w2 hx
    obtain ⟨v2, rfl, hr2, hx2⟩ := hx
    obtain ⟨am, cm, rfl⟩ := hr2.form
    have Hx2 := hid (HX.out.trans hx2)
    clear HN hr2 hx2 s0 s1 s2 e0 e1 e2 e3 d2
    go_wp2
    go_ret
    exact ⟨by rw [Hr.out, ← Hd.out]; rfl, Hx2.out⟩
  | false =>
  cases h2 : (x.kind.toList == [115, 116, 111, 114, 101]) with
  | true =>
    have hk1 : x.isK kStore = true := h2
    have hxv := hgd.gx
    obtain ⟨Y, hY⟩ := Int.eq_ofNat_of_zero_le hxv.1
    have hnv := nodes_vars P
    have hYl : Y < S.length := by have := HG.out.2.1; omega
    have HN := hid (callsnodes_any ah ch S Y V n0 (HH.out.ext HX.out) hYl (by have := good_few HG.out Y; omega))
    obtain ⟨M, hM⟩ : ∃ M, M = nodesL S (S.getD Y []) := ⟨_, rfl⟩
    rw [← hM] at HN
    have hml : M.length ≤ 1000 := by rw [hM]; exact nodesL_few HG.out _
    have Hr : Hid (idleV P S x = decide (M.length = 0)) := hid (by unfold idleV; rw [isK_ne hk1 (by decide), cond_false, hk1, cond_true, hY, Int.toNat_natCast, hM])
    rw [hY] at e1 s2 s0 s1
    have HVz : Hid (V = (w.alloc (.cells #[.slice a1 P.vars.length c1, .slice a2 P.funs.length c2, .slice (some y) P.stmts.length c3] 39)).alloc (.cells #[.string x.kind, .int .i64 (Y : Int), .int .i64 x.y, .slice aa x.args.length ca] 48)) := hid (by rw [HVe.out, hY])
    clear hk1 hxv hnv
    have hb := len_zero M.length
    obtain ⟨d, hd⟩ : ∃ d, d = decide (M.length = 0) := ⟨_, rfl⟩
    rw [← hd] at hb
    have Hd := hid hd
    clear hM hd
    go_enter Tryz.func73, Tryz.ntmps73
    go_wp2_with fail
    rw [← HVz.out]
    refine HN.out.mono ?_
    intro e w2 hx
    obtain ⟨v2, rfl, hr2, hx2⟩ := hx
    obtain ⟨am, cm, rfl⟩ := hr2.form
    have Hx2 := hid (HX.out.trans hx2)
    clear HN hr2 hx2 s0 s1 s2 e0 e1 e2 e3 d2
    go_wp2
    go_ret
    exact ⟨by rw [Hr.out, ← Hd.out]; rfl, Hx2.out⟩
  | false =>
  cases h3 : (x.kind.toList == [99, 97, 108, 108]) with
  | true =>
    have hk1 : x.isK kCall = true := h3
    have HN := hid (callscalled_any a1 a2 (some y) c1 c2 c3 P ah ch S k x V n0 ad (HPW.out.ext HX.out) (HH.out.ext HX.out) HG.out Hk.out (Nat.le_trans hn0 HX.out.size))
    obtain ⟨M, hM⟩ : ∃ M, M = calledL P S x := ⟨_, rfl⟩
    rw [← hM] at HN
    have hml : M.length ≤ 1000 := by rw [hM]; exact calledL_len HG.out _
    have Hr : Hid (idleV P S x = decide (M.length = 0)) := hid (by unfold idleV; rw [isK_ne hk1 (by decide), cond_false, isK_ne hk1 (by decide), cond_false, hk1, cond_true, hM])
    have p0 := HBp.out.av 0 rfl
    have p1 := HBp.out.av 1 rfl
    have p2 := HBp.out.av 2 rfl
    simp only [pcells, List.getElem_toArray, List.getElem_cons_zero, List.getElem_cons_succ] at p0 p1 p2
    rw [HVe.out] at p0 p1 p2
    unfold pval at HN
    clear hk1
    have hb := len_zero M.length
    obtain ⟨d, hd⟩ : ∃ d, d = decide (M.length = 0) := ⟨_, rfl⟩
    rw [← hd] at hb
    have Hd := hid hd
    clear hM hd
    go_enter Tryz.func73, Tryz.ntmps73
    go_wp2_with fail
    rw [← HVe.out]
    refine HN.out.mono ?_
    clear p0 p1 p2
    intro e w2 hx
    obtain ⟨v2, rfl, hr2, hx2⟩ := hx
    obtain ⟨am, cm, rfl⟩ := hr2.form
    have Hx2 := hid (HX.out.trans hx2)
    clear HN hr2 hx2 s0 s1 s2 e0 e1 e2 e3 d2
    go_wp2
    go_ret
    exact ⟨by rw [Hr.out, ← Hd.out]; rfl, Hx2.out⟩
  | false =>
    have Hr : Hid (idleV P S x = false) := hid (by unfold idleV PS.isK kLoad kStore kCall; rw [h1, h2, h3]; rfl)
    go_enter Tryz.func73, Tryz.ntmps73
    go_wp2
    rw [← HVe.out]
    go_ret
    exact ⟨by rw [Hr.out]; rfl, HX.out⟩
/-- Statements that can do nothing. -/
def idleUp (P : PP) (S : List (List Int)) (n : Nat) : List Int := ((List.range n).filter fun k => idleV P S (P.stAt k)).map fun k : Nat => (k : Int)
theorem idleUp_succ (P : PP) (S : List (List Int)) (n : Nat) : idleUp P S (n + 1) = idleUp P S n ++ (if idleV P S (P.stAt n) = true then [(n : Int)] else []) := by
  unfold idleUp
  rw [List.range_succ, List.filter_append, List.map_append]
  cases h : idleV P S (P.stAt n) <;> simp [h, List.filter_cons]
def idleL (P : PP) (S : List (List Int)) : List Int := idleUp P S P.stmts.length
set_option maxRecDepth 100000 in
set_option maxHeartbeats 1600000 in
theorem callsidle_no (a1 a2 a3 : Option Addr) (c1 c2 c3 : Nat) (P : PP) (w : World) (n0 : Nat) (ad : Nat → Addr) (h : PS0 w n0 ad a1 a2 a3 c1 c2 c3 P) (hn : n0 ≤ w.heap.size) (hw : ¬ P.Well) :
    Calls Tryz.prog 29 #[pval a1 a2 a3 c1 c2 c3 P] w fun e w' => ∃ t z, e = .returned (.tuple #[.slice none 0 0, .iface t (.pointer (some z))]) ∧ ErrIs ad P w' (.iface t (.pointer (some z))) ∧ Ext w w' := by
  obtain ⟨W, hW⟩ : ∃ W, W = w.alloc (.cells (pcells a1 a2 a3 c1 c2 c3 P) 39) := ⟨_, rfl⟩
  have HX : Hid (Ext w W) := hid (by rw [hW]; exact (Ext.refl _).alloc _)
  have HBx : Hid (Blk W w.heap.size (pcells a1 a2 a3 c1 c2 c3 P) 39) := hid (by rw [hW]; exact Blk.new _ _ _)
  have HWe : Hid (W = w.alloc (.cells #[.slice a1 P.vars.length c1, .slice a2 P.funs.length c2, .slice a3 P.stmts.length c3] 39)) := hid (by rw [hW]; rfl)
  have d0 := HBx.out.av 0 rfl
  have d1 := HBx.out.av 1 rfl
  have d2 := HBx.out.av 2 rfl
  simp only [pcells, List.getElem_toArray, List.getElem_cons_zero, List.getElem_cons_succ] at d0 d1 d2
  rw [HWe.out] at d0 d1 d2
  have HL := hid (fixleast_no a1 a2 a3 c1 c2 c3 P W W.heap.size ad (h.on hn HX.out) hw)
  clear h hw
  unfold pval at HL ⊢
  clear hW
  go_enter Tryz.func29, Tryz.ntmps29
  go_wp2_with fail
  rw [← HWe.out]
  refine HL.out.mono ?_
  intro e w1 hx
  obtain ⟨t, z, rfl, hei, hx1⟩ := hx
  have Hei := hid hei
  have Hx1 := hid (HX.out.trans hx1)
  clear HL hei hx1 d0 d1 d2
  go_wp2
  go_ret2
  exact ⟨t, z, rfl, Hei.out, Hx1.out⟩
set_option maxRecDepth 100000 in
set_option maxHeartbeats 3200000 in
theorem callsidle_ok (a1 a2 a3 : Option Addr) (c1 c2 c3 : Nat) (P : PP) (w : World) (ad : Nat → Addr) (h : PW w w.heap.size ad a1 a2 a3 c1 c2 c3 P) (hS : ErrS w ad) (n : Nat) (S : List (List Int)) (hL : LeastAt P n S) :
    Calls Tryz.prog 29 #[pval a1 a2 a3 c1 c2 c3 P] w fun e w' => ∃ a c, e = .returned (.tuple #[.slice a (idleL P S).length c, .nilIface]) ∧ IRow w.heap.size w' (.slice a (idleL P S).length c) (idleL P S) ∧ Ext w w' := by
  have HG := hid (hL.good h.well)
  have HSl := hid HG.out.2.1
  have hsl : P.stmts.length ≤ 80 := h.well.few.2.2
  have HPW := hid h
  obtain ⟨W, hW⟩ : ∃ W, W = w.alloc (.cells (pcells a1 a2 a3 c1 c2 c3 P) 39) := ⟨_, rfl⟩
  have HX : Hid (Ext w W) := hid (by rw [hW]; exact (Ext.refl _).alloc _)
  have HBx : Hid (Blk W w.heap.size (pcells a1 a2 a3 c1 c2 c3 P) 39) := hid (by rw [hW]; exact Blk.new _ _ _)
  have HWe : Hid (W = w.alloc (.cells #[.slice a1 P.vars.length c1, .slice a2 P.funs.length c2, .slice a3 P.stmts.length c3] 39)) := hid (by rw [hW]; rfl)
  have d0 := HBx.out.av 0 rfl
  have d1 := HBx.out.av 1 rfl
  have d2 := HBx.out.av 2 rfl
  simp only [pcells, List.getElem_toArray, List.getElem_cons_zero, List.getElem_cons_succ] at d0 d1 d2
  rw [HWe.out] at d0 d1 d2
  have HL := hid (fixleast_ok a1 a2 a3 c1 c2 c3 P W ad ((h.ext HX.out).lift HX.out.size) (hS.ext HX.out) n S hL)
  rw [← HSl.out] at HL
  clear h hS hL
  unfold pval at HL ⊢
  clear hW
  go_enter Tryz.func29, Tryz.ntmps29
  go_wp2_with fail
  rw [← HWe.out]
  refine HL.out.mono ?_
  intro e w1 hx
  obtain ⟨a, c, rfl, hs, hx1⟩ := hx
  have Hs1 := hid hs
  have Hx1 := hid (HX.out.trans hx1)
  have HCl := fun k x w2 (y : Ext w1 w2) (hk : P.stmts[k]? = some x) => hid (callsidle1_any a1 a2 a3 c1 c2 c3 P a c S k x w2 w2.heap.size ad ((HPW.out.ext (Hx1.out.trans y)).lift (Hx1.out.trans y).size) ((Hs1.out.ext y).lift y.size) HG.out hk (Nat.le_refl _))
  unfold pval at HCl
  have d2 := (HBx.out.ext hx1).av 2 rfl
  simp only [pcells, List.getElem_toArray, List.getElem_cons_zero, List.getElem_cons_succ] at d2
  have Hx1W := hid hx1
  clear HL hs hx1 d0 d1
  go_wp2
  clear d2
  go_loopw [7, 21] (fun t7 t21 wr => ∃ (k : Nat) (M : List Int), t21 = .int .i64 (k : Int) ∧ k ≤ P.stmts.length ∧ M = idleUp P S k ∧ M.length ≤ k ∧ IRow w1.heap.size wr t7 M ∧ Ext w1 wr) (fun _ t21 _ => P.stmts.length - (intOf t21).toNat)
  case atStart => exact ⟨0, [], rfl, Nat.zero_le _, rfl, Nat.zero_le _, IRow.nil _ _, Ext.refl _⟩
  case round =>
    obtain ⟨k, M, rfl, hk, hM, hMl, hr, hx⟩ := hrel
    obtain ⟨a7, c7, rfl⟩ := hr.form
    have Hr7 := hid hr
    have Hx := hid hx
    have HMe := hid hM
    clear hr hx hM
    by_cases hlt : k < P.stmts.length
    · have HC := HCl k _ wr Hx.out (stAt_some hlt)
      have hn := idleUp_succ P S k
      obtain ⟨d, hd⟩ : ∃ d, d = idleV P S (P.stAt k) := ⟨_, rfl⟩
      rw [← hd] at HC hn
      have Hn := hid hn
      have d0 := (HBx.out.ext (Hx1W.out.trans Hx.out)).av 0 rfl
      have d1 := (HBx.out.ext (Hx1W.out.trans Hx.out)).av 1 rfl
      have d2 := (HBx.out.ext (Hx1W.out.trans Hx.out)).av 2 rfl
      simp only [pcells, List.getElem_toArray, List.getElem_cons_zero, List.getElem_cons_succ] at d0 d1 d2
      clear hd hn
      go_wp2_with fail
      refine HC.out.mono ?_
      intro e w2 hx
      obtain ⟨rfl, hx2⟩ := hx
      have Hx2 := hid (Hx.out.trans hx2)
      have Hr2 := hid (Hr7.out.ext hx2)
      clear HC hx2 d0 d1 d2
      cases d with
      | false =>
        have Hn2 : Hid (idleUp P S (k + 1) = M) := hid (by rw [Hn.out, HMe.out]; simp)
        go_wp2
        go_roundw
        case rel => exact ⟨k + 1, M, by go_num, by omega, Hn2.out.symm, by omega, Hr2.out, Hx2.out⟩
        case measure => simp [intOf]; omega
      | true =>
        have Hn2 : Hid (idleUp P S (k + 1) = M ++ [(k : Int)]) := hid (by rw [Hn.out, HMe.out]; simp)
        have hxa : Hid (Ext w1 (w2.alloc (.cells #[.int .i64 (k : Int)] 3))) := hid (Hx2.out.alloc _)
        have Hra : Hid (IRow w1.heap.size (w2.alloc (.cells #[.int .i64 (k : Int)] 3)) (.slice a7 M.length c7) M) := hid (Hr2.out.ext ((Ext.refl _).alloc _))
        go_wp2_with (at_builtin; refine wpList_append_el w1.heap.size hxa.out.size 22 3 (.int .i64 0) 1 8 Tryz.underlying22 ints_info rfl (by omega) (by omega) rfl _ _ rfl (.slice a7 M.length c7) M.length (icells M) rfl Hra.out w2.heap.size [.int .i64 (k : Int)] rfl (by simp [Value.oneCell']) rfl (Blk.new _ _ _) (by omega) ?_; intro v' w' h1 h2 h4; obtain ⟨a', c', rfl⟩ := row_form h1; have h3 := hid (Keep.new hxa.out h2 (fun k hk => (Hra.out.lt hk).1)); have h1 := hid h1; clear h2 h4)
        go_roundw
        case rel => exact ⟨k + 1, M ++ [(k : Int)], by go_num, by omega, Hn2.out.symm, by rw [List.length_append]; simp; omega, by have := h1.out; unfold IRow; rw [icells_append, List.length_append]; exact this, h3.out⟩
        case measure => simp [intOf]; omega
    · obtain rfl : k = P.stmts.length := by omega
      have HGn : Hid (idleL P S = M) := hid HMe.out.symm
      go_wp2
      go_ret2
      exact ⟨a7, c7, by rw [HGn.out]; rfl, by rw [HGn.out]; exact own_low Hr7.out (Nat.le_trans HX.out.size Hx1W.out.size), Hx1.out.trans Hx.out⟩
end Go.Proofs.YtoaoienfggjepaaGreatDoor



/- Runs, plainly: whatever a run does, what a variable or a thing has is one of its node's objects. -/
namespace Go.Proofs.YtoaoienfggjepaaGreatDoor
set_option linter.unusedSimpArgs false
set_option linter.unusedVariables false
open Go Go.RowKit

def vkNone : List UInt8 := [110, 111, 110, 101]
/-- The node of a thing. -/
def Rn.atN (P : PP) (s : Rn) (j : Nat) : Nat := P.vars.length + P.newsN (s.places.getD j 0)
/-- The object of a value. -/
def Rn.oN (P : PP) (s : Rn) : Vl → Nat
  | .none => 0
  | .var n => n
  | .thing n => s.atN P n
  | .fn n => P.nodesV + n
/-- Is a value one of a node's? -/
def Hs (P : PP) (S : List (List Int)) (s : Rn) (i : Nat) (v : Vl) : Prop := v ≠ .none → ((s.oN P v : Nat) : Int) ∈ S.getD i []
theorem Hs.none {P : PP} {S : List (List Int)} {s : Rn} {i : Nat} : Hs P S s i .none := fun h => absurd rfl h
theorem Hs.to {P : PP} {S : List (List Int)} {s : Rn} {i j : Nat} {v : Vl} (h : Hs P S s i v) (hs : ∀ n ∈ S.getD i [], n ∈ S.getD j []) : Hs P S s j v := fun g => hs _ (h g)
theorem Hs.same {P : PP} {S : List (List Int)} {s t : Rn} {i : Nat} {v : Vl} (h : Hs P S s i v) (e : t.oN P v = s.oN P v) : Hs P S t i v := fun g => by rw [e]; exact h g
theorem oN_set (P : PP) (s : Rn) (n : Int) (u v : Vl) : (s.set n u).oN P v = s.oN P v := by cases v <;> rfl
theorem oN_put (P : PP) (s : Rn) (c u v : Vl) : (s.put c u).oN P v = s.oN P v := by cases c <;> cases v <;> rfl
structure Sound (P : PP) (S : List (List Int)) (s : Rn) : Prop where
  ok : s.Ok P
  pl : ∀ (j k : Nat), s.places[j]? = some k → k < P.stmts.length ∧ P.isNew k = true
  vars : ∀ i, Hs P S s i (s.vars.getD i .none)
  things : ∀ j, Hs P S s (s.atN P j) (s.things.getD j .none)
theorem getD_set_cases (l : List Vl) (n i : Nat) (v d : Vl) : (l.set n v).getD i d = l.getD i d ∨ (n = i ∧ (l.set n v).getD i d = v) := by
  rw [List.getD_eq_getElem?_getD, List.getD_eq_getElem?_getD, List.getElem?_set]
  by_cases h : n = i
  · subst h
    by_cases hl : n < l.length
    · right
      simp [hl]
    · left
      rw [if_pos rfl, if_neg hl, List.getElem?_eq_none (by omega)]
  · left
    rw [if_neg h]
theorem Sound.set {P : PP} {S : List (List Int)} {s : Rn} (h : Sound P S s) (n : Int) {v : Vl} (hv : v.In P.vars.length s.things.length P.funs.length) (hh : Hs P S s n.toNat v) : Sound P S (s.set n v) := by
  refine ⟨h.ok.set n hv, h.pl, fun i => ?_, fun j => (h.things j).same (oN_set _ _ _ _ _)⟩
  show Hs P S (s.set n v) i ((s.vars.set n.toNat v).getD i .none)
  rcases getD_set_cases s.vars n.toNat i v .none with e | ⟨rfl, e⟩
  · rw [e]; exact (h.vars i).same (oN_set _ _ _ _ _)
  · rw [e]; exact hh.same (oN_set _ _ _ _ _)
/-- The node of a place that is pointed to. -/
def Rn.cN (P : PP) (s : Rn) : Vl → Nat
  | .var n => n
  | .thing n => s.atN P n
  | _ => 0
theorem Sound.put {P : PP} {S : List (List Int)} {s : Rn} (h : Sound P S s) (c : Vl) {v : Vl} (hv : v.In P.vars.length s.things.length P.funs.length) (hh : c.isAddr = true → Hs P S s (s.cN P c) v) : Sound P S (s.put c v) := by
  cases c with
  | none => exact h
  | fn n => exact h
  | var n =>
    have hh := hh rfl
    refine ⟨h.ok.put _ hv, h.pl, fun i => ?_, fun j => (h.things j).same (oN_put P s (.var n) v _)⟩
    show Hs P S (s.put (.var n) v) i ((s.vars.set n v).getD i .none)
    rcases getD_set_cases s.vars n i v .none with e | ⟨rfl, e⟩
    · rw [e]; exact (h.vars i).same (oN_put _ _ _ _ _)
    · rw [e]; exact hh.same (oN_put _ _ _ _ _)
  | thing n =>
    have hh := hh rfl
    refine ⟨h.ok.put _ hv, h.pl, fun i => (h.vars i).same (oN_put P s (.thing n) v _), fun j => ?_⟩
    show Hs P S (s.put (.thing n) v) (s.atN P j) ((s.things.set n v).getD j .none)
    rcases getD_set_cases s.things n j v .none with e | ⟨rfl, e⟩
    · rw [e]; exact (h.things j).same (oN_put _ _ _ _ _)
    · rw [e]; exact hh.same (oN_put _ _ _ _ _)

/-- The answer is closed under a statement's edges. -/
theorem ClosedP.sedge {P : PP} {S : List (List Int)} (hc : ClosedP P S) {x : PS} (hx : x ∈ P.stmts) {a b : Int} (he : (a, b) ∈ P.sedges x S) : ∀ n ∈ S.getD a.toNat [], n ∈ S.getD b.toNat [] := by
  by_cases hab : a = b
  · subst hab; exact fun n h => h
  · exact hc.edge (a, b) (mem_edges0.2 ⟨x, hx, he⟩) hab
theorem kind_of {x : PS} {a : List UInt8} (h : x.isK a = true) : x.kind.toList = a := eq_of_beq h
theorem sedges_of {P : PP} {x : PS} {S : List (List Int)} (h1 : x.isK kAddr = false) (h2 : x.isK kNew = false) (h3 : x.isK kFun = false) (h4 : x.isK kCall = false) : P.sedges x S = P.redges ⟨x.kind, x.y, x.x, 0, []⟩ S := by
  unfold PP.sedges PP.ruleV
  rw [h1, h2, h3, h4]; rfl
theorem sedge_copy {P : PP} {x : PS} {S : List (List Int)} (h : x.isK kCopy = true) : (x.y, x.x) ∈ P.sedges x S := by
  rw [sedges_of (isK_ne h (by decide)) (isK_ne h (by decide)) (isK_ne h (by decide)) (isK_ne h (by decide))]
  unfold PP.redges
  simp only [kind_of h]
  exact List.mem_singleton.2 rfl
theorem sedge_load {P : PP} {x : PS} {S : List (List Int)} (h : x.isK kLoad = true) {o : Int} (ho : o ∈ S.getD x.y.toNat []) (hn : o < P.nodesV) : (o, x.x) ∈ P.sedges x S := by
  rw [sedges_of (isK_ne h (by decide)) (isK_ne h (by decide)) (isK_ne h (by decide)) (isK_ne h (by decide))]
  unfold PP.redges PP.nodesOf
  simp only [kind_of h]
  refine List.mem_map.2 ⟨o, List.mem_filter.2 ⟨ho, ?_⟩, rfl⟩
  rw [decide_eq_false (by omega)]; rfl
theorem sedge_store {P : PP} {x : PS} {S : List (List Int)} (h : x.isK kStore = true) {o : Int} (ho : o ∈ S.getD x.x.toNat []) (hn : o < P.nodesV) : (x.y, o) ∈ P.sedges x S := by
  rw [sedges_of (isK_ne h (by decide)) (isK_ne h (by decide)) (isK_ne h (by decide)) (isK_ne h (by decide))]
  unfold PP.redges PP.nodesOf
  simp only [kind_of h]
  refine List.mem_map.2 ⟨o, List.mem_filter.2 ⟨ho, ?_⟩, rfl⟩
  rw [decide_eq_false (by omega)]; rfl
theorem funV_of {P : PP} {n : Nat} (hn : n < P.funs.length) : P.funV ((P.nodesV + n : Nat) : Int) = n := by
  unfold PP.funV
  rw [if_pos (by omega)]; omega
theorem sedge_call {P : PP} {x : PS} {S : List (List Int)} (h : x.isK kCall = true) {n : Nat} {f : PF} (hf : P.funs[n]? = some f) (ho : ((P.nodesV + n : Nat) : Int) ∈ S.getD x.y.toNat []) {e : Int × Int} (he : e ∈ calledV f ⟨bCall, x.y, x.x, 0, x.args⟩) : e ∈ P.sedges x S := by
  have hb : bCall.toList = kCall := by decide +kernel
  unfold PP.sedges PP.ruleV
  rw [isK_ne h (by decide : (kCall == kAddr) = false), isK_ne h (by decide : (kCall == kNew) = false), isK_ne h (by decide : (kCall == kFun) = false), h]
  unfold PP.redges
  simp only [cond_true, cond_false, hb]
  refine List.mem_flatMap.2 ⟨_, ho, ?_⟩
  have hn : n < P.funs.length := by
    rcases Nat.lt_or_ge n P.funs.length with g | g
    · exact g
    · rw [List.getElem?_eq_none g] at hf; cases hf
  unfold PP.callsOf
  rw [funV_of hn, if_pos (by omega)]
  have e1 : P.funs.getD ((n : Int)).toNat ⟨⟨#[]⟩, [], 0⟩ = f := by rw [Int.toNat_natCast, List.getD_eq_getElem?_getD, hf]; rfl
  rw [e1]
  exact he
theorem ClosedP.addr {P : PP} {S : List (List Int)} (hc : ClosedP P S) {k : Nat} {x : PS} (hk : P.stmts[k]? = some x) (h : x.isK kAddr = true) : x.y ∈ S.getD x.x.toNat [] := by
  have hl : k < P.stmts.length := by
    rcases Nat.lt_or_ge k P.stmts.length with g | g
    · exact g
    · rw [List.getElem?_eq_none g] at hk; cases hk
  have e : P.stAt k = x := Option.some.inj ((stAt_some hl).symm.trans hk)
  have hb := hc.base k hl
  rw [e] at hb
  unfold PP.ruleV at hb
  rw [h] at hb
  exact hb rfl
theorem ClosedP.new {P : PP} {S : List (List Int)} (hc : ClosedP P S) {k : Nat} {x : PS} (hk : P.stmts[k]? = some x) (h : x.isK kNew = true) : P.placeV k ∈ S.getD x.x.toNat [] := by
  have hl : k < P.stmts.length := by
    rcases Nat.lt_or_ge k P.stmts.length with g | g
    · exact g
    · rw [List.getElem?_eq_none g] at hk; cases hk
  have e : P.stAt k = x := Option.some.inj ((stAt_some hl).symm.trans hk)
  have hb := hc.base k hl
  rw [e] at hb
  unfold PP.ruleV at hb
  rw [isK_ne h (by decide : (kNew == kAddr) = false), h] at hb
  exact hb rfl
theorem ClosedP.fn {P : PP} {S : List (List Int)} (hc : ClosedP P S) {k : Nat} {x : PS} (hk : P.stmts[k]? = some x) (h : x.isK kFun = true) : (P.nodesV : Int) + x.y ∈ S.getD x.x.toNat [] := by
  have hl : k < P.stmts.length := by
    rcases Nat.lt_or_ge k P.stmts.length with g | g
    · exact g
    · rw [List.getElem?_eq_none g] at hk; cases hk
  have e : P.stAt k = x := Option.some.inj ((stAt_some hl).symm.trans hk)
  have hb := hc.base k hl
  rw [e] at hb
  unfold PP.ruleV at hb
  rw [isK_ne h (by decide : (kFun == kAddr) = false), isK_ne h (by decide : (kFun == kNew) = false), h] at hb
  exact hb rfl
theorem newsN_mono (P : PP) {a b : Nat} (h : a ≤ b) : P.newsN a ≤ P.newsN b := by
  induction b with
  | zero => rw [Nat.le_zero.1 h]; exact Nat.le_refl _
  | succ b ih =>
    rcases Nat.lt_or_ge b a with g | g
    · rw [show a = b + 1 by omega]; exact Nat.le_refl _
    · have := ih g
      rw [P.newsN_succ]; omega
/-- A thing's node is a node, and no variable's. -/
theorem Sound.at {P : PP} {S : List (List Int)} {s : Rn} (h : Sound P S s) {j : Nat} (hj : j < s.things.length) : P.vars.length ≤ s.atN P j ∧ s.atN P j < P.nodesV := by
  have hl : j < s.places.length := by rw [h.ok.lp]; exact hj
  have hp := List.getElem?_eq_getElem hl
  obtain ⟨h1, h2⟩ := h.pl j _ hp
  unfold Rn.atN PP.nodesV
  rw [List.getD_eq_getElem?_getD, hp]
  show _ ∧ P.vars.length + P.newsN (s.places[j]'hl) < _
  have h3 := P.newsN_succ (s.places[j]'hl)
  rw [h2] at h3
  have h4 := newsN_mono P (show s.places[j]'hl + 1 ≤ P.stmts.length from h1)
  simp only [if_true] at h3
  omega
theorem Hs.at {P : PP} {S : List (List Int)} {s : Rn} (h : Sound P S s) (n : Int) : Hs P S s n.toNat (s.at n) := h.vars n.toNat
/-- What a place that is pointed to has. -/
theorem Sound.get {P : PP} {S : List (List Int)} {s : Rn} (h : Sound P S s) (c : Vl) : Hs P S s (s.cN P c) (s.get c) := by
  cases c with
  | none => exact Hs.none
  | fn n => exact Hs.none
  | var n => exact h.vars n
  | thing n => exact h.things n
/-- The node of a place that is pointed to is one of the pointer's objects. -/
theorem Sound.cell {P : PP} {S : List (List Int)} {s : Rn} (h : Sound P S s) (n : Int) (hc : (s.at n).isAddr = true) : ((s.cN P (s.at n) : Nat) : Int) ∈ S.getD n.toNat [] ∧ s.cN P (s.at n) < P.nodesV := by
  have hi := h.ok.at n
  have hh := Hs.at h n
  generalize s.at n = c at *
  cases c with
  | none => cases hc
  | fn n => cases hc
  | var m =>
    refine ⟨hh (by intro e; cases e), ?_⟩
    have : m < P.vars.length := hi
    show m < _
    unfold PP.nodesV; omega
  | thing m => exact ⟨hh (by intro e; cases e), (h.at hi).2⟩
theorem Sound.give {P : PP} {S : List (List Int)} : ∀ (ps : List Int) (vs : List Vl) {s : Rn}, Sound P S s → (∀ v ∈ vs, v.In P.vars.length s.things.length P.funs.length) → (∀ (i : Nat) (p : Int) (v : Vl), ps[i]? = some p → vs[i]? = some v → Hs P S s p.toNat v) → Sound P S (s.give ps vs)
  | [], _, _, h, _, _ => h
  | _ :: _, [], _, h, _, _ => h
  | p :: ps, v :: vs, s, h, h1, h2 => Sound.give ps vs (h.set p (h1 v List.mem_cons_self) (h2 0 p v rfl rfl)) (fun u hu => h1 u (List.mem_cons_of_mem _ hu)) fun i q u hq hu => (h2 (i + 1) q u (by simpa using hq) (by simpa using hu)).same (oN_set _ _ _ _ _)
theorem Sound.begin (P : PP) (S : List (List Int)) : Sound P S (Rn.begin P) := by
  refine ⟨Rn.Ok.begin P, fun j k h => (by cases h), fun i => ?_, fun j => Hs.none⟩
  have : (Rn.begin P).vars.getD i .none = .none := by
    show (List.replicate _ Vl.none).getD i .none = .none
    rw [List.getD_eq_getElem?_getD, List.getElem?_replicate]
    split <;> rfl
  rw [this]
  exact Hs.none
theorem oN_new {P : PP} {s : Rn} (h : s.Ok P) {vs ts : List Vl} (k : Nat) {v : Vl} (hv : v.In P.vars.length s.things.length P.funs.length) : Rn.oN P ⟨vs, ts, s.places ++ [k]⟩ v = s.oN P v := by
  cases v with
  | none => rfl
  | var n => rfl
  | fn n => rfl
  | thing n =>
    have hn : n < s.things.length := hv
    show P.vars.length + P.newsN ((s.places ++ [k]).getD n 0) = P.vars.length + P.newsN (s.places.getD n 0)
    rw [List.getD_eq_getElem?_getD, List.getElem?_append_left (by rw [h.lp]; exact hn), ← List.getD_eq_getElem?_getD]
theorem Ok_getD {P : PP} {s : Rn} (h : s.Ok P) (i : Nat) : (s.vars.getD i .none).In P.vars.length s.things.length P.funs.length := by
  have := h.at (i : Int)
  unfold Rn.at at this
  rwa [Int.toNat_natCast] at this
theorem Ok_getT {P : PP} {s : Rn} (h : s.Ok P) (i : Nat) : (s.things.getD i .none).In P.vars.length s.things.length P.funs.length := h.get (.thing i)
/-- A statement keeps what is sound. -/
theorem Sound.stmt {P : PP} {S : List (List Int)} {s : Rn} (hw : P.Well) (hc : ClosedP P S) (h : Sound P S s) {k : Nat} {x : PS} (hk : P.stmts[k]? = some x) : Sound P S (s.stmt P k x) := by
  have hkl : k < P.stmts.length := by
    rcases Nat.lt_or_ge k P.stmts.length with g | g
    · exact g
    · rw [List.getElem?_eq_none g] at hk; cases hk
  have hg := PP.good (hw.2 k x hkl hk)
  have hx : x ∈ P.stmts := List.mem_of_getElem? hk
  have hok := h.ok.stmt k hg
  unfold Rn.stmt at hok ⊢
  cases h1 : x.isK kAddr with
  | true =>
    have hy := hg.yv (isK_ne h1 (by decide)) (isK_ne h1 (by decide))
    refine h.set x.x (show x.y.toNat < P.vars.length by omega) fun _ => ?_
    have := hc.addr hk h1
    have e : ((x.y.toNat : Nat) : Int) = x.y := Int.toNat_of_nonneg hy.1
    show ((x.y.toNat : Nat) : Int) ∈ _
    rw [e]; exact this
  | false =>
  cases h2 : x.isK kCopy with
  | true => exact h.set x.x (h.ok.at _) ((Hs.at h x.y).to (hc.sedge hx (sedge_copy h2)))
  | false =>
  cases h3 : x.isK kLoad with
  | true =>
    simp only [cond_true, cond_false]
    cases h4 : (s.at x.y).isAddr with
    | false => exact h
    | true =>
      obtain ⟨g1, g2⟩ := h.cell x.y h4
      refine h.set x.x (h.ok.get _) ((h.get _).to ?_)
      have := hc.sedge hx (sedge_load h3 g1 (by omega))
      rwa [Int.toNat_natCast] at this
  | false =>
  cases h4 : x.isK kStore with
  | true =>
    simp only [cond_true, cond_false]
    refine h.put _ (h.ok.at _) fun hca => ?_
    obtain ⟨g1, g2⟩ := h.cell x.x hca
    refine (Hs.at h x.y).to ?_
    have := hc.sedge hx (sedge_store h4 g1 (by omega))
    rwa [Int.toNat_natCast] at this
  | false =>
  cases h5 : x.isK kNew with
  | true =>
    rw [h1, h2, h3, h4, h5] at hok
    simp only [cond_true, cond_false] at hok ⊢
    have hpl : P.isNew k = true := (isNew_at hk).trans h5
    have hlast : ∀ vs ts, Rn.atN P ⟨vs, ts, s.places ++ [k]⟩ s.things.length = P.vars.length + P.newsN k := fun vs ts => by
      show P.vars.length + P.newsN ((s.places ++ [k]).getD s.things.length 0) = _
      rw [List.getD_eq_getElem?_getD, ← h.ok.lp, List.getElem?_concat_length]; rfl
    refine ⟨hok, fun j q hq => ?_, fun i => ?_, fun j => ?_⟩
    · have hq : (s.places ++ [k])[j]? = some q := hq
      rcases Nat.lt_or_ge j s.places.length with g | g
      · rw [List.getElem?_append_left g] at hq; exact h.pl j q hq
      · rw [List.getElem?_append_right g] at hq
        have : j - s.places.length = 0 := by
          rcases Nat.eq_zero_or_pos (j - s.places.length) with g | g
          · exact g
          · rw [List.getElem?_eq_none (by simp; omega)] at hq; cases hq
        rw [this] at hq
        obtain rfl := Option.some.inj hq
        exact ⟨hkl, hpl⟩
    · show Hs P S _ i ((s.vars.set x.x.toNat (.thing s.things.length)).getD i .none)
      rcases getD_set_cases s.vars x.x.toNat i (.thing s.things.length) .none with e | ⟨rfl, e⟩
      · rw [e]; exact (h.vars i).same (oN_new h.ok k (Ok_getD h.ok i))
      · rw [e]
        intro _
        have hp := hc.new hk h5
        unfold PP.placeV at hp
        rw [if_pos ⟨by omega, by omega, by rw [Int.toNat_natCast]; exact hpl⟩, Int.toNat_natCast] at hp
        show ((Rn.atN P ⟨_, _, s.places ++ [k]⟩ s.things.length : Nat) : Int) ∈ _
        rw [hlast]
        exact hp
    · show Hs P S _ (Rn.atN P ⟨_, _, s.places ++ [k]⟩ j) ((s.things ++ [Vl.none]).getD j Vl.none)
      rcases Nat.lt_or_ge j s.things.length with g | g
      · have e1 : (s.things ++ [Vl.none]).getD j .none = s.things.getD j .none := by
          rw [List.getD_eq_getElem?_getD, List.getElem?_append_left g, ← List.getD_eq_getElem?_getD]
        have e2 : Rn.atN P ⟨(s.set x.x (.thing s.things.length)).vars, s.things ++ [Vl.none], s.places ++ [k]⟩ j = s.atN P j := oN_new h.ok k (v := .thing j) g
        rw [e1, e2]
        exact (h.things j).same (oN_new h.ok k (Ok_getT h.ok j))
      · have e1 : (s.things ++ [Vl.none]).getD j .none = .none := by
          rw [List.getD_eq_getElem?_getD, List.getElem?_append_right g]
          cases j - s.things.length <;> rfl
        rw [e1]; exact Hs.none
  | false =>
  cases h6 : x.isK kFun with
  | true =>
    have hy := hg.yf h6
    refine h.set x.x (show x.y.toNat < P.funs.length by omega) fun _ => ?_
    have := hc.fn hk h6
    show ((P.nodesV + x.y.toNat : Nat) : Int) ∈ _
    rw [show ((P.nodesV + x.y.toNat : Nat) : Int) = (P.nodesV : Int) + x.y by omega]; exact this
  | false =>
  cases h7 : x.isK kCall with
  | false => exact h
  | true =>
    simp only [cond_true, cond_false]
    unfold Rn.call
    have hh := Hs.at h x.y
    have hi := h.ok.at x.y
    generalize s.at x.y = c at *
    cases c with
    | none => exact h
    | var n => exact h
    | thing n => exact h
    | fn n =>
      have hn : n < P.funs.length := hi
      have ho := hh (by intro e; cases e)
      have hf := List.getElem?_eq_getElem hn
      obtain ⟨f, hfe⟩ : ∃ f, P.funs[n]? = some f := ⟨_, hf⟩
      simp only [hfe]
      unfold Rn.callF
      split
      case isFalse => exact h
      case isTrue hlen =>
        have hed : ∀ e ∈ calledV f ⟨bCall, x.y, x.x, 0, x.args⟩, ∀ n ∈ S.getD e.1.toNat [], n ∈ S.getD e.2.toNat [] := fun e he => hc.sedge hx (sedge_call h7 hfe ho he)
        unfold calledV at hed
        rw [if_pos hlen] at hed
        have hgv : Sound P S (s.give f.params (x.args.map s.at)) := by
          refine Sound.give _ _ h (fun v hv => ?_) fun i p v hp hv => ?_
          · obtain ⟨a, _, rfl⟩ := List.mem_map.1 hv
            exact h.ok.at a
          · rw [List.getElem?_map] at hv
            cases ha : x.args[i]? with
            | none => rw [ha] at hv; cases hv
            | some a =>
              rw [ha] at hv
              obtain rfl := Option.some.inj hv
              exact (Hs.at h a).to (hed (a, p) (List.mem_cons_of_mem _ (List.mem_of_getElem? (List.getElem?_zip_eq_some.2 ⟨ha, hp⟩))))
        exact hgv.set x.x (hgv.ok.at _) ((Hs.at hgv f.ret).to (hed _ List.mem_cons_self))
theorem Sound.foldl {P : PP} {S : List (List Int)} (hw : P.Well) (hc : ClosedP P S) : ∀ (l : List Nat) (s : Rn), Sound P S s → Sound P S (l.foldl (Rn.step P) s)
  | [], _, h => h
  | k :: l, s, h => by
    refine Sound.foldl hw hc l _ ?_
    unfold Rn.step
    cases hk : P.stmts[k]? with
    | none => exact h
    | some x => exact h.stmt hw hc hk
/-- Whatever a run does, what it has is in the answer. -/
theorem Sound.run {P : PP} {S : List (List Int)} (hw : P.Well) (hc : ClosedP P S) (l : List Nat) : Sound P S (Rn.run P l) := Sound.foldl hw hc l _ (Sound.begin P S)
end Go.Proofs.YtoaoienfggjepaaGreatDoor



/- The reference: who may be called by a statement (CalledOf). -/
namespace Go.Proofs.YtoaoienfggjepaaGreatDoor
set_option linter.unusedSimpArgs false
set_option linter.unusedVariables false
open Go Go.RowKit

/-- Is function f one that a statement may call? (as the reference asks) -/
def PP.fitsR (P : PP) (S : List (List Int)) (x : PS) (f : Nat) : Bool := decide (((P.nodesV + f : Nat) : Int) ∈ S.getD x.y.toNat []) && decide ((P.funs.getD f ⟨⟨#[]⟩, [], 0⟩).params.length = x.args.length)
def calledUp (P : PP) (S : List (List Int)) (x : PS) (n : Nat) : List Int := ((List.range n).filter (P.fitsR S x)).map fun k : Nat => (k : Int)
theorem calledUp_succ (P : PP) (S : List (List Int)) (x : PS) (n : Nat) : calledUp P S x (n + 1) = calledUp P S x n ++ (if P.fitsR S x n = true then [(n : Int)] else []) := by
  unfold calledUp
  rw [List.range_succ, List.filter_append, List.map_append]
  cases h : P.fitsR S x n <;> simp [h, List.filter_cons]
theorem fitsV_iff {P : PP} {x : PS} {o : Int} : P.fitsV x o = true ↔ ∃ n : Nat, n < P.funs.length ∧ o = ((P.nodesV + n : Nat) : Int) ∧ (P.funs.getD n ⟨⟨#[]⟩, [], 0⟩).params.length = x.args.length := by
  unfold PP.fitsV
  rw [Bool.and_eq_true]
  constructor
  · rintro ⟨h1, h2⟩
    have h1 : 0 ≤ P.funV o := of_decide_eq_true h1
    have h2 := of_decide_eq_true h2
    have h3 := funV_lt h1
    refine ⟨(P.funV o).toNat, by omega, ?_, h2⟩
    unfold PP.funV at h1 h3 ⊢
    by_cases hc : 0 ≤ o - P.nodesV ∧ o - P.nodesV < P.funs.length
    · rw [if_pos hc]; omega
    · rw [if_neg hc] at h1; omega
  · rintro ⟨n, hn, rfl, h⟩
    rw [funV_of hn]
    exact ⟨decide_eq_true (by omega), decide_eq_true h⟩
theorem calledUp_eq {P : PP} {S : List (List Int)} (hg : P.GoodS S) {x : PS} (hk : x.isK kCall = true) : calledUp P S x P.funs.length = calledL P S x := by
  have hs : Srt (S.getD x.y.toNat []) := by
    rw [List.getD_eq_getElem?_getD]
    cases hl : S[x.y.toNat]? with
    | none => exact List.Pairwise.nil
    | some l => exact (chkE_zero.1 (hg.ok.ok l (List.mem_of_getElem? hl)).1).2
  refine srt_uniq ?_ ?_ fun f => ?_
  · unfold calledUp
    show List.Pairwise (· < ·) _
    rw [List.pairwise_map]
    exact List.Pairwise.imp (R := (· < ·)) (fun h => by omega) (List.Pairwise.sublist List.filter_sublist List.pairwise_lt_range)
  · unfold calledL
    rw [hk, cond_true]
    show List.Pairwise (· < ·) _
    rw [List.pairwise_map]
    refine List.Pairwise.imp_of_mem (fun {a b} ha hb h => ?_) (List.Pairwise.sublist List.filter_sublist hs)
    obtain ⟨m, hm, rfl, _⟩ := fitsV_iff.1 (List.mem_filter.1 ha).2
    obtain ⟨n, hn, rfl, _⟩ := fitsV_iff.1 (List.mem_filter.1 hb).2
    rw [funV_of hm, funV_of hn]
    omega
  · unfold calledUp calledL
    rw [hk, cond_true, List.mem_map, List.mem_map]
    constructor
    · rintro ⟨n, hn, rfl⟩
      obtain ⟨h1, h2⟩ := List.mem_filter.1 hn
      have hl := List.mem_range.1 h1
      unfold PP.fitsR at h2
      rw [Bool.and_eq_true] at h2
      exact ⟨_, List.mem_filter.2 ⟨of_decide_eq_true h2.1, fitsV_iff.2 ⟨n, hl, rfl, of_decide_eq_true h2.2⟩⟩, funV_of hl⟩
    · rintro ⟨o, ho, rfl⟩
      obtain ⟨h1, h2⟩ := List.mem_filter.1 ho
      obtain ⟨n, hn, rfl, h3⟩ := fitsV_iff.1 h2
      refine ⟨n, List.mem_filter.2 ⟨List.mem_range.2 hn, ?_⟩, (funV_of hn).symm⟩
      unfold PP.fitsR
      rw [Bool.and_eq_true]
      exact ⟨decide_eq_true h1, decide_eq_true h3⟩
set_option maxRecDepth 100000 in
set_option maxHeartbeats 3200000 in
theorem rcalledof_any (a1 a2 a3 : Option Addr) (c1 c2 c3 : Nat) (P : PP) (ah : Option Addr) (ch : Nat) (S : List (List Int)) (k : Nat) (x : PS) (w : World) (n0 : Nat) (h : ProgR w n0 (.slice a1 P.vars.length c1) (.slice a2 P.funs.length c2) (.slice a3 P.stmts.length c3) P) (hh : SetsR w n0 (.slice ah S.length ch) S) (hg : P.GoodS S) (hk : P.stmts[k]? = some x) (hn0 : n0 ≤ w.heap.size) :
    Calls Tryz.prog 41 #[pval a1 a2 a3 c1 c2 c3 P, .slice ah S.length ch, .int .i64 (k : Int)] w fun e w' => ∃ v, e = .returned v ∧ IRow w.heap.size w' v (calledL P S x) ∧ Ext w w' := by
  have hkl : k < P.stmts.length := by
    rcases Nat.lt_or_ge k P.stmts.length with g | g
    · exact g
    · rw [List.getElem?_eq_none g] at hk; cases hk
  have hw := hg.1
  obtain ⟨hf1, hf2, hf3⟩ := hw.few
  have hgd := PP.good (hw.2 k x hkl hk)
  obtain ⟨W, hW⟩ : ∃ W, W = w.alloc (.cells (pcells a1 a2 a3 c1 c2 c3 P) 39) := ⟨_, rfl⟩
  have hx1 : Ext w W := by rw [hW]; exact (Ext.refl _).alloc _
  obtain ⟨y3, x', aa, ca, rfl, hxk', e0, e1, e2, e3, hIa⟩ := (h.ext hx1).stmts.at hkl
  obtain rfl : x = x' := Option.some.inj (hk.symm.trans hxk')
  have hal := hIa.len
  obtain ⟨V, hV⟩ : ∃ V, V = W.alloc (.cells #[.string x.kind, .int .i64 x.x, .int .i64 x.y, .slice aa x.args.length ca] 48) := ⟨_, rfl⟩
  have hxV : Ext W V := by rw [hV]; exact (Ext.refl _).alloc _
  have sW : W.heap.size = w.heap.size + 1 := by rw [hW, heap_size_alloc]
  have HX : Hid (Ext w V) := hid (hx1.trans hxV)
  have HBp : Hid (Blk V w.heap.size (pcells a1 a2 (some y3) c1 c2 c3 P) 39) := hid ((show Blk W w.heap.size (pcells a1 a2 (some y3) c1 c2 c3 P) 39 by rw [hW]; exact Blk.new _ _ _).ext hxV)
  have HBs : Hid (Blk V (w.heap.size + 1) #[.string x.kind, .int .i64 x.x, .int .i64 x.y, .slice aa x.args.length ca] 48) := hid (by rw [← sW, hV]; exact Blk.new _ _ _)
  have d2 : W.cell? ⟨w.heap.size, 2, none⟩ = some (.slice (some y3) P.stmts.length c3) := (show Blk W w.heap.size (pcells a1 a2 (some y3) c1 c2 c3 P) 39 by rw [hW]; exact Blk.new _ _ _).av 2 rfl
  have HWe : Hid (W = w.alloc (.cells #[.slice a1 P.vars.length c1, .slice a2 P.funs.length c2, .slice (some y3) P.stmts.length c3] 39)) := hid (by rw [hW]; rfl)
  have HVe : Hid (V = (w.alloc (.cells #[.slice a1 P.vars.length c1, .slice a2 P.funs.length c2, .slice (some y3) P.stmts.length c3] 39)).alloc (.cells #[.string x.kind, .int .i64 x.x, .int .i64 x.y, .slice aa x.args.length ca] 48)) := hid (by rw [hV, hW]; rfl)
  have HPR := hid h
  have HG := hid hg
  have HH := hid hh
  have hhl := hh.len
  have s0 := HBs.out.av 0 rfl
  have s2 := HBs.out.av 2 rfl
  simp only [List.getElem_toArray, List.getElem_cons_zero, List.getElem_cons_succ] at s0 s2
  rw [HVe.out] at s0 s2
  rw [HWe.out] at d2 e0 e1 e2 e3
  unfold pval
  clear hW hx1 hxV hV sW hIa hxk' h hg hh
  cases hkc : (x.kind.toList == [99, 97, 108, 108]) with
  | false =>
    have Hr : Hid (calledL P S x = []) := hid (by unfold calledL PS.isK kCall; rw [hkc]; rfl)
    go_enter Tryz.func41, Tryz.ntmps41
    go_wp2
    rw [← HVe.out]
    go_ret
    exact ⟨_, rfl, by rw [Hr.out]; exact IRow.nil _ _, HX.out⟩
  | true =>
    have hyv := hgd.yv (isK_ne (k := kCall) hkc (by decide)) (isK_ne (k := kCall) hkc (by decide))
    obtain ⟨Y, hY⟩ := Int.eq_ofNat_of_zero_le hyv.1
    have hnv := nodes_vars P
    have hn6 := nodesV_le P hw
    have hYl : Y < S.length := by have := HG.out.2.1; omega
    obtain ⟨z, l, bl, cl, hz, hl, hc, hI⟩ := (HH.out.ext HX.out).at hYl
    subst hz
    have Hr : Hid (calledL P S x = calledUp P S x P.funs.length) := hid (calledUp_eq HG.out hkc).symm
    have Hfr := hid (show ∀ f, P.fitsR S x f = (decide (((P.nodesV + f : Nat) : Int) ∈ l) && decide ((P.funs.getD f ⟨⟨#[]⟩, [], 0⟩).params.length = x.args.length)) from fun f => by
      unfold PP.fitsR
      rw [hY, Int.toNat_natCast, List.getD_eq_getElem?_getD, hl]; rfl)
    have HI := hid hI
    have HNo := fun w1 (y : Ext V w1) => hid (rnodesof_any a1 a2 (some y3) c1 c2 c3 P w1 n0 (HPR.out.ext (HX.out.trans y)) (by omega) (by omega))
    have Hc := hid hc
    obtain ⟨N, hN⟩ : ∃ N, N = P.nodesV := ⟨_, rfl⟩
    rw [← hN] at HNo Hfr
    have hN126 : N ≤ 126 := by omega
    rw [hY] at e2 s0 s2
    have HVz : Hid (V = (w.alloc (.cells #[.slice a1 P.vars.length c1, .slice a2 P.funs.length c2, .slice (some y3) P.stmts.length c3] 39)).alloc (.cells #[.string x.kind, .int .i64 x.x, .int .i64 (Y : Int), .slice aa x.args.length ca] 48)) := hid (by rw [HVe.out, hY])
    have HY := hid hY
    unfold pval at HNo
    clear hl hI hc hyv hnv hn6 hN hY
    go_enter Tryz.func41, Tryz.ntmps41
    go_wp2
    rw [← HVz.out]
    clear s0 s2 d2 e0 e1 e2 e3
    go_loopw [8, 9] (fun t8 t9 wr => ∃ (k : Nat) (M : List Int), t9 = .int .i64 (k : Int) ∧ k ≤ P.funs.length ∧ M = calledUp P S x k ∧ M.length ≤ k ∧ IRow V.heap.size wr t8 M ∧ Ext V wr) (fun _ t9 _ => P.funs.length - (intOf t9).toNat)
    case atStart => exact ⟨0, [], rfl, Nat.zero_le _, rfl, Nat.zero_le _, IRow.nil _ _, Ext.refl _⟩
    case round =>
      obtain ⟨k, M, rfl, hk2, hM, hMl, hr, hx⟩ := hrel
      obtain ⟨a7, c7, rfl⟩ := hr.form
      have Hr7 := hid hr
      have Hx := hid hx
      have HM := hid hM
      clear hr hx hM
      have d1' := (HBp.out.ext Hx.out).av 1 rfl
      simp only [pcells, List.getElem_toArray, List.getElem_cons_zero, List.getElem_cons_succ] at d1'
      by_cases hlt : k < P.funs.length
      · obtain ⟨yf, f, afp, cfp, hyf, hfk, g0, g1, g2, hIp⟩ := (HPR.out.ext (HX.out.trans Hx.out)).funs.at hlt
        subst hyf
        have hpl := hIp.len
        have hnext := calledUp_succ P S x k
        have hfr := Hfr.out k
        have hgd2 : P.funs.getD k ⟨⟨#[]⟩, [], 0⟩ = f := by rw [List.getD_eq_getElem?_getD, hfk]; rfl
        rw [hgd2] at hfr
        have HN := fun w1 (y : Ext wr w1) => HNo w1 (Hx.out.trans y)
        have HR := fun w1 (y : Ext wr w1) => hid (show Calls Tryz.prog 44 #[.slice bl l.length cl, .int .i64 ((N : Int) + (k : Int))] w1 (fun e w' => e = .returned (.bool (decide (((N + k : Nat) : Int) ∈ l))) ∧ Ext w1 w') from
          (rhas_any (.slice bl l.length cl) l ((N : Int) + (k : Int)) w1 n0 (HI.out.old ((Hx.out.trans y).old n0))).mono fun e w' h => by
            rw [show ((N + k : Nat) : Int) = (N : Int) + (k : Int) by omega]
            exact ⟨h.1, by rw [← h.2]; exact Ext.refl _⟩)
        obtain ⟨dm, hdm⟩ : ∃ dm, dm = decide (((N + k : Nat) : Int) ∈ l) := ⟨_, rfl⟩
        rw [← hdm] at HR hfr
        have d0 := (HBp.out.ext Hx.out).kc (X := fun _ => False) (fun e => e) 0 rfl
        have d1 := (HBp.out.ext Hx.out).kc (X := fun _ => False) (fun e => e) 1 rfl
        have d2 := (HBp.out.ext Hx.out).kc (X := fun _ => False) (fun e => e) 2 rfl
        have m2 := (HBs.out.ext Hx.out).kc (X := fun _ => False) (fun e => e) 2 rfl
        have m3 := (HBs.out.ext Hx.out).kc (X := fun _ => False) (fun e => e) 3 rfl
        simp only [pcells, List.getElem_toArray, List.getElem_cons_zero, List.getElem_cons_succ] at d0 d1 d2 m2 m3
        rw [HY.out] at m2
        have c0 : ∀ wx, Keep (fun _ => False) wr wx → wx.cell? (z.add Y) = some (.slice bl l.length cl) := fun wx kk => (Hx.out.trans kk.ext).cellx Hc.out
        have f1 : ∀ wx, Keep (fun _ => False) wr wx → wx.cell? ⟨(yf.add (k * 3)).block, (yf.add (k * 3)).off + 1, none⟩ = some (.slice afp f.params.length cfp) := fun wx kk => kk.ext.cellx g1
        obtain ⟨de, hde⟩ : ∃ de, de = decide (f.params.length = x.args.length) := ⟨_, rfl⟩
        have hb : ((f.params.length : Int) == (x.args.length : Int)) = de := by
          rw [hde]
          by_cases e : f.params.length = x.args.length
          · rw [decide_eq_true e]; exact beq_iff_eq.2 (by omega)
          · rw [decide_eq_false e]; exact beq_eq_false_iff_ne.2 (by omega)
        rw [← hde] at hfr
        have Hfit := hid hfr
        have Hnext := hid hnext
        clear hfk g0 g1 g2 hIp hnext hfr hgd2 hdm hde
        cases dm with
        | false =>
          go_wp2
          refine wp_flowT (fun _ => False) (by kernel_rfl) (by kernel_rfl) ?_
          repeat (apply FlowT.d; (intro w1 hk; unfold does; go_simp; (try go_ints); (first | exact DetR.mk | (simp only [↓IntWalk.iteOmega, Oper.doesUpon_value]; exact DetR.mk) | (simp only [↓IntWalk.iteOmega]; go_simp; (try go_ints); exact DetR.mk))); simp only [Act.put, List.setIfInBounds_toArray, List.set_cons_zero, List.set_cons_succ])
          apply FlowT.d
          · intro w1 hk
            unfold does
            go_simp
            exact CallR.det ((HN w1 hk.ext).out)
          simp only [Act.put, List.setIfInBounds_toArray, List.set_cons_zero, List.set_cons_succ]
          repeat (apply FlowT.d; (intro w1 hk; unfold does; go_simp; (try go_ints); (first | exact DetR.mk | (simp only [↓IntWalk.iteOmega, Oper.doesUpon_value]; exact DetR.mk) | (simp only [↓IntWalk.iteOmega]; go_simp; (try go_ints); exact DetR.mk))); simp only [Act.put, List.setIfInBounds_toArray, List.set_cons_zero, List.set_cons_succ])
          apply FlowT.d
          · intro w1 hk
            unfold does
            go_simp
            exact CallR.det ((HR w1 hk.ext).out)
          simp only [Act.put, List.setIfInBounds_toArray, List.set_cons_zero, List.set_cons_succ]
          repeat (apply FlowT.d; (intro w1 hk; unfold does; go_simp; (try go_ints); (first | exact DetR.mk | (simp only [↓IntWalk.iteOmega, Oper.doesUpon_value]; exact DetR.mk) | (simp only [↓IntWalk.iteOmega]; go_simp; (try go_ints); exact DetR.mk))); simp only [Act.put, List.setIfInBounds_toArray, List.set_cons_zero, List.set_cons_succ])
          refine FlowT.fin fun w2 _ hk3 => ?_
          have Hx2 := hid (Hx.out.trans hk3.ext)
          have Hr2 := hid (Hr7.out.ext hk3.ext)
          clear hk3 f1 c0 d0 d1 d2 m2 m3 hb HN HR d1'
          have Hn : Hid (calledUp P S x (k + 1) = M) := hid (by rw [Hnext.out, Hfit.out, ← HM.out]; simp)
          go_wp2
          go_roundw
          case rel => exact ⟨k + 1, M, by go_num, by omega, Hn.out.symm, by omega, Hr2.out, Hx2.out⟩
          case measure => simp [intOf]; omega
        | true =>
          cases de with
          | false =>
            go_wp2
            refine wp_flowT (fun _ => False) (by kernel_rfl) (by kernel_rfl) ?_
            repeat (apply FlowT.d; (intro w1 hk; unfold does; go_simp; (try go_ints); (first | exact DetR.mk | (simp only [↓IntWalk.iteOmega, Oper.doesUpon_value]; exact DetR.mk) | (simp only [↓IntWalk.iteOmega]; go_simp; (try go_ints); exact DetR.mk))); simp only [Act.put, List.setIfInBounds_toArray, List.set_cons_zero, List.set_cons_succ])
            apply FlowT.d
            · intro w1 hk
              unfold does
              go_simp
              exact CallR.det ((HN w1 hk.ext).out)
            simp only [Act.put, List.setIfInBounds_toArray, List.set_cons_zero, List.set_cons_succ]
            repeat (apply FlowT.d; (intro w1 hk; unfold does; go_simp; (try go_ints); (first | exact DetR.mk | (simp only [↓IntWalk.iteOmega, Oper.doesUpon_value]; exact DetR.mk) | (simp only [↓IntWalk.iteOmega]; go_simp; (try go_ints); exact DetR.mk))); simp only [Act.put, List.setIfInBounds_toArray, List.set_cons_zero, List.set_cons_succ])
            apply FlowT.d
            · intro w1 hk
              unfold does
              go_simp
              exact CallR.det ((HR w1 hk.ext).out)
            simp only [Act.put, List.setIfInBounds_toArray, List.set_cons_zero, List.set_cons_succ]
            repeat (apply FlowT.d; (intro w1 hk; unfold does; go_simp; (try go_ints); (first | exact DetR.mk | (simp only [↓IntWalk.iteOmega, Oper.doesUpon_value]; exact DetR.mk) | (simp only [↓IntWalk.iteOmega]; go_simp; (try go_ints); exact DetR.mk))); simp only [Act.put, List.setIfInBounds_toArray, List.set_cons_zero, List.set_cons_succ])
            refine FlowT.fin fun w2 _ hk3 => ?_
            have Hx2 := hid (Hx.out.trans hk3.ext)
            have Hr2 := hid (Hr7.out.ext hk3.ext)
            clear hk3 f1 c0 d0 d1 d2 m2 m3 hb HN HR d1'
            have Hn : Hid (calledUp P S x (k + 1) = M) := hid (by rw [Hnext.out, Hfit.out, ← HM.out]; simp)
            go_wp2
            go_roundw
            case rel => exact ⟨k + 1, M, by go_num, by omega, Hn.out.symm, by omega, Hr2.out, Hx2.out⟩
            case measure => simp [intOf]; omega
          | true =>
            go_wp2
            refine wp_flowT (fun _ => False) (by kernel_rfl) (by kernel_rfl) ?_
            repeat (apply FlowT.d; (intro w1 hk; unfold does; go_simp; (try go_ints); (first | exact DetR.mk | (simp only [↓IntWalk.iteOmega, Oper.doesUpon_value]; exact DetR.mk) | (simp only [↓IntWalk.iteOmega]; go_simp; (try go_ints); exact DetR.mk))); simp only [Act.put, List.setIfInBounds_toArray, List.set_cons_zero, List.set_cons_succ])
            apply FlowT.d
            · intro w1 hk
              unfold does
              go_simp
              exact CallR.det ((HN w1 hk.ext).out)
            simp only [Act.put, List.setIfInBounds_toArray, List.set_cons_zero, List.set_cons_succ]
            repeat (apply FlowT.d; (intro w1 hk; unfold does; go_simp; (try go_ints); (first | exact DetR.mk | (simp only [↓IntWalk.iteOmega, Oper.doesUpon_value]; exact DetR.mk) | (simp only [↓IntWalk.iteOmega]; go_simp; (try go_ints); exact DetR.mk))); simp only [Act.put, List.setIfInBounds_toArray, List.set_cons_zero, List.set_cons_succ])
            apply FlowT.d
            · intro w1 hk
              unfold does
              go_simp
              exact CallR.det ((HR w1 hk.ext).out)
            simp only [Act.put, List.setIfInBounds_toArray, List.set_cons_zero, List.set_cons_succ]
            repeat (apply FlowT.d; (intro w1 hk; unfold does; go_simp; (try go_ints); (first | exact DetR.mk | (simp only [↓IntWalk.iteOmega, Oper.doesUpon_value]; exact DetR.mk) | (simp only [↓IntWalk.iteOmega]; go_simp; (try go_ints); exact DetR.mk))); simp only [Act.put, List.setIfInBounds_toArray, List.set_cons_zero, List.set_cons_succ])
            refine FlowT.fin fun w2 _ hk3 => ?_
            have Hx2 := hid (Hx.out.trans hk3.ext)
            have Hr2 := hid (Hr7.out.ext hk3.ext)
            clear hk3 f1 c0 d0 d1 d2 m2 m3 hb HN HR d1'
            have Hn : Hid (calledUp P S x (k + 1) = M ++ [(k : Int)]) := hid (by rw [Hnext.out, Hfit.out, ← HM.out]; rfl)
            have hxa : Hid (Ext V (w2.alloc (.cells #[.int .i64 (k : Int)] 3))) := hid (Hx2.out.alloc _)
            have Hra : Hid (IRow V.heap.size (w2.alloc (.cells #[.int .i64 (k : Int)] 3)) (.slice a7 M.length c7) M) := hid (Hr2.out.ext ((Ext.refl _).alloc _))
            go_wp2_with (at_builtin; refine wpList_append_el V.heap.size hxa.out.size 22 3 (.int .i64 0) 1 8 Tryz.underlying22 ints_info rfl (by omega) (by omega) rfl _ _ rfl (.slice a7 M.length c7) M.length (icells M) rfl Hra.out w2.heap.size [.int .i64 (k : Int)] rfl (by simp [Value.oneCell']) rfl (Blk.new _ _ _) (by omega) ?_; intro v' w' h1 h2 h4; obtain ⟨a', c', rfl⟩ := row_form h1; have h3 := hid (Keep.new hxa.out h2 (fun k hk => (Hra.out.lt hk).1)); have h1 := hid h1; clear h2 h4)
            go_roundw
            case rel => exact ⟨k + 1, M ++ [(k : Int)], by go_num, by omega, Hn.out.symm, by rw [List.length_append]; simp; omega, by have := h1.out; unfold IRow; rw [icells_append, List.length_append]; exact this, h3.out⟩
            case measure => simp [intOf]; omega
      · obtain rfl : k = P.funs.length := by omega
        have HEn : Hid (calledL P S x = M) := hid (by rw [Hr.out, HM.out])
        go_wp2
        go_ret
        exact ⟨_, rfl, by rw [HEn.out]; exact own_low Hr7.out HX.out.size, HX.out.trans Hx.out⟩
end Go.Proofs.YtoaoienfggjepaaGreatDoor

