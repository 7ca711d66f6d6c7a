/- Texts of one proof, put together: PC CD WJ V9 WK WL. -/
import Derived.Test.YtbagppdibncfdaaGreatDoorHHN01
import Derived.Test.YtbagppdibncfdaaGreatDoorHHN02
import Derived.Test.YtbagppdibncfdaaGreatDoorHHN07
import Derived.Test.YtbagppdibncfdaaGreatDoorHHN08
import Derived.Test.YtbagppdibncfdaaGreatDoorHHN23
import Derived.Test.YtbagppdibncfdaaGreatDoorHHN25
set_option linter.unusedSimpArgs false
set_option linter.unusedVariables false
namespace Go.Proofs.YtbagppdibncfdaaGreatDoor
open Go Go.RowKit
structure AllErrs (w : World) (ad : Nat → Addr) : Prop where
  var : ∀ c, 1 ≤ c ∧ c ≤ 11 → w.cell? ⟨gE c, 0, none⟩ = some (.iface 282 (.pointer (some (ad c))))
  row : ∀ c, 1 ≤ c ∧ c ≤ 11 → ∃ cs t, w.heap[(ad c).block]? = some (.cells cs t (0, 0))
  inj : ∀ c d, 1 ≤ c ∧ c ≤ 11 → 1 ≤ d ∧ d ≤ 11 → ad c = ad d → c = d
  ty : w.cell? ⟨11, 0, none⟩ = some (.iface 229 (.agg #[.pointer (some ⟨20, 35, none⟩)]))
theorem AllErrs.at1 {w : World} {ad : Nat → Addr} (h : AllErrs w ad) : w.cell? ⟨4, 0, none⟩ = some (.iface 282 (.pointer (some (ad 1)))) := h.var 1 (by omega)
theorem AllErrs.at2 {w : World} {ad : Nat → Addr} (h : AllErrs w ad) : w.cell? ⟨3, 0, none⟩ = some (.iface 282 (.pointer (some (ad 2)))) := h.var 2 (by omega)
theorem AllErrs.at3 {w : World} {ad : Nat → Addr} (h : AllErrs w ad) : w.cell? ⟨6, 0, none⟩ = some (.iface 282 (.pointer (some (ad 3)))) := h.var 3 (by omega)
theorem AllErrs.at4 {w : World} {ad : Nat → Addr} (h : AllErrs w ad) : w.cell? ⟨5, 0, none⟩ = some (.iface 282 (.pointer (some (ad 4)))) := h.var 4 (by omega)
theorem AllErrs.at5 {w : World} {ad : Nat → Addr} (h : AllErrs w ad) : w.cell? ⟨1, 0, none⟩ = some (.iface 282 (.pointer (some (ad 5)))) := h.var 5 (by omega)
theorem AllErrs.at6 {w : World} {ad : Nat → Addr} (h : AllErrs w ad) : w.cell? ⟨8, 0, none⟩ = some (.iface 282 (.pointer (some (ad 6)))) := h.var 6 (by omega)
theorem AllErrs.at7 {w : World} {ad : Nat → Addr} (h : AllErrs w ad) : w.cell? ⟨2, 0, none⟩ = some (.iface 282 (.pointer (some (ad 7)))) := h.var 7 (by omega)
theorem AllErrs.at8 {w : World} {ad : Nat → Addr} (h : AllErrs w ad) : w.cell? ⟨0, 0, none⟩ = some (.iface 282 (.pointer (some (ad 8)))) := h.var 8 (by omega)
theorem AllErrs.at9 {w : World} {ad : Nat → Addr} (h : AllErrs w ad) : w.cell? ⟨9, 0, none⟩ = some (.iface 282 (.pointer (some (ad 9)))) := h.var 9 (by omega)
theorem AllErrs.at10 {w : World} {ad : Nat → Addr} (h : AllErrs w ad) : w.cell? ⟨7, 0, none⟩ = some (.iface 282 (.pointer (some (ad 10)))) := h.var 10 (by omega)
theorem AllErrs.at11 {w : World} {ad : Nat → Addr} (h : AllErrs w ad) : w.cell? ⟨10, 0, none⟩ = some (.iface 282 (.pointer (some (ad 11)))) := h.var 11 (by omega)
theorem AllErrs.ext {w w' : World} {ad : Nat → Addr} (h : AllErrs w ad) (x : Ext w w') : AllErrs w' ad :=
  ⟨fun c hc => x.cellx (h.var c hc), fun c hc => by obtain ⟨cs, t, e⟩ := h.row c hc; exact ⟨cs, t, x.get e⟩, h.inj, x.cellx h.ty⟩
def IsAs (w : World) (ad : Nat → Addr) (e : Value) (c : Nat) : Prop := ∀ w', Ext w w' → ∀ d, 1 ≤ d ∧ d ≤ 11 → Calls Tryz.prog 104 #[e, .iface 282 (.pointer (some (ad d)))] w' fun r w'' => r = .returned (.bool (decide (d = c))) ∧ w' = w''
theorem IsAs.sent {w : World} {ad : Nat → Addr} (h : AllErrs w ad) (c : Nat) (hc : 1 ≤ c ∧ c ≤ 11) : IsAs w ad (.iface 282 (.pointer (some (ad c)))) c := by
  intro w' x d hd
  by_cases e : d = c
  · subst e
    rw [decide_eq_true rfl]
    exact is_same (ad d) w'
  · rw [decide_eq_false e]
    have h' := h.ext x
    obtain ⟨c1, t1, e1⟩ := h'.row c hc
    obtain ⟨c2, t2, e2⟩ := h'.row d hd
    exact is_other (ad c) (ad d) c1 c2 t1 t2 w' (fun e' => e (h.inj d c hd hc e'.symm)) e1 e2
theorem IsAs.fault {w : World} {ad : Nat → Addr} (h : AllErrs w ad) (c : Nat) (hc : 1 ≤ c ∧ c ≤ 11) (b : Nat) (hb : w.cell? ⟨b, 1, none⟩ = some (.iface 282 (.pointer (some (ad c))))) : IsAs w ad (.iface 92 (.pointer (some ⟨b, 0, none⟩))) c := by
  intro w' x d hd
  by_cases e : d = c
  · subst e
    rw [decide_eq_true rfl]
    exact is_wrap_same b (ad d) w' (x.cellx hb)
  · rw [decide_eq_false e]
    have h' := h.ext x
    obtain ⟨c1, t1, e1⟩ := h'.row c hc
    obtain ⟨c2, t2, e2⟩ := h'.row d hd
    exact is_wrap_other b (ad d) (ad c) c1 c2 t1 t2 w' (x.cellx hb) (fun e' => e (h.inj d c hd hc e'.symm)) e1 e2
theorem IsAs.none {w : World} {ad : Nat → Addr} (h : AllErrs w ad) (a : Addr) (ha : ∃ cs t, w.heap[a.block]? = some (.cells cs t (0, 0))) (hne : ∀ c, 1 ≤ c ∧ c ≤ 11 → a ≠ ad c) : IsAs w ad (.iface 282 (.pointer (some a))) 0 := by
  intro w' x d hd
  rw [decide_eq_false (by omega)]
  obtain ⟨c1, t1, e1⟩ := ha
  obtain ⟨c2, t2, e2⟩ := (h.ext x).row d hd
  exact is_other a (ad d) c1 c2 t1 t2 w' (hne d hd) (x.get e1) e2
def codeV (c : Nat) : Int := if c = 0 then -1 else c
set_option maxRecDepth 100000 in
set_option maxHeartbeats 400000 in
theorem code_nil (w : World) : Calls Tryz.prog 56 #[.nilIface] w fun e w' => e = .returned (.tuple #[.int .i64 0, .int .i64 (-1)]) ∧ w = w' := by
  go_enter Tryz.func56, Tryz.ntmps56
  go_wp2
  go_ret2
  exact ⟨rfl, rfl⟩
set_option maxRecDepth 100000 in
set_option maxHeartbeats 3200000 in
theorem code_sent (w : World) (ad : Nat → Addr) (h : AllErrs w ad) (x : Value) (c : Nat) (hc : c ≤ 11) (hi : IsAs w ad (.iface 282 x) c) :
    Calls Tryz.prog 56 #[.iface 282 x] w fun e w' => e = .returned (.tuple #[.int .i64 (codeV c), .int .i64 (-1)]) ∧ Ext w w' := by
  have hA := hid (as_miss x ⟨w.heap.size, 0, none⟩ (.pointer none) (w.alloc (.cells #[.pointer none] 92)) (((Ext.refl w).alloc _).cellx h.ty) (by simp) (by simp))
  go_enter Tryz.func56, Tryz.ntmps56
  go_wp2_with fail
  refine hA.out.mono ?_
  intro e w1 hx
  obtain ⟨rfl, hx1⟩ := hx
  replace hx1 := ((Ext.refl w).alloc _).trans hx1
  clear hA
  have g0 := (h.ext hx1).at1
  have g1 := (h.ext hx1).at2
  have g2 := (h.ext hx1).at3
  have g3 := (h.ext hx1).at4
  have g4 := (h.ext hx1).at5
  have g5 := (h.ext hx1).at6
  have g6 := (h.ext hx1).at7
  have g7 := (h.ext hx1).at8
  have g8 := (h.ext hx1).at9
  have g9 := (h.ext hx1).at10
  have g10 := (h.ext hx1).at11
  obtain ⟨W, hW⟩ : ∃ W, W = w1.alloc (.cells #[.iface 282 (.pointer (some (ad 1))), .iface 282 (.pointer (some (ad 2))), .iface 282 (.pointer (some (ad 3))), .iface 282 (.pointer (some (ad 4))), .iface 282 (.pointer (some (ad 5))), .iface 282 (.pointer (some (ad 6))), .iface 282 (.pointer (some (ad 7))), .iface 282 (.pointer (some (ad 8))), .iface 282 (.pointer (some (ad 9))), .iface 282 (.pointer (some (ad 10))), .iface 282 (.pointer (some (ad 11)))] 35) := ⟨_, rfl⟩
  have hcell : ∀ k, k < 11 → W.cell? ⟨w1.heap.size, k, none⟩ = some (.iface 282 (.pointer (some (ad (k + 1))))) := fun k hk => by
    have hB := Blk.new w1 #[.iface 282 (.pointer (some (ad 1))), .iface 282 (.pointer (some (ad 2))), .iface 282 (.pointer (some (ad 3))), .iface 282 (.pointer (some (ad 4))), .iface 282 (.pointer (some (ad 5))), .iface 282 (.pointer (some (ad 6))), .iface 282 (.pointer (some (ad 7))), .iface 282 (.pointer (some (ad 8))), .iface 282 (.pointer (some (ad 9))), .iface 282 (.pointer (some (ad 10))), .iface 282 (.pointer (some (ad 11)))] 35
    rw [← hW] at hB
    rw [hB.cell k]
    rcases (by omega : k = 0 ∨ k = 1 ∨ k = 2 ∨ k = 3 ∨ k = 4 ∨ k = 5 ∨ k = 6 ∨ k = 7 ∨ k = 8 ∨ k = 9 ∨ k = 10) with rfl | rfl | rfl | rfl | rfl | rfl | rfl | rfl | rfl | rfl | rfl <;> rfl
  have hX : Ext w W := by rw [hW]; exact hx1.alloc _
  have HW := hid hW
  have Hc := fun k hk => hid (hcell k hk)
  have HI := hid (hi _ hX)
  have Hx := hid hX
  clear hcell hW hX hi
  go_wp2
  rw [← HW.out]
  clear g0 g1 g2 g3 g4 g5 g6 g7 g8 g9 g10 HW h hx1
  generalize w1.heap.size = N at *
  go_loop [3, 29] (fun t3 t29 => ∃ k : Nat, t29 = .int .i64 (k : Int) ∧ k ≤ 11 ∧ t3 = .int .i64 (-1) ∧ ∀ d, 1 ≤ d → d ≤ k → d ≠ c) (fun _ t29 => 11 - (intOf t29).toNat)
  case atStart => exact ⟨0, rfl, Nat.zero_le _, rfl, fun d h1 h2 => by omega⟩
  case round =>
    obtain ⟨k, rfl, hk, rfl, hne⟩ := hrel
    have Hne := hid hne
    clear hne
    by_cases hlt : k < 11
    · have hck := (Hc k hlt).out
      have hcall := hid (HI.out (k + 1) (by omega))
      by_cases he : k + 1 = c
      · have hcv : Hid (codeV c = (k : Int) + 1) := hid (by unfold codeV; rw [if_neg (by omega)]; omega)
        rw [decide_eq_true he] at hcall
        clear he
        have hlt2 : (k : Int) < 11 := by omega
        go_wp2_with fail
        refine hcall.out.mono ?_
        rintro e w3 ⟨rfl, rfl⟩
        go_wp2
        go_ret2
        exact ⟨by rw [hcv.out]; rfl, Hx.out⟩
      · rw [decide_eq_false he] at hcall
        have hlt2 : (k : Int) < 11 := by omega
        have He := hid he
        clear he
        go_wp2_with fail
        refine hcall.out.mono ?_
        rintro e w3 ⟨rfl, rfl⟩
        go_wp2
        go_round
        case rel => exact ⟨k + 1, by go_num, by omega, rfl, fun d h1 h2 => by
          by_cases hd : d = k + 1
          · rw [hd]; exact He.out
          · exact Hne.out d h1 (by omega)⟩
        case measure => simp [intOf]; omega
    · obtain rfl : k = 11 := by omega
      have hcv : Hid (codeV c = -1) := hid (by
        unfold codeV
        rw [if_pos]
        rcases Nat.eq_zero_or_pos c with h0 | h0
        · exact h0
        · exact absurd rfl (Hne.out c h0 hc))
      go_wp2
      go_ret2
      exact ⟨by rw [hcv.out]; rfl, Hx.out⟩
set_option maxRecDepth 100000 in
set_option maxHeartbeats 3200000 in
theorem code_fault (w : World) (ad : Nat → Addr) (h : AllErrs w ad) (b : Nat) (pl : Int) (c : Nat) (hc : c ≤ 11) (hpl : w.cell? ⟨b, 0, none⟩ = some (.int .i64 pl)) (hi : IsAs w ad (.iface 92 (.pointer (some ⟨b, 0, none⟩))) c) :
    Calls Tryz.prog 56 #[.iface 92 (.pointer (some ⟨b, 0, none⟩))] w fun e w' => e = .returned (.tuple #[.int .i64 (codeV c), .int .i64 pl]) ∧ Ext w w' := by
  have hA := hid (as_hit ⟨b, 0, none⟩ ⟨w.heap.size, 0, none⟩ (.pointer none) (w.alloc (.cells #[.pointer none] 92)) (((Ext.refl w).alloc _).cellx h.ty) (by simp) (by simp))
  go_enter Tryz.func56, Tryz.ntmps56
  go_wp2_with fail
  refine hA.out.mono ?_
  intro e w1 hx
  obtain ⟨rfl, hw1⟩ := hx
  have h3 := ((((Ext.refl (w.alloc (.cells #[.pointer none] 92))).alloc (.cells #[.pointer (some ⟨w.heap.size, 0, none⟩)] 150)).alloc (.cells #[.pointer (some ⟨20, 150, none⟩), .pointer (some ⟨(w.alloc (.cells #[.pointer none] 92)).heap.size, 0, none⟩), .int .u64 150] 183)).alloc (.cells #[.pointer (some ⟨20, 150, none⟩), .pointer (some ⟨(w.alloc (.cells #[.pointer none] 92)).heap.size, 0, none⟩), .int .u64 150] 183)).alloc (.cells #[.pointer (some ⟨b, 0, none⟩)] 92)
  have hB := ((Blk.new w #[.pointer none] 92).ext h3).set 0 (.pointer (some ⟨b, 0, none⟩))
  have hx1 : Ext w w1 := by
    rw [hw1]
    exact Keep.new (((Ext.refl w).alloc _).trans h3) (Keep.set (X := fun n => n = w.heap.size) (Keep.refl _ _) rfl _) fun n hn => by omega
  rw [← hw1] at hB
  have ht : w1.cell? ⟨w.heap.size, 0, none⟩ = some (.pointer (some ⟨b, 0, none⟩)) := (hB.cell 0).trans rfl
  have hp1 := hx1.cellx hpl
  clear hA hw1 h3 hB
  have g0 := (h.ext hx1).at1
  have g1 := (h.ext hx1).at2
  have g2 := (h.ext hx1).at3
  have g3 := (h.ext hx1).at4
  have g4 := (h.ext hx1).at5
  have g5 := (h.ext hx1).at6
  have g6 := (h.ext hx1).at7
  have g7 := (h.ext hx1).at8
  have g8 := (h.ext hx1).at9
  have g9 := (h.ext hx1).at10
  have g10 := (h.ext hx1).at11
  obtain ⟨W, hW⟩ : ∃ W, W = w1.alloc (.cells #[.iface 282 (.pointer (some (ad 1))), .iface 282 (.pointer (some (ad 2))), .iface 282 (.pointer (some (ad 3))), .iface 282 (.pointer (some (ad 4))), .iface 282 (.pointer (some (ad 5))), .iface 282 (.pointer (some (ad 6))), .iface 282 (.pointer (some (ad 7))), .iface 282 (.pointer (some (ad 8))), .iface 282 (.pointer (some (ad 9))), .iface 282 (.pointer (some (ad 10))), .iface 282 (.pointer (some (ad 11)))] 35) := ⟨_, rfl⟩
  have hcell : ∀ k, k < 11 → W.cell? ⟨w1.heap.size, k, none⟩ = some (.iface 282 (.pointer (some (ad (k + 1))))) := fun k hk => by
    have hB := Blk.new w1 #[.iface 282 (.pointer (some (ad 1))), .iface 282 (.pointer (some (ad 2))), .iface 282 (.pointer (some (ad 3))), .iface 282 (.pointer (some (ad 4))), .iface 282 (.pointer (some (ad 5))), .iface 282 (.pointer (some (ad 6))), .iface 282 (.pointer (some (ad 7))), .iface 282 (.pointer (some (ad 8))), .iface 282 (.pointer (some (ad 9))), .iface 282 (.pointer (some (ad 10))), .iface 282 (.pointer (some (ad 11)))] 35
    rw [← hW] at hB
    rw [hB.cell k]
    rcases (by omega : k = 0 ∨ k = 1 ∨ k = 2 ∨ k = 3 ∨ k = 4 ∨ k = 5 ∨ k = 6 ∨ k = 7 ∨ k = 8 ∨ k = 9 ∨ k = 10) with rfl | rfl | rfl | rfl | rfl | rfl | rfl | rfl | rfl | rfl | rfl <;> rfl
  have hX : Ext w W := by rw [hW]; exact hx1.alloc _
  have HW := hid hW
  have Hc := fun k hk => hid (hcell k hk)
  have HI := hid (hi _ hX)
  have Hx := hid hX
  clear hcell hW hX hi
  go_wp2
  rw [← HW.out]
  clear g0 g1 g2 g3 g4 g5 g6 g7 g8 g9 g10 HW h hx1
  generalize w1.heap.size = N at *
  go_loop [3, 29] (fun t3 t29 => ∃ k : Nat, t29 = .int .i64 (k : Int) ∧ k ≤ 11 ∧ t3 = .int .i64 pl ∧ ∀ d, 1 ≤ d → d ≤ k → d ≠ c) (fun _ t29 => 11 - (intOf t29).toNat)
  case atStart => exact ⟨0, rfl, Nat.zero_le _, rfl, fun d h1 h2 => by omega⟩
  case round =>
    obtain ⟨k, rfl, hk, rfl, hne⟩ := hrel
    have Hne := hid hne
    clear hne
    by_cases hlt : k < 11
    · have hck := (Hc k hlt).out
      have hcall := hid (HI.out (k + 1) (by omega))
      by_cases he : k + 1 = c
      · have hcv : Hid (codeV c = (k : Int) + 1) := hid (by unfold codeV; rw [if_neg (by omega)]; omega)
        rw [decide_eq_true he] at hcall
        clear he
        have hlt2 : (k : Int) < 11 := by omega
        go_wp2_with fail
        refine hcall.out.mono ?_
        rintro e w3 ⟨rfl, rfl⟩
        go_wp2
        go_ret2
        exact ⟨by rw [hcv.out]; rfl, Hx.out⟩
      · rw [decide_eq_false he] at hcall
        have hlt2 : (k : Int) < 11 := by omega
        have He := hid he
        clear he
        go_wp2_with fail
        refine hcall.out.mono ?_
        rintro e w3 ⟨rfl, rfl⟩
        go_wp2
        go_round
        case rel => exact ⟨k + 1, by go_num, by omega, rfl, fun d h1 h2 => by
          by_cases hd : d = k + 1
          · rw [hd]; exact He.out
          · exact Hne.out d h1 (by omega)⟩
        case measure => simp [intOf]; omega
    · obtain rfl : k = 11 := by omega
      have hcv : Hid (codeV c = -1) := hid (by
        unfold codeV
        rw [if_pos]
        rcases Nat.eq_zero_or_pos c with h0 | h0
        · exact h0
        · exact absurd rfl (Hne.out c h0 hc))
      go_wp2
      go_ret2
      exact ⟨by rw [hcv.out]; rfl, Hx.out⟩
theorem code_err (w : World) (ad : Nat → Addr) (h : AllErrs w ad) (c : Nat) (hc : c ≤ 11) :
    Calls Tryz.prog 56 #[errv (evOf ad) c] w fun e w' => e = .returned (.tuple #[.int .i64 (c : Int), .int .i64 (-1)]) ∧ Ext w w' := by
  unfold errv
  by_cases h0 : c = 0
  · subst h0
    rw [if_pos rfl]
    exact (code_nil w).mono fun e w' ⟨h1, h2⟩ => ⟨h1, h2 ▸ Ext.refl _⟩
  · rw [if_neg h0]
    have := code_sent w ad h _ c hc (IsAs.sent h c (by omega))
    unfold codeV at this
    rw [if_neg h0] at this
    exact this
theorem AllErrs.errs {w : World} {ad : Nat → Addr} (h : AllErrs w ad) : Errs w (evOf ad) :=
  ⟨⟨h.at2, h.at3, h.at4, h.at8⟩, h.at1, h.at11⟩
theorem PP.stmtErr_le (P : PP) (s : PS) : P.stmtErr s ≤ 9 := by
  unfold PP.stmtErr
  cases (!memB s.kind kindsS) <;> simp only [cond_true, cond_false] <;> try omega
  cases (!P.bound s) <;> simp only [cond_true, cond_false] <;> try omega
  cases (s.isK kCall && decide (3 < s.args.length)) <;> simp only [cond_true, cond_false] <;> try omega
  cases ((!s.isK kCall && decide (0 < s.args.length)) || (s.isK kNew && !decide (s.y = 0))) <;> simp
theorem PP.err1_le (P : PP) : P.err1 ≤ 9 := by
  unfold PP.err1
  cases P.big <;> simp only [cond_true, cond_false] <;> try omega
  split
  · omega
  · split
    · omega
    · unfold PP.funsErr
      cases (P.funs.any bad9) <;> simp only [cond_true, cond_false] <;> try omega
      cases (P.funs.any P.bad2) <;> simp only [cond_true, cond_false] <;> try omega
      cases (P.funs.any bad7) <;> simp
theorem PP.FirstBad.uniq {P : PP} {i j : Nat} {s t : PS} (h : P.FirstBad i s) (g : P.FirstBad j t) : i = j ∧ s = t := by
  obtain ⟨h1, h2, h3⟩ := h
  obtain ⟨g1, g2, g3⟩ := g
  have e : i = j := by
    rcases Nat.lt_trichotomy i j with e | e | e
    · exact absurd (g3 i s e h1) h2
    · exact e
    · exact absurd (h3 j t e g1) g2
  subst e
  exact ⟨rfl, Option.some.inj (h1.symm.trans g1)⟩
theorem PP.FirstBad.not {P : PP} {i : Nat} {s : PS} (h : P.FirstBad i s) : ¬ P.allWell := fun g => by
  obtain ⟨h1, h2, _⟩ := h
  have hi : i < P.stmts.length := by
    rcases Nat.lt_or_ge i P.stmts.length with e | e
    · exact e
    · rw [List.getElem?_eq_none e] at h1; cases h1
  exact h2 (g i s hi h1)
theorem FaultIs.uniq {P : PP} {c d : Nat} {p q : Int} (h : FaultIs P c p) (g : FaultIs P d q) : c = d ∧ p = q := by
  rcases h with ⟨h1, h2, h3⟩ | ⟨h1, h2, h3, h4⟩ | ⟨h1, i, s, h2, h3, h4⟩ <;> rcases g with ⟨g1, g2, g3⟩ | ⟨g1, g2, g3, g4⟩ | ⟨g1, j, t, g2, g3, g4⟩
  · exact ⟨h2.trans g2.symm, h3.trans g3.symm⟩
  · exact absurd g1 h1
  · exact absurd g1 h1
  · exact absurd h1 g1
  · exact ⟨h3.trans g3.symm, h4.trans g4.symm⟩
  · exact absurd h2 g2.not
  · exact absurd h1 g1
  · exact absurd g2 h2.not
  · obtain ⟨rfl, rfl⟩ := h2.uniq g2
    exact ⟨h3.trans g3.symm, h4.trans g4.symm⟩
theorem PP.FirstK.uniq {P : PP} {l : List Int} {i j : Nat} (h : P.FirstK l i) (g : P.FirstK l j) : i = j := by
  obtain ⟨x, h1, h2, h3⟩ := h
  obtain ⟨y, g1, g2, g3⟩ := g
  rcases Nat.lt_trichotomy i j with e | e | e
  · rw [g3 i x e h1] at h2; cases h2
  · exact e
  · rw [h3 j y e g1] at g2; cases g2
def RunFault (P : PP) (l : List Int) (c : Nat) (p : Int) : Prop :=
  (¬ (P.err1 = 0 ∧ P.allWell) ∧ FaultIs P c p) ∨ (P.err1 = 0 ∧ P.allWell ∧ 2000 < l.length ∧ c = 8 ∧ p = -1) ∨
  (P.err1 = 0 ∧ P.allWell ∧ l.length ≤ 2000 ∧ ∃ i : Nat, P.FirstK l i ∧ c = 2 ∧ p = (i : Int))
theorem RunFault.uniq {P : PP} {l : List Int} {c d : Nat} {p q : Int} (h : RunFault P l c p) (g : RunFault P l d q) : c = d ∧ p = q := by
  rcases h with ⟨h1, h2⟩ | ⟨h1, h2, h3, h4, h5⟩ | ⟨h1, h2, h3, i, h4, h5, h6⟩ <;> rcases g with ⟨g1, g2⟩ | ⟨g1, g2, g3, g4, g5⟩ | ⟨g1, g2, g3, j, g4, g5, g6⟩
  · exact h2.uniq g2
  · exact absurd ⟨g1, g2⟩ h1
  · exact absurd ⟨g1, g2⟩ h1
  · exact absurd ⟨h1, h2⟩ g1
  · exact ⟨h4.trans g4.symm, h5.trans g5.symm⟩
  · omega
  · exact absurd ⟨h1, h2⟩ g1
  · omega
  · obtain rfl := h4.uniq g4
    exact ⟨h5.trans g5.symm, h6.trans g6.symm⟩
theorem code_of (w : World) (ad : Nat → Addr) (h : AllErrs w ad) (c : Nat) (h0 : c ≠ 0) (hc : c ≤ 11) :
    Calls Tryz.prog 56 #[evOf ad c] w fun e w' => e = .returned (.tuple #[.int .i64 (c : Int), .int .i64 (-1)]) ∧ Ext w w' := by
  have := code_err w ad h c hc
  unfold errv at this
  rw [if_neg h0] at this
  exact this
theorem code_at (w : World) (ad : Nat → Addr) (h : AllErrs w ad) (c : Nat) (h0 : c ≠ 0) (hc : c ≤ 11) (b : Nat) (i : Int) (hb : Blk w b #[.int .i64 i, evOf ad c] 94) :
    Calls Tryz.prog 56 #[.iface 92 (.pointer (some ⟨b, 0, none⟩))] w fun e w' => e = .returned (.tuple #[.int .i64 (c : Int), .int .i64 i]) ∧ Ext w w' := by
  have := code_fault w ad h b i c hc ((hb.cell 0).trans rfl) (IsAs.fault h c (by omega) b ((hb.cell 1).trans rfl))
  unfold codeV at this
  rw [if_neg h0] at this
  exact this
section
variable {P : Program} {ops : Array Oper} {X : Nat → Prop} {w0 : World} {Q : Act → World → Prop} {L : List Nat}
end
def IntsNew (W : World) (l : List Int) (v : Value) (w : World) : Prop := (∃ a n c, v = .slice a n c) ∧ IntsR w w.heap.size v l ∧ Ext W w
theorem IntsNew.ext {W w w' : World} {l : List Int} {v : Value} (h : IntsNew W l v w) (x : Ext w w') : IntsNew W l v w' := ⟨h.1, ElR.lift (h.2.1.old (x.old _)) x.size, h.2.2.trans x⟩
def RunNew (W : World) (P : PP) (l : List Int) (t : Value) (w : World) : Prop := (∃ a1 n1 c1 a2 n2 c2 a3 n3 c3 ev, t = .tuple #[.agg #[.slice a1 n1 c1, .slice a2 n2 c2, .slice a3 n3 c3], ev] ∧ RunOut P l W.heap.size w (.agg #[.slice a1 n1 c1, .slice a2 n2 c2, .slice a3 n3 c3]) ev) ∧ Ext W w
theorem RunNew.ext {W w w' : World} {P : PP} {l : List Int} {t : Value} (h : RunNew W P l t w) (x : Ext w w') : RunNew W P l t w' := by
  obtain ⟨⟨a1, n1, c1, a2, n2, c2, a3, n3, c3, ev, h1, h2⟩, h3⟩ := h
  exact ⟨⟨a1, n1, c1, a2, n2, c2, a3, n3, c3, ev, h1, h2.ext x⟩, h3.trans x⟩
def tup0 : Value → Value
  | .tuple cs => cs.getD 0 undef
  | _ => undef
def tup1 : Value → Value
  | .tuple cs => cs.getD 1 undef
  | _ => undef
def IsTup (t : Value) : Prop := ∃ u v, t = .tuple #[u, v]
theorem ErrIs.ext {ad : Nat → Addr} {P : PP} {w w' : World} {v : Value} (h : ErrIs ad P w v) (x : Ext w w') : ErrIs ad P w' v := by
  rcases h with h | h | ⟨h1, i, s, b, h2, h3, h4⟩
  · exact .inl h
  · exact .inr (.inl h)
  · exact .inr (.inr ⟨h1, i, s, b, h2, h3, h4.ext x⟩)
theorem RunNo.ext {ad : Nat → Addr} {P : PP} {l : List Int} {w w' : World} {v : Value} (h : RunNo ad P l w v) (x : Ext w w') : RunNo ad P l w' v := by
  rcases h with ⟨h1, h2⟩ | h | ⟨h1, h2, h3, i, b, h4, h5, h6⟩
  · exact .inl ⟨h1, h2.ext x⟩
  · exact .inr (.inl h)
  · exact .inr (.inr ⟨h1, h2, h3, i, b, h4, h5, h6.ext x⟩)
theorem FaultIs.zero {P : PP} {p : Int} (h : FaultIs P 0 p) : P.err1 = 0 ∧ P.allWell ∧ p = -1 := by
  rcases h with ⟨h1, h2, _⟩ | ⟨h1, h2, _, h4⟩ | ⟨h1, i, s, h2, h3, _⟩
  · exact absurd h2.symm h1
  · exact ⟨h1, h2, h4⟩
  · exact absurd h3.symm h2.2.1
theorem FaultIs.pos {P : PP} {c : Nat} {p : Int} (h : FaultIs P c p) (hc : c ≠ 0) : ¬ (P.err1 = 0 ∧ P.allWell) := fun g => by
  rcases h with ⟨h1, _, _⟩ | ⟨_, _, h3, _⟩ | ⟨_, i, s, h2, _, _⟩
  · exact h1 g.1
  · exact hc h3
  · exact h2.not g.2
end Go.Proofs.YtbagppdibncfdaaGreatDoor
