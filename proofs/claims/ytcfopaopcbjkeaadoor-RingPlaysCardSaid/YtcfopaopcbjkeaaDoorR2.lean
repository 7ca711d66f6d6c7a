
/- The ring in memory; a message is sent. -/
import Derived.Test.YtcfopaopcbjkeaaDoorProg
import Derived.Test.YtcfopaopcbjkeaaDoorOwn
import Derived.Test.YtcfopaopcbjkeaaDoorRL
import Derived.Test.YtcfopaopcbjkeaaDoorR1
namespace Go.Proofs.YtcfopaopcbjkeaaDoor
set_option linter.unusedSimpArgs false
set_option linter.unusedVariables false
open Go Go.RowKit

def pcells (ps : List (Int × Bool)) : List Value := ps.flatMap fun x => [.int .i64 x.1, .bool x.2]
theorem pcells_len (ps : List (Int × Bool)) : (pcells ps).length = 2 * ps.length := by
  induction ps with
  | nil => rfl
  | cons x l ih =>
    have : pcells (x :: l) = .int .i64 x.1 :: .bool x.2 :: pcells l := rfl
    rw [this]; simp only [List.length_cons, ih]; omega
theorem pcells_get (ps : List (Int × Bool)) : ∀ i, i < ps.length → (pcells ps)[i * 2]? = some (.int .i64 (ps.getD i (0, false)).1) ∧ (pcells ps)[i * 2 + 1]? = some (.bool (ps.getD i (0, false)).2) := by
  induction ps with
  | nil => intro i h; simp at h
  | cons x l ih =>
    intro i h
    cases i with
    | zero => simp [pcells]
    | succ i =>
      have := ih i (by simp at h; omega)
      rw [show (i + 1) * 2 = i * 2 + 2 by omega, show i * 2 + 2 + 1 = i * 2 + 1 + 2 by omega]
      simpa [pcells] using this
theorem pcells_set (ps : List (Int × Bool)) : ∀ i (x : Int × Bool), i < ps.length → ((pcells ps).set (i * 2) (.int .i64 x.1)).set (i * 2 + 1) (.bool x.2) = pcells (ps.set i x) := by
  induction ps with
  | nil => intro i x h; simp at h
  | cons y l ih =>
    intro i x h
    cases i with
    | zero => simp [pcells]
    | succ i =>
      have := ih i x (by simp at h; omega)
      rw [show (i + 1) * 2 = i * 2 + 1 + 1 by omega]
      simp only [pcells, List.flatMap_cons, List.cons_append, List.nil_append, List.set_cons_succ] at this ⊢
      rw [this]

structure RingAt (w : World) (p b1 b2 : Nat) (su : Value) (s : RS) : Prop where
  hp : Blk w p #[.slice (some ⟨b1, 0, none⟩) s.n s.n, .slice (some ⟨b2, 0, none⟩) s.n s.n, su, .int .i64 s.tc, .bool s.tb, .int .i64 (s.pos : Int), .bool s.fr, .bool s.told] 120
  h1 : Blk w b1 (pcells s.ps).toArray 45
  h2 : Blk w b2 (s.ac.map Value.bool).toArray 4
  hu : w.ownsRow 0 3 1 su s.un.length (s.un.map fun t : Nat => Value.int .i64 (t : Int))
  d1 : p ≠ b1
  d2 : p ≠ b2
  d3 : b1 ≠ b2
  du : ∀ k, su.ownBlock = some k → k ≠ p ∧ k ≠ b1 ∧ k ≠ b2

theorem ownsRow_ext {w w' : World} {e : TypeId} {size : Nat} {v : Value} {n : Nat} {xs : List Value} (h : w.ownsRow 0 e size v n xs) (x : Ext w w') : w'.ownsRow 0 e size v n xs :=
  h.kept (row := none) ⟨x.os, x.tape, x.output, x.size, fun k hk _ => x.block k hk⟩ (by cases hv : v.ownBlock <;> simp)
theorem ownsRow_keep {X : Nat → Prop} {w w' : World} {e : TypeId} {size : Nat} {v : Value} {n : Nat} {xs : List Value} (h : w.ownsRow 0 e size v n xs) (x : Keep X w w') (hx : ∀ k, v.ownBlock = some k → ¬ X k) : w'.ownsRow 0 e size v n xs := by
  refine ⟨h.1, ?_⟩
  rcases h.2 with hn | ⟨g, cap, cur, rfl, hb, hgg, rest⟩
  · exact .inl hn
  · exact .inr ⟨g, cap, cur, rfl, hb, Keep.get x hgg (hx g rfl), rest⟩

def fp (p b1 b2 : Nat) (su : Value) : Nat → Prop := fun k => k = p ∨ k = b1 ∨ k = b2 ∨ su.ownBlock = some k

theorem RingAt.ext {w w' : World} {p b1 b2 : Nat} {su : Value} {s : RS} (h : RingAt w p b1 b2 su s) (x : Ext w w') : RingAt w' p b1 b2 su s :=
  ⟨h.hp.ext x, h.h1.ext x, h.h2.ext x, ownsRow_ext h.hu x, h.d1, h.d2, h.d3, h.du⟩
theorem RingAt.keep {X : Nat → Prop} {w w' : World} {p b1 b2 : Nat} {su : Value} {s : RS} (h : RingAt w p b1 b2 su s) (x : Keep X w w') (hx : ∀ k, fp p b1 b2 su k → ¬ X k) : RingAt w' p b1 b2 su s :=
  ⟨h.hp.keep x (hx _ (.inl rfl)), h.h1.keep x (hx _ (.inr (.inl rfl))), h.h2.keep x (hx _ (.inr (.inr (.inl rfl)))), ownsRow_keep h.hu x fun k hk => hx k (.inr (.inr (.inr hk))), h.d1, h.d2, h.d3, h.du⟩

def RPost (w : World) (p b1 b2 : Nat) (su : Value) (s' : RS) : Ending → World → Prop := fun e w' =>
  e = .returned (.tuple #[]) ∧ ∃ su', RingAt w' p b1 b2 su' s' ∧ Keep (fp p b1 b2 su) w w' ∧ ∀ k, su'.ownBlock = some k → su.ownBlock = some k ∨ w.heap.size ≤ k

theorem RPost.same {w w' : World} {p b1 b2 : Nat} {su : Value} {s : RS} (h : RingAt w p b1 b2 su s) (x : Ext w w') : RPost w p b1 b2 su s (.returned (.tuple #[])) w' :=
  ⟨rfl, su, h.ext x, x.keep _, fun _ hk => .inl hk⟩

theorem RingAt.peer {w : World} {p b1 b2 : Nat} {su : Value} {s : RS} (h : RingAt w p b1 b2 su s) {i : Nat} (hi : i < s.n) :
    w.cell? ⟨b1, i * 2, none⟩ = some (.int .i64 (s.cnt i)) ∧ w.cell? ⟨b1, i * 2 + 1, none⟩ = some (.bool (s.blk i)) := by
  have := pcells_get s.ps i hi
  exact ⟨(h.h1.cell _).trans (by simpa [RS.cnt] using this.1), (h.h1.cell _).trans (by simpa [RS.blk] using this.2)⟩
theorem RingAt.live {w : World} {p b1 b2 : Nat} {su : Value} {s : RS} (h : RingAt w p b1 b2 su s) {i : Nat} (hi : i < s.ac.length) :
    w.cell? ⟨b2, i, none⟩ = some (.bool (s.act i)) :=
  (h.h2.cell _).trans (by simp [RS.act, hi])

theorem Tryd_info : (Tryd.prog.info? 3).map (fun i => (i.zero, i.size, i.bytes)) = some (some (.int .i64 0), 1, 8) := by kernel_rfl

set_option maxRecDepth 100000 in
set_option maxHeartbeats 800000 in
theorem send_no (s : RS) (m : Nat) (ok : s.Ok m) (q : Nat) (w : World) (p b1 b2 : Nat) (su : Value) (h : RingAt w p b1 b2 su s) (hq : (q : Int) ≤ 9223372036854775807)
    (ha : s.act (q % s.n) = false) : Calls Tryd.prog 55 #[.pointer (some ⟨p, 0, none⟩), .int .i64 q] w (RPost w p b1 b2 su (s.send q)) := by
  have hlo := ok.lo
  have hhi := ok.hi
  have hs : s.send q = s := by unfold RS.send; simp [ha]
  rw [hs]
  have hfr : (q : Int) % (s.n : Int) = ((q % s.n : Nat) : Int) := rfl
  have hlt : q % s.n < s.n := Nat.mod_lt _ (by omega)
  have c0 := h.hp.cell 0
  have c1 := h.hp.cell 1
  have cl := h.live (i := q % s.n) (by rw [ok.la]; exact hlt)
  rw [ha] at cl
  have hR := RPost.same h (Ext.refl w)
  generalize RPost w p b1 b2 su s = R at *
  generalize q % s.n = fr at *
  have hfr0 : (0 : Int) ≤ (q : Int) % (s.n : Int) := by omega
  have hfr1 : (q : Int) % (s.n : Int) < (s.n : Int) := by omega
  clear h hs ha ok
  go_enter Tryd.func55, Tryd.ntmps55
  go_wp2
  go_end0
  exact hR

theorem RingAt.sent {w w' : World} {p b1 b2 : Nat} {su : Value} {s : RS} (h : RingAt w p b1 b2 su s) {i : Nat} (x : Int × Bool) (hk : Keep (fun k => k = b1) w w') (hb : Blk w' b1 (pcells (s.ps.set i x)).toArray 45) :
    RingAt w' p b1 b2 su { s with ps := s.ps.set i x } := by
  have hn : ({ s with ps := s.ps.set i x } : RS).n = s.n := by simp [RS.n]
  refine ⟨?_, hb, h.h2.keep hk fun e => h.d3 e.symm, ownsRow_keep h.hu hk fun k hk' e => (h.du k hk').2.1 e, h.d1, h.d2, h.d3, h.du⟩
  rw [hn]
  exact h.hp.keep hk h.d1
theorem RingAt.under {w w' : World} {p b1 b2 : Nat} {su su' : Value} {s : RS} (h : RingAt w p b1 b2 su s) (hk : Keep (fun k => k = p ∨ su.ownBlock = some k) w w') (un' : List Nat)
    (hb : Blk w' p #[.slice (some ⟨b1, 0, none⟩) s.n s.n, .slice (some ⟨b2, 0, none⟩) s.n s.n, su', .int .i64 s.tc, .bool s.tb, .int .i64 (s.pos : Int), .bool s.fr, .bool s.told] 120)
    (ho : w'.ownsRow 0 3 1 su' un'.length (un'.map fun t : Nat => Value.int .i64 (t : Int))) (hsu : ∀ k, su'.ownBlock = some k → su.ownBlock = some k ∨ w.heap.size ≤ k) :
    RingAt w' p b1 b2 su' { s with un := un' } := by
  refine ⟨hb, h.h1.keep hk fun e => e.elim (fun e => h.d1 e.symm) fun e => (h.du b1 e).2.1 rfl, h.h2.keep hk fun e => e.elim (fun e => h.d2 e.symm) fun e => (h.du b2 e).2.2 rfl, ho, h.d1, h.d2, h.d3, fun k hk' => ?_⟩
  rcases hsu k hk' with h1 | h1
  · exact h.du k h1
  · have := h.hp.lt; have := h.h1.lt; have := h.h2.lt
    exact ⟨by omega, by omega, by omega⟩

set_option maxRecDepth 100000 in
set_option maxHeartbeats 1600000 in
theorem send_yes (s : RS) (m : Nat) (ok : s.Ok m) (hm : m ≤ 1000000) (q : Nat) (w : World) (p b1 b2 : Nat) (su : Value) (h : RingAt w p b1 b2 su s) (hq : (q : Int) ≤ 9223372036854775807)
    (ha : s.act (q % s.n) = true) : Calls Tryd.prog 55 #[.pointer (some ⟨p, 0, none⟩), .int .i64 q] w (RPost w p b1 b2 su (s.send q)) := by
  have hlo := ok.lo
  have hhi := ok.hi
  have hs : s.send q = { s with ps := s.ps.set (q % s.n) (s.cnt (q % s.n) + 1, s.blk (q % s.n)), un := s.un ++ [s.goal q] } := by unfold RS.send; simp [ha]
  rw [hs]
  have hlt : q % s.n < s.n := Nat.mod_lt _ (by omega)
  have c0 : w.cell? ⟨p, 0, none⟩ = some (.slice (some ⟨b1, 0, none⟩) s.n s.n) := h.hp.cell 0
  have c1 : w.cell? ⟨p, 1, none⟩ = some (.slice (some ⟨b2, 0, none⟩) s.n s.n) := h.hp.cell 1
  have cl := h.live (i := q % s.n) (by rw [ok.la]; exact hlt)
  rw [ha] at cl
  have cp := h.peer hlt
  have hcb := ok.cb (q % s.n)
  have hgoal : ((s.goal q : Nat) : Int) = ((q : Int) % (s.n : Int) + 1 + (q : Int) / (s.n : Int) % ((s.n : Int) - 1)) % (s.n : Int) := by
    unfold RS.goal
    rw [Int.natCast_emod, Int.natCast_add, Int.natCast_add, Int.natCast_emod, Int.natCast_emod, Int.natCast_ediv, Int.natCast_sub (by omega)]
    rfl
  have hgb : (0 : Int) ≤ (q : Int) / (s.n : Int) % ((s.n : Int) - 1) ∧ (q : Int) / (s.n : Int) % ((s.n : Int) - 1) < (s.n : Int) - 1 := ⟨Int.emod_nonneg _ (by omega), Int.emod_lt_of_pos _ (by omega)⟩
  have hqb : (0 : Int) ≤ (q : Int) / (s.n : Int) ∧ (q : Int) / (s.n : Int) ≤ 9223372036854775807 := ⟨Int.ediv_nonneg (by omega) (by omega), by have := Int.ediv_le_self (a := (q : Int)) (s.n : Int) (by omega); omega⟩
  have hfr : (q : Int) % (s.n : Int) = ((q % s.n : Nat) : Int) := rfl
  have hfr0 : (0 : Int) ≤ (q : Int) % (s.n : Int) := by omega
  have hfr1 : (q : Int) % (s.n : Int) < (s.n : Int) := by omega
  have Hgoal := hid hgoal
  have Hgb := hid hgb
  have Hqb := hid hqb
  clear hgoal hgb hqb
  generalize hfrd : q % s.n = fr at *
  generalize hcd : s.cnt fr = c at *
  generalize hbd : s.blk fr = bl at *
  clear hfrd ha
  have Hc := hid hcd
  have Hb := hid hbd
  clear hcd hbd
  have hlt' : (fr : Int) < (s.n : Int) := by omega
  go_enter Tryd.func55, Tryd.ntmps55
  go_wp2
  have g0 := h.hp.kc (X := fun _ => False) (fun e => e) 0 rfl
  have g5 : ∀ w1, Keep (fun _ => False) w w1 → w1.cell? ⟨b1, fr * 2, none⟩ = some (.int .i64 c) := fun w1 hk => by rw [← Hc.out]; exact ((h.ext hk.ext).peer hlt).1
  have g6 : ∀ w1, Keep (fun _ => False) w w1 → w1.cell? ⟨b1, fr * 2 + 1, none⟩ = some (.bool bl) := fun w1 hk => by rw [← Hb.out]; exact ((h.ext hk.ext).peer hlt).2
  clear c0 c1 cl cp hs
  refine wp_flowT (fun _ => False) (by kernel_rfl) (by kernel_rfl) ?_
  repeat (apply FlowT.d; (intro w1 hk; unfold does; go_simp; (try go_ints); (first | exact DetR.mk | (simp only [↓IntWalk.iteOmega, Oper.doesUpon_value]; exact DetR.mk) | (simp only [↓IntWalk.iteOmega]; go_simp; (try go_ints); exact DetR.mk))); simp only [Act.put, List.setIfInBounds_toArray, List.set_cons_zero, List.set_cons_succ])
  apply FlowT.d
  · intro w1 hk
    unfold does
    go_simp
    exact CallR.det (sent_any c bl w1 (by omega) (by omega))
  simp only [Act.put, List.setIfInBounds_toArray, List.set_cons_zero, List.set_cons_succ]
  repeat (apply FlowT.d; (intro w1 hk; unfold does; go_simp; (try go_ints); (first | exact DetR.mk | (simp only [↓IntWalk.iteOmega, Oper.doesUpon_value]; exact DetR.mk) | (simp only [↓IntWalk.iteOmega]; go_simp; (try go_ints); exact DetR.mk))); simp only [Act.put, List.setIfInBounds_toArray, List.set_cons_zero, List.set_cons_succ])
  refine FlowT.last (fun _ w' => Keep (fun k => k = b1) w w' ∧ Blk w' b1 (pcells (s.ps.set fr (c + 1, bl))).toArray 45) 14 rfl (by kernel_rfl) (by kernel_rfl) (fun w1 hC hk => ?_) (fun v W hR => ?_)
  · have hb := h.h1.ext hC
    have q5 := g5 w1 hk
    have q6 := g6 w1 hk
    have f0 := hb.free (fr * 2)
    have f1 := hb.free (fr * 2 + 1)
    unfold does
    go_simp
    refine ⟨Keep.set (X := fun k => k = b1) (Keep.set (X := fun k => k = b1) (hC.keep _) rfl _) rfl _, ?_⟩
    have := (hb.set (fr * 2) (.int .i64 (c + 1))).set (fr * 2 + 1) (.bool bl)
    rw [← pcells_set s.ps fr (c + 1, bl) hlt]
    simpa using this
  have h' := h.sent (c + 1, bl) hR.1 hR.2
  have hk1 := hR.1
  have hgb := Hgb.out
  have hqb := Hqb.out
  obtain ⟨e1, he1⟩ : ∃ e : Int, e = (q : Int) / (s.n : Int) := ⟨_, rfl⟩
  rw [← he1] at hgb hqb
  have Hg2 : Hid ((s.goal q : Int) = ((fr : Int) + 1 + e1 % ((s.n : Int) - 1)) % (s.n : Int)) := by rw [he1, ← hfr]; exact Hgoal.out
  have He1 := hid he1
  clear he1 Hgoal Hgb Hqb g0 g5 g6 hR
  have hx0 : 0 ≤ (fr : Int) + 1 + e1 % ((s.n : Int) - 1) := by omega
  have hx1 : (fr : Int) + 1 + e1 % ((s.n : Int) - 1) ≤ 100 := by omega
  have hxg : ((fr : Int) + 1 + e1 % ((s.n : Int) - 1)).tmod (s.n : Int) = (s.goal q : Int) := by rw [Int.tmod_eq_emod_of_nonneg hx0, ← Hg2.out]
  have Hx := hid hxg
  clear hxg
  have hn0 : ((s.n : Int) == 0) = false := by simp; omega
  have hn1 : ((s.n : Int) - 1 == 0) = false := by simp; omega
  have hn2 : ((s.n : Int) - 1 = 0) = False := by simp; omega
  have hn3 : ((s.n : Int) = 0) = False := by simp; omega
  have hn4 : (s.n = 0) = False := by simp; omega
  have hw2' : IntKind.i64.wrap ((q : Int) / (s.n : Int)) = e1 := by rw [← He1.out]; exact IntWalk.i64_in _ (by omega)
  simp only [Act.put]
  go_wp2
  refine wp_flowT (fun k => su.ownBlock = some k) (by kernel_rfl) (by kernel_rfl) ?_
  have g2 := h'.hp.kc (X := fun k => su.ownBlock = some k) (fun e => (h'.du _ e).1 rfl) 2 rfl
  rw [hfr]
  clear hfr0 hfr1 hfr
  repeat (apply FlowT.d; (intro w1 hk; unfold does; go_simp; (try go_ints); (first | exact DetR.mk | (simp only [↓IntWalk.iteOmega, Oper.doesUpon_value]; exact DetR.mk) | (simp only [↓IntWalk.iteOmega]; go_simp; (try go_ints); exact DetR.mk))); simp only [Act.put, List.setIfInBounds_toArray, List.set_cons_zero, List.set_cons_succ])
  simp only [IntWalk.wrap64_in _ ⟨(by omega : -9223372036854775808 ≤ (fr : Int) + 1 + e1 % ((s.n : Int) - 1)), by omega⟩, Hx.out, ← Hg2.out]
  have hul := ok.ul
  obtain ⟨ti, hi, hz0, hz1, hz2⟩ := info_parts Tryd_info
  refine FlowT.s (fun v' w' => ∃ b, v' = .slice (some ⟨b, 0, none⟩) 1 1 ∧ Blk w' b #[.int .i64 (s.goal q : Int)] 3 ∧ Ext W w') 16 rfl (by kernel_rfl) (fun _ _ _ ⟨b, h1, h2, h3⟩ he => ⟨b, h1, h2.ext he, h3.trans he⟩) (fun w2 hC hk => ?_) (fun v2 hv2 => ?_)
  · unfold does
    go_simp
    exact ⟨hk.alloc _, _, rfl, Blk.new _ _ _, hC.alloc _⟩
  obtain ⟨_, b, rfl, _, _⟩ := hv2
  simp only [Act.put, List.setIfInBounds_toArray, List.set_cons_zero, List.set_cons_succ]
  refine FlowT.s (fun v' w' => w'.ownsRow 0 3 1 v' (s.un ++ [s.goal q]).length ((s.un ++ [s.goal q]).map fun t : Nat => Value.int .i64 (t : Int)) ∧ ∀ k, v'.ownBlock = some k → su.ownBlock = some k ∨ W.heap.size ≤ k) 17 rfl (by kernel_rfl)
    (fun _ _ _ h he => ⟨ownsRow_ext h.1 he, h.2⟩) (fun w2 hC hk => ?_) (fun v3 hv3 => ?_)
  · obtain ⟨b', hb', hblk, hx⟩ := hC
    obtain rfl : b = b' := by simpa using hb'
    have hul' := hul
    refine does_append rfl (.tmp 40) (.tmp 52) 22 rfl 3 ti (.int .i64 0) 1 8 Tryd.underlying22 hi hz0 hz1 hz2 rfl (by decide) su s.un.length (s.un.map fun t : Nat => Value.int .i64 (t : Int)) rfl (ownsRow_ext h'.hu hx) ⟨b, 0, none⟩ 1 1 [.int .i64 (s.goal q : Int)] rfl rfl ?_ (by simp [Value.oneCell']) (by unfold maxLen; omega) (by omega) (fun v' w' ho hkk hb2 => ?_)
    · intro j u hj
      cases j with
      | zero => simp at hj; subst hj; exact (hblk.cell 0)
      | succ j => simp at hj
    · refine ⟨(hx.keep _).trans hkk, ?_, ?_⟩
      · simpa using ho
      · intro k hk'
        rcases hb2 k hk' with h1 | h1
        · exact .inl h1
        · exact .inr (Nat.le_trans hx.size h1)
  have hv3' : ∃ a n c, v3 = .slice a n c := by
    obtain ⟨_, h1, _⟩ := hv3
    rcases h1.2 with ⟨h2, _⟩ | ⟨g, cap, cur, h2, _⟩
    · exact ⟨_, _, _, h2⟩
    · exact ⟨_, _, _, h2⟩
  obtain ⟨a3, n3, c3, rfl⟩ := hv3'
  clear hv3
  simp only [Act.put, List.setIfInBounds_toArray, List.set_cons_zero, List.set_cons_succ]
  repeat (apply FlowT.d; (intro w1 hk; unfold does; go_simp; (try go_ints); (first | exact DetR.mk | (simp only [↓IntWalk.iteOmega, Oper.doesUpon_value]; exact DetR.mk) | (simp only [↓IntWalk.iteOmega]; go_simp; (try go_ints); exact DetR.mk))); simp only [Act.put, List.setIfInBounds_toArray, List.set_cons_zero, List.set_cons_succ])
  refine FlowT.last (fun _ w' => ∃ w2, w2.ownsRow 0 3 1 (.slice a3 n3 c3) (s.un ++ [s.goal q]).length ((s.un ++ [s.goal q]).map fun t : Nat => Value.int .i64 (t : Int)) ∧ (∀ k, (Value.slice a3 n3 c3).ownBlock = some k → su.ownBlock = some k ∨ W.heap.size ≤ k) ∧ Keep (fun k => su.ownBlock = some k) W w2 ∧ w' = w2.setCell ⟨p, 2, none⟩ (.slice a3 n3 c3)) 20 rfl (by kernel_rfl) (by kernel_rfl) (fun w2 hC hk => ?_) (fun v w2 hR => ?_)
  · have q2 := g2 w2 hk
    have f2 := (h'.hp.keep hk fun e => (h'.du _ e).1 rfl).free 2
    unfold does
    go_simp
    exact ⟨w2, (by simpa using hC.1 : _), hC.2, hk, rfl⟩
  obtain ⟨w3, ho, hb3, hk3, rfl⟩ := hR
  simp only [Act.put]
  go_end0
  have hps := h'.hp.keep hk3 fun e => (h'.du _ e).1 rfl
  have hne : ∀ k, (Value.slice a3 n3 c3).ownBlock = some k → k ≠ p := fun k hk e => by
    rcases hb3 k hk with h1 | h1
    · exact (h'.du _ h1).1 e
    · have := h'.hp.lt; omega
  have hk4 : Keep (fun k => k = p ∨ su.ownBlock = some k) W (w3.setCell ⟨p, 2, none⟩ (.slice a3 n3 c3)) := (hk3.mono fun k _ h => .inr h).set (.inl rfl) _
  have fin := h'.under hk4 (s.un ++ [s.goal q]) (su' := .slice a3 n3 c3) (by simpa using hps.set 2 (.slice a3 n3 c3)) (ownsRow_keep (X := fun k => k = p) ho (Keep.set (X := fun k => k = p) (Keep.refl _ _) rfl _) hne) hb3
  refine ⟨rfl, _, fin, ?_, fun k hk => ?_⟩
  · exact (hk1.mono fun k _ h => .inr (.inl h)).trans (hk4.mono fun k _ h => h.elim .inl fun h => .inr (.inr (.inr h)))
  · rcases hb3 k hk with h1 | h1
    · exact .inl h1
    · exact .inr (Nat.le_trans hk1.size h1)
end Go.Proofs.YtcfopaopcbjkeaaDoor
