
/- The reference's ring: a number is done: nothing; a message is sent. -/
import Derived.Test.YtcfopaopcbjkeaaDoorG1
namespace Go.Proofs.YtcfopaopcbjkeaaDoor
set_option linter.unusedSimpArgs false
set_option linter.unusedVariables false
open Go Go.RowKit

theorem RQ.same {w w' : World} {p b1 b2 b3 k1 k2 k3 : Nat} {su : Value} {s : RS} (h : RefAt w p b1 b2 b3 k1 k2 k3 su s) (x : Ext w w') : RQ w p b1 b2 b3 k1 k2 k3 su s (.returned (.tuple #[])) w' :=
  ⟨rfl, su, h.ext x, x.keep _, fun _ hk => .inl hk⟩
theorem map_cnt (s : RS) {i : Nat} (hi : i < s.n) : (s.ps.map fun x => Value.int .i64 x.1)[i]? = some (.int .i64 (s.cnt i)) := by
  have h : i < s.ps.length := hi
  simp [RS.cnt, List.getElem?_eq_getElem h]
theorem map_blk (s : RS) {i : Nat} (hi : i < s.n) : (s.ps.map fun x => Value.bool x.2)[i]? = some (.bool (s.blk i)) := by
  have h : i < s.ps.length := hi
  simp [RS.blk, List.getElem?_eq_getElem h]
theorem map_act (s : RS) {i : Nat} (hi : i < s.ac.length) : (s.ac.map Value.bool)[i]? = some (.bool (s.act i)) := by
  simp [RS.act, List.getElem?_eq_getElem hi]

theorem map_set_fst (l : List (Int × Bool)) (i : Nat) (x : Int × Bool) : ((l.set i x).map fun y => Value.int .i64 y.1) = (l.map fun y => Value.int .i64 y.1).set i (.int .i64 x.1) := by rw [List.map_set]
theorem map_set_snd (l : List (Int × Bool)) (i : Nat) (x : Int × Bool) : ((l.set i x).map fun y => Value.bool y.2) = (l.map fun y => Value.bool y.2).set i (.bool x.2) := by rw [List.map_set]
theorem set_same {α : Type} (l : List α) (i : Nat) (x : α) (h : l[i]? = some x) : l.set i x = l := by
  apply List.ext_getElem?
  intro j
  rw [List.getElem?_set]
  by_cases hij : i = j
  · subst hij
    rw [h]
    have : i < l.length := by
      rcases Nat.lt_or_ge i l.length with h1 | h1
      · exact h1
      · rw [List.getElem?_eq_none h1] at h; cases h
    simp [this]
  · simp [hij]
theorem kset (w : World) (b i : Nat) (v : Value) : Keep (fun k => k = b) w (w.setCell ⟨b, i, none⟩ v) := Keep.set (X := fun k => k = b) (Keep.refl _ _) rfl _

section
variable {w : World} {p b1 b2 b3 k1 k2 k3 : Nat} {su : Value} {s : RS}
theorem RefAt.setCnt (h : RefAt w p b1 b2 b3 k1 k2 k3 su s) (i : Nat) (hi : i < s.n) (c : Int) : RefAt (w.setCell ⟨b1, i, none⟩ (.int .i64 c)) p b1 b2 b3 k1 k2 k3 su { s with ps := s.ps.set i (c, s.blk i) } := by
  obtain ⟨d1, d2, d3, d4, d5, d6⟩ := h.d
  have hk := kset w b1 i (.int .i64 c)
  have hn : ({ s with ps := s.ps.set i (c, s.blk i) } : RS).n = s.n := by simp [RS.n]
  refine ⟨?_, ?_, ?_, h.h3.keep hk fun e => d5 e.symm, ownsRow_keep h.hu hk fun k hk' e => (h.du k hk').2.1 e, h.d, h.du⟩
  · rw [hn]; exact h.hp.keep hk d1
  · rw [map_set_fst]; exact h.h1.set i _ (by simpa [RS.n] using hi)
  · rw [map_set_snd, set_same _ _ _ (map_blk s hi)]; exact h.h2.keep hk fun e => d4 e.symm
theorem RefAt.setBlk (h : RefAt w p b1 b2 b3 k1 k2 k3 su s) (i : Nat) (hi : i < s.n) (b : Bool) : RefAt (w.setCell ⟨b2, i, none⟩ (.bool b)) p b1 b2 b3 k1 k2 k3 su { s with ps := s.ps.set i (s.cnt i, b) } := by
  obtain ⟨d1, d2, d3, d4, d5, d6⟩ := h.d
  have hk := kset w b2 i (.bool b)
  have hn : ({ s with ps := s.ps.set i (s.cnt i, b) } : RS).n = s.n := by simp [RS.n]
  refine ⟨?_, ?_, ?_, h.h3.keep hk fun e => d6 e.symm, ownsRow_keep h.hu hk fun k hk' e => (h.du k hk').2.2.1 e, h.d, h.du⟩
  · rw [hn]; exact h.hp.keep hk d2
  · rw [map_set_fst, set_same _ _ _ (map_cnt s hi)]; exact h.h1.keep hk d4
  · rw [map_set_snd]; exact h.h2.set i _ (by simpa [RS.n] using hi)
theorem RefAt.setAct (h : RefAt w p b1 b2 b3 k1 k2 k3 su s) (i : Nat) (hi : i < s.ac.length) (b : Bool) : RefAt (w.setCell ⟨b3, i, none⟩ (.bool b)) p b1 b2 b3 k1 k2 k3 su { s with ac := s.ac.set i b } := by
  obtain ⟨d1, d2, d3, d4, d5, d6⟩ := h.d
  have hk := kset w b3 i (.bool b)
  refine ⟨h.hp.keep hk d3, h.h1.keep hk d5, h.h2.keep hk d6, ?_, ownsRow_keep h.hu hk fun k hk' e => (h.du k hk').2.2.2 e, h.d, h.du⟩
  simp only
  rw [List.map_set]
  exact h.h3.set i _ (by simpa using hi)
theorem RefAt.setP (h : RefAt w p b1 b2 b3 k1 k2 k3 su s) {w' : World} (hk : Keep (fun k => k = p) w w') (s' : RS) (hps : s'.ps = s.ps) (hac : s'.ac = s.ac) (hun : s'.un = s.un)
    (hp : Blk w' p #[.int .i64 (s.n : Int), .slice (some ⟨b1, 0, none⟩) s.n k1, .slice (some ⟨b2, 0, none⟩) s.n k2, .slice (some ⟨b3, 0, none⟩) s.n k3, su, .int .i64 (s'.pos : Int), .int .i64 s'.tc, .bool s'.tb, .bool (!s'.fr), .bool s'.told] 60) : RefAt w' p b1 b2 b3 k1 k2 k3 su s' := by
  obtain ⟨d1, d2, d3, d4, d5, d6⟩ := h.d
  have hn : s'.n = s.n := by simp [RS.n, hps]
  refine ⟨by rw [hn]; exact hp, ?_, ?_, ?_, ?_, h.d, h.du⟩
  · rw [hps]; exact h.h1.keep hk fun e => d1 e.symm
  · rw [hps]; exact h.h2.keep hk fun e => d2 e.symm
  · rw [hac]; exact h.h3.keep hk fun e => d3 e.symm
  · rw [hun]; exact ownsRow_keep h.hu hk fun k hk' e => (h.du k hk').1 e
theorem RefAt.setUn (h : RefAt w p b1 b2 b3 k1 k2 k3 su s) {w' : World} {su' : Value} (hk : Keep (fun k => k = p ∨ su.ownBlock = some k) w w') (un' : List Nat)
    (hp : Blk w' p #[.int .i64 (s.n : Int), .slice (some ⟨b1, 0, none⟩) s.n k1, .slice (some ⟨b2, 0, none⟩) s.n k2, .slice (some ⟨b3, 0, none⟩) s.n k3, su', .int .i64 (s.pos : Int), .int .i64 s.tc, .bool s.tb, .bool (!s.fr), .bool s.told] 60)
    (ho : w'.ownsRow 0 124 1 su' un'.length (un'.map fun t : Nat => Value.int .i64 (t : Int))) (hsu : ∀ k, su'.ownBlock = some k → su.ownBlock = some k ∨ w.heap.size ≤ k) : RefAt w' p b1 b2 b3 k1 k2 k3 su' { s with un := un' } := by
  obtain ⟨d1, d2, d3, d4, d5, d6⟩ := h.d
  refine ⟨hp, h.h1.keep hk fun e => e.elim (fun e => d1 e.symm) fun e => (h.du b1 e).2.1 rfl, h.h2.keep hk fun e => e.elim (fun e => d2 e.symm) fun e => (h.du b2 e).2.2.1 rfl, h.h3.keep hk fun e => e.elim (fun e => d3 e.symm) fun e => (h.du b3 e).2.2.2 rfl, ho, h.d, fun k hk' => ?_⟩
  rcases hsu k hk' with e | e
  · exact h.du k e
  · have := h.hp.lt; have := h.h1.lt; have := h.h2.lt; have := h.h3.lt
    exact ⟨by omega, by omega, by omega, by omega⟩
end

set_option maxRecDepth 100000 in
set_option maxHeartbeats 800000 in
theorem ref_idle (s : RS) (v : Int) (w : World) (p b1 b2 b3 k1 k2 k3 : Nat) (su : Value) (h : RefAt w p b1 b2 b3 k1 k2 k3 su s) (ha : v < 0 ∨ s.told = true) :
    Calls Tryd.prog 27 #[.pointer (some ⟨p, 0, none⟩), .int .i64 v] w (RQ w p b1 b2 b3 k1 k2 k3 su s) := by
  have c9 := h.hp.av 9 rfl
  have hR := RQ.same h (Ext.refl w)
  generalize RQ w p b1 b2 b3 k1 k2 k3 su s = R at *
  clear h
  by_cases hv : v < 0
  · clear ha
    go_enter Tryd.func27, Tryd.ntmps27
    go_wp2
    go_end0
    exact hR
  · have ht : s.told = true := ha.resolve_left hv
    rw [ht] at c9
    clear ha ht
    go_enter Tryd.func27, Tryd.ntmps27
    go_wp2
    go_end0
    exact hR


set_option maxRecDepth 100000 in
set_option maxHeartbeats 1600000 in
theorem ref_send_no (s : RS) (m : Nat) (ok : s.Ok m) (v : Int) (w : World) (p b1 b2 b3 k1 k2 k3 : Nat) (su : Value) (h : RefAt w p b1 b2 b3 k1 k2 k3 su s) (hv0 : 0 ≤ v) (hv1 : v ≤ 9223372036854775807) (hto : ¬ s.told = true) (hv4 : v % 4 = 0) (ha : s.act ((v / 4).toNat % s.n) = false) :
    Calls Tryd.prog 27 #[.pointer (some ⟨p, 0, none⟩), .int .i64 v] w (RQ w p b1 b2 b3 k1 k2 k3 su (s.does v)) := by
  have ht : s.told = false := by simpa using hto
  have hs : s.does v = s.send (v / 4).toNat := by
    unfold RS.does
    rw [if_neg (by simp [ht]; omega)]
    simp only [hv4]
    rfl
  rw [hs]
  clear hs
  have c9 := h.hp.av 9 rfl
  rw [ht] at c9
  obtain ⟨q, hq⟩ : ∃ q : Nat, (q : Int) = v / 4 := ⟨(v / 4).toNat, by omega⟩
  have hqt : (v / 4).toNat = q := by omega
  (try rw [hqt])
  have hq9 : (q : Int) ≤ 9223372036854775807 := by omega
  have hv0' : ¬ v < 0 := by omega
  have hq' : v / 4 = (q : Int) := hq.symm
  have hlo := ok.lo
  have hhi := ok.hi
  rw [hqt] at ha
  have hs : s.send q = s := by unfold RS.send; simp [ha]
  rw [hs]
  have hfr : (q : Int) % (s.n : Int) = ((q % s.n : Nat) : Int) := rfl
  have hlt : q % s.n < s.n := Nat.mod_lt _ (by omega)
  have c0 := h.hp.av 0 rfl
  have c3 := h.hp.av 3 rfl
  have cl := h.h3.cell (q % s.n) (map_act s (by rw [ok.la]; exact hlt))
  rw [ha] at cl
  have hR := RQ.same h (Ext.refl w)
  generalize RQ w p b1 b2 b3 k1 k2 k3 su s = R at *
  generalize q % s.n = fr at *
  have hfr0 : (0 : Int) ≤ (q : Int) % (s.n : Int) := by omega
  have hfr1 : (q : Int) % (s.n : Int) < (s.n : Int) := by omega
  clear h hs ha ok ht hq hqt hto
  go_enter Tryd.func27, Tryd.ntmps27
  go_wp2
  go_end0
  exact hR
end Go.Proofs.YtcfopaopcbjkeaaDoor
