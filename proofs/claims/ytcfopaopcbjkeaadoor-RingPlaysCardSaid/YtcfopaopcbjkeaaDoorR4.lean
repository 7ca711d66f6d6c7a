
/- The ring: a message comes. -/
import Derived.Test.YtcfopaopcbjkeaaDoorR2
import Derived.Test.YtcfopaopcbjkeaaDoorR3
namespace Go.Proofs.YtcfopaopcbjkeaaDoor
set_option linter.unusedSimpArgs false
set_option linter.unusedVariables false
open Go Go.RowKit

def natv (t : Nat) : Value := .int .i64 (t : Int)

theorem RingAt.act1 {w w' : World} {p b1 b2 : Nat} {su : Value} {s : RS} (h : RingAt w p b1 b2 su s) (l : List Bool) (hk : Keep (fun k => k = b2) w w') (hb : Blk w' b2 (l.map Value.bool).toArray 4) :
    RingAt w' p b1 b2 su { s with ac := l } :=
  ⟨h.hp.keep hk h.d2, h.h1.keep hk h.d3, hb, ownsRow_keep h.hu hk fun k hk' e => (h.du k hk').2.2 e, h.d1, h.d2, h.d3, h.du⟩

set_option maxRecDepth 100000 in
set_option maxHeartbeats 800000 in
theorem come_no (s : RS) (q : Nat) (w : World) (p b1 b2 : Nat) (su : Value) (h : RingAt w p b1 b2 su s) 
    (ha : s.un.length = 0) : Calls Tryd.prog 56 #[.pointer (some ⟨p, 0, none⟩), .int .i64 q] w (RPost w p b1 b2 su (s.come q)) := by
  have hs : s.come q = s := by unfold RS.come; simp [ha]
  rw [hs]
  have hR := RPost.same h (Ext.refl w)
  have hsu : ∃ a c, su = .slice a 0 c := by
    have := h.hu.2
    rw [ha] at this
    rcases this with ⟨h1, _⟩ | ⟨g, cap, cur, h1, _⟩
    · exact ⟨_, _, h1⟩
    · exact ⟨_, _, h1⟩
  obtain ⟨a, c, rfl⟩ := hsu
  have c2 : w.cell? ⟨p, 2, none⟩ = some (.slice a 0 c) := h.hp.cell 2
  generalize RPost w p b1 b2 (.slice a 0 c) s = R at *
  clear h hs ha
  go_enter Tryd.func56, Tryd.ntmps56
  go_wp2
  go_end0
  exact hR

set_option maxRecDepth 100000 in
set_option maxHeartbeats 1600000 in
theorem come_yes (s : RS) (m : Nat) (ok : s.Ok m) (hm : m ≤ 1000000) (q : Nat) (w : World) (p b1 b2 : Nat) (su : Value) (h : RingAt w p b1 b2 su s) (hq : (q : Int) ≤ 9223372036854775807)
    (ha : 0 < s.un.length) : Calls Tryd.prog 56 #[.pointer (some ⟨p, 0, none⟩), .int .i64 q] w (RPost w p b1 b2 su (s.come q)) := by
  obtain ⟨to, hto⟩ : ∃ t, t = s.un.getD (q % s.un.length) 0 := ⟨_, rfl⟩
  have hs : s.come q = { s with un := s.un.eraseIdx (q % s.un.length), ps := s.ps.set to (s.cnt to - 1, true), ac := s.ac.set to true } := by
    unfold RS.come; rw [if_neg (by omega), hto]
  rw [hs]
  have hlt : q % s.un.length < s.un.length := Nat.mod_lt _ ha
  have hton : to < s.n := by
    rw [hto]; apply ok.un
    simp only [List.getD_eq_getElem?_getD, List.getElem?_eq_getElem hlt, Option.getD_some]
    exact List.getElem_mem _
  have hsu : ∃ g cap cur, su = .slice (some ⟨g, 0, none⟩) s.un.length cap ∧ Blk w g cur 3 ∧ s.un.length ≤ cap ∧ cap ≤ maxLen ∧ cur.size = cap ∧ cur.toList.take s.un.length = s.un.map natv := by
    rcases h.hu.2 with ⟨_, h1⟩ | ⟨g, cap, cur, h1, _, h2, h3, h4, h5, h6⟩
    · omega
    · exact ⟨g, cap, cur, h1, h2, h3, h4, by simpa using h5, by rw [Nat.mul_one] at h6; exact h6⟩
  obtain ⟨g, cap, cur, rfl, hbg, hlc, hcm, hcs, htk⟩ := hsu
  have hlo := ok.lo
  have hhi := ok.hi
  have hcb := ok.cb to
  have hul := ok.ul
  have hfr : (q : Int) % (s.un.length : Int) = ((q % s.un.length : Nat) : Int) := rfl
  have hget : cur[q % s.un.length]? = some (.int .i64 (to : Int)) := by
    have h1 : (cur.toList.take s.un.length)[q % s.un.length]? = some (natv to) := by
      rw [htk, List.getElem?_map, List.getElem?_eq_getElem hlt, hto]
      simp [hlt]
    rw [List.getElem?_take, if_pos hlt] at h1
    simpa [natv] using h1
  generalize hkd : q % s.un.length = k at *
  have hld : ∃ len, len = s.un.length := ⟨_, rfl⟩
  obtain ⟨len, hld⟩ := hld
  rw [← hld] at hlt hlc htk hfr ha hul
  have hone : ∀ u ∈ cur.toList.take len, u.oneCell' = true := by
    intro u hu
    rw [htk] at hu
    obtain ⟨t, _, rfl⟩ := List.mem_map.1 hu
    rfl
  have hg := h.du g rfl
  have c0 : w.cell? ⟨p, 0, none⟩ = some (.slice (some ⟨b1, 0, none⟩) s.n s.n) := h.hp.cell 0
  have c1 : w.cell? ⟨p, 1, none⟩ = some (.slice (some ⟨b2, 0, none⟩) s.n s.n) := h.hp.cell 1
  have c2 : w.cell? ⟨p, 2, none⟩ = some (.slice (some ⟨g, 0, none⟩) len cap) := by rw [hld]; exact h.hp.cell 2
  have ck : w.cell? ⟨g, k, none⟩ = some (.int .i64 (to : Int)) := (hbg.cell k).trans hget
  have hcm' : cap ≤ 9223372036854775807 := hcm
  have hk0 : (k : Int) < (len : Int) := by omega
  have hlen0 : ((len : Int) == 0) = false := by simp; omega
  have hlen1 : (len = 0) = False := by simp; omega
  have Hto := hid hto
  have Hld := hid hld
  have Htk := hid htk
  have Hkd := hid hkd
  have Hcs := hid hcs
  clear hto hkd htk hcs hget hs hcm hld
  have hkk := hfr
  go_enter Tryd.func56, Tryd.ntmps56
  go_wp2_with fail
  refine (deli_any g len cap k cur w hbg Hcs.out hlc hcm' hlt hone).mono ?_
  rintro e w1 ⟨rfl, hk1, cur', hb', hs', ht'⟩
  have hp1 := h.hp.keep hk1 (fun e => hg.1 e.symm)
  have q2 : w1.cell? ⟨p, 2, none⟩ = some (.slice (some ⟨g, 0, none⟩) s.un.length cap) := hp1.cell 2
  have f2 := hp1.free 2
  have Hs' := hid hs'
  have Ht' := hid ht'
  clear hs' ht' c0 c1 c2 ck
  go_wp2
  have hk2 : Keep (fun b => b = p ∨ (Value.slice (some ⟨g, 0, none⟩) s.un.length cap).ownBlock = some b) w (w1.setCell ⟨p, 2, none⟩ (.slice (some ⟨g, 0, none⟩) (len - 1) cap)) :=
    Keep.set (hk1.mono fun b _ (e : b = g) => .inr (by rw [e]; rfl)) (.inl rfl) _
  have hel : (s.un.eraseIdx k).length = len - 1 := by rw [List.length_eraseIdx, ← Hld.out, if_pos hlt]
  have h2 := h.under hk2 (s.un.eraseIdx k) (su' := .slice (some ⟨g, 0, none⟩) (len - 1) cap) (by simpa using hp1.set 2 (.slice (some ⟨g, 0, none⟩) (len - 1) cap))
    ⟨by simp, .inr ⟨g, cap, cur', by rw [hel], Nat.zero_le _, hb'.set_ne (fun e => hg.1 e.symm) _, by rw [hel]; omega, hcm', by rw [Hs'.out, Nat.mul_one], by
      rw [Nat.mul_one, hel, Ht'.out, Htk.out]
      show _ = (s.un.eraseIdx k).map natv
      simp only [List.eraseIdx_eq_take_drop_succ, List.map_append, List.map_take, List.map_drop]⟩⟩ (fun k hk => .inl hk)
  generalize w1.setCell ⟨p, 2, none⟩ (.slice (some ⟨g, 0, none⟩) (len - 1) cap) = W at *
  clear hp1 q2 f2 hb' hk1
  generalize hs2 : ({ s with un := s.un.eraseIdx k } : RS) = s2 at h2
  have hn2 : s2.n = s.n := by rw [← hs2]; rfl
  have hton2 : to < s2.n := by rw [hn2]; exact hton
  have hla2 : s2.ac.length = s2.n := by rw [← hs2]; exact ok.la
  obtain ⟨c, hc⟩ : ∃ c, c = s2.cnt to := ⟨_, rfl⟩
  obtain ⟨bl, hbl⟩ : ∃ b, b = s2.blk to := ⟨_, rfl⟩
  have hcc : c = s.cnt to := by rw [hc, ← hs2]; rfl
  have hcb2 : -(m : Int) ≤ c ∧ c ≤ m := by rw [hcc]; exact hcb
  have hb3 := h2.h1
  have g0 : ∀ w1, Keep (fun _ => False) W w1 → w1.cell? ⟨p, 0, none⟩ = some (.slice (some ⟨b1, 0, none⟩) s.n s.n) := by rw [← hn2]; exact h2.hp.kc (X := fun _ => False) (fun e => e) 0 rfl
  have g5 : ∀ w1, Keep (fun _ => False) W w1 → w1.cell? ⟨b1, to * 2, none⟩ = some (.int .i64 c) := fun w1 hk => by rw [hc]; exact ((h2.ext hk.ext).peer hton2).1
  have g6 : ∀ w1, Keep (fun _ => False) W w1 → w1.cell? ⟨b1, to * 2 + 1, none⟩ = some (.bool bl) := fun w1 hk => by rw [hbl]; exact ((h2.ext hk.ext).peer hton2).2
  have Hcc := hid hcc
  have Hs2 := hid hs2
  have Hn2 := hid hn2
  clear hc hbl hcc hs2 hn2 hel hkk hfr hlen0 hlen1
  refine wp_flowT (fun _ => False) (by kernel_rfl) (by kernel_rfl) ?_
  repeat (apply FlowT.d; (intro w1 hk; unfold does; go_simp; (try go_ints); (first | exact DetR.mk | (simp only [↓IntWalk.iteOmega, Oper.doesUpon_value]; exact DetR.mk) | (simp only [↓IntWalk.iteOmega]; go_simp; (try go_ints); exact DetR.mk))); simp only [Act.put, List.setIfInBounds_toArray, List.set_cons_zero, List.set_cons_succ])
  apply FlowT.d
  · intro w1 hk
    unfold does
    go_simp
    exact CallR.det (got_any c bl w1 (by omega) (by omega))
  simp only [Act.put, List.setIfInBounds_toArray, List.set_cons_zero, List.set_cons_succ]
  repeat (apply FlowT.d; (intro w1 hk; unfold does; go_simp; (try go_ints); (first | exact DetR.mk | (simp only [↓IntWalk.iteOmega, Oper.doesUpon_value]; exact DetR.mk) | (simp only [↓IntWalk.iteOmega]; go_simp; (try go_ints); exact DetR.mk))); simp only [Act.put, List.setIfInBounds_toArray, List.set_cons_zero, List.set_cons_succ])
  refine FlowT.last (fun _ w' => Keep (fun k => k = b1) W w' ∧ Blk w' b1 (pcells (s2.ps.set to (c - 1, true))).toArray 45) 14 rfl (by kernel_rfl) (by kernel_rfl) (fun w1 hC hk => ?_) (fun v W2 hR => ?_)
  · have hb := hb3.ext hC
    have q5 := g5 w1 hk
    have q6 := g6 w1 hk
    have f0 := hb.free (to * 2)
    have f1 := hb.free (to * 2 + 1)
    unfold does
    go_simp
    refine ⟨Keep.set (X := fun k => k = b1) (Keep.set (X := fun k => k = b1) (hC.keep _) rfl _) rfl _, ?_⟩
    have := (hb.set (to * 2) (.int .i64 (c - 1))).set (to * 2 + 1) (.bool true)
    rw [← pcells_set s2.ps to (c - 1, true) hton2]
    simpa using this
  have h3 := h2.sent (c - 1, true) hR.1 hR.2
  have hk3 := hR.1
  have hb4 := h3.h2
  have r1 : W2.cell? ⟨p, 1, none⟩ = some (.slice (some ⟨b2, 0, none⟩) s.n s.n) := by
    have := h3.hp.cell 1
    rw [show ({ s2 with ps := s2.ps.set to (c - 1, true) } : RS).n = s.n from by rw [← Hn2.out]; simp [RS.n]] at this
    exact this
  have r2 : ∃ b, W2.cell? ⟨b2, to, none⟩ = some (.bool b) := ⟨_, h3.live (i := to) (by rw [show ({ s2 with ps := s2.ps.set to (c - 1, true) } : RS).ac = s2.ac from rfl, hla2]; exact hton2)⟩
  obtain ⟨b0, r2⟩ := r2
  have f2 := hb4.free to
  clear g0 g5 g6 hR
  simp only [Act.put]
  go_wp2
  go_end0
  have h4 := h3.act1 (s2.ac.set to true) (w' := W2.setCell ⟨b2, to, none⟩ (.bool true)) (Keep.set (X := fun k => k = b2) (Keep.refl _ _) rfl _) (by
    have := hb4.set to (.bool true)
    rw [List.map_set]
    simpa using this)
  refine ⟨rfl, .slice (some ⟨g, 0, none⟩) (len - 1) cap, ?_, ?_, fun k hk => .inl hk⟩
  · rw [← Hcc.out, show s.ac = s2.ac from by rw [← Hs2.out]]
    rw [show s.ps = s2.ps from by rw [← Hs2.out], show s.un.eraseIdx k = s2.un from by rw [← Hs2.out], show s.tc = s2.tc from by rw [← Hs2.out], show s.tb = s2.tb from by rw [← Hs2.out], show s.pos = s2.pos from by rw [← Hs2.out], show s.fr = s2.fr from by rw [← Hs2.out], show s.told = s2.told from by rw [← Hs2.out]]
    exact h4
  · refine (hk2.mono fun b _ e => ?_).trans ((hk3.mono fun b _ e => ?_).trans (Keep.set (X := fp p b1 b2 _) (Keep.refl _ _) (.inr (.inr (.inl rfl))) _))
    · exact e.elim .inl fun e => .inr (.inr (.inr e))
    · exact .inr (.inl e)
end Go.Proofs.YtcfopaopcbjkeaaDoor
