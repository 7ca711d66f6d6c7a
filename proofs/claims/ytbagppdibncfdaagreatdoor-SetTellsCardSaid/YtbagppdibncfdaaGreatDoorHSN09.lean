/- Texts of one proof, put together: ZZZJ ZZZN. -/
import Derived.Test.YtbagppdibncfdaaGreatDoorHSN08
import Derived.Lib.LaidTab
set_option linter.unusedSimpArgs false
set_option linter.unusedVariables false
namespace Go.Proofs.YtbagppdibncfdaaGreatDoor
open Go Go.RowKit
theorem TabOk.ext {w w' : World} (h : TabOk w) (x : Ext w w') : TabOk w' := by
  unfold TabOk Lib.TabIs World.var? at *
  have hg : Tryz.prog.globalNamed "internal/strconv.uint64pow10" = some 17 := by kernel_rfl
  rw [hg] at h ⊢
  simp only [Option.bind_some] at h ⊢
  cases hb : w.heap[17]? with
  | none => rw [hb] at h; cases h
  | some o => rw [x.get hb]; rw [hb] at h; exact h
def tabL : List (String × DataW Unit) := [("internal/strconv.uint64pow10", Lib.tabData .u64 Lib.pow10Tab)]
theorem tab_of {W : World} (h : laidMetH Tryz.prog tabL W) : TabOk W := by
  have h1 := (laidMetH_iff.1 h).1
  rw [List.filter_eq_self.2 fun x hx => by
    obtain rfl := List.mem_singleton.1 hx
    simp [Lib.tabData, DataW.handleName?]] at h1
  exact Lib.tabIs_of_head (g := 17) (t := 286) (e := 218) (n := 20) (by kernel_rfl) (by kernel_rfl) (by kernel_rfl) (by kernel_rfl) (by kernel_rfl) (by kernel_rfl) h1
def conv2 : List (String × Nat × List UInt8) := [("strconv.ErrRange", 14, [118, 97, 108, 117, 101, 32, 111, 117, 116, 32, 111, 102, 32, 114, 97, 110, 103, 101]), ("strconv.ErrSyntax", 13, [105, 110, 118, 97, 108, 105, 100, 32, 115, 121, 110, 116, 97, 120])]
def convL : List (String × DataW Unit) := conv2.map fun x => (x.1, sentD x.2.2)
theorem conv_of {W : World} (h : laidMetH Tryz.prog convL W) : AtoiOk W := by
  have h1 := (laidMetH_iff.1 h).1
  rw [List.filter_eq_self.2 fun x hx => by
    obtain ⟨c, _, rfl⟩ := List.mem_map.1 hx
    simp [sent_noHandle]] at h1
  obtain ⟨pa, e1, e2, _⟩ := sents_met conv2 h1 (fun x hx => by
    rcases List.mem_cons.1 hx with rfl | hx
    · exact ⟨by kernel_rfl, by kernel_rfl⟩
    · obtain rfl := List.mem_singleton.1 hx
      exact ⟨by kernel_rfl, by kernel_rfl⟩)
  have hl : pa.length = 2 := e1
  have s0 := e2 0 _ pa[0] rfl (List.getElem?_eq_getElem (by omega))
  have s1 := e2 1 _ pa[1] rfl (List.getElem?_eq_getElem (by omega))
  exact ⟨⟨_, s1.var, .inr ⟨_, _, rfl⟩⟩, _, s0.var, .inr ⟨_, _, rfl⟩⟩
theorem lift_ext {w w' : World} {v : Value} {l : List Int} (h : IntsR w w.heap.size v l) (x : Ext w w') : IntsR w' w'.heap.size v l := ElR.lift (h.old (x.old _)) x.size
def zeroE (c : Nat) (l : List Int) : List Int := if c = 0 then l else []
theorem two_form {ad : Nat → Addr} {a b L : List Int} {n0 : Nat} {w : World} {t : Value} (h : TwoR ad a b L n0 w t) : ∃ ap cp lp, t = .tuple #[.slice ap lp.length cp, errv (evOf ad) (bothE a b)] ∧ lp = zeroE (bothE a b) L ∧ IRow n0 w (.slice ap lp.length cp) lp := by
  unfold zeroE
  rcases h with ⟨h0, v, rfl, hr⟩ | ⟨h0, rfl⟩
  · obtain ⟨ap, cp, rfl⟩ := hr.form
    exact ⟨ap, cp, L, by rw [errv_no h0], by rw [if_pos h0], hr⟩
  · exact ⟨none, 0, [], by rw [errv_yes h0]; rfl, by rw [if_neg h0], IRow.nil _ _⟩
theorem st_union (va vb : Value) (a b : List Int) (w : World) (ad : Nat → Addr) (hE : ErrS w ad) (ha : IntsR w w.heap.size va a) (hb : IntsR w w.heap.size vb b) (la : a.length ≤ 60) (lb : b.length ≤ 60) :
    Calls Tryz.prog 36 #[va, vb] w fun e w' => ∃ ap cp lp, e = .returned (.tuple #[.slice ap lp.length cp, errv (evOf ad) (bothE a b)]) ∧ lp = zeroE (bothE a b) (sset (a ++ b)) ∧ IRow w.heap.size w' (.slice ap lp.length cp) lp ∧ Ext w w' :=
  (setunion_any va vb a b w w.heap.size ad hE ha hb (by omega) (by omega)).mono fun e w' ⟨t, he, ht, hx⟩ => by
    obtain ⟨ap, cp, lp, h1, h2, h3⟩ := two_form ht
    exact ⟨ap, cp, lp, by rw [he, h1], h2, h3, hx⟩
theorem st_less (va vb : Value) (a b : List Int) (w : World) (ad : Nat → Addr) (hE : ErrS w ad) (ha : IntsR w w.heap.size va a) (hb : IntsR w w.heap.size vb b) (la : a.length ≤ 60) (lb : b.length ≤ 60) :
    Calls Tryz.prog 37 #[va, vb] w fun e w' => ∃ ap cp lp, e = .returned (.tuple #[.slice ap lp.length cp, errv (evOf ad) (bothE a b)]) ∧ lp = zeroE (bothE a b) (a.filter fun n => !decide (n ∈ b)) ∧ IRow w.heap.size w' (.slice ap lp.length cp) lp ∧ Ext w w' :=
  (setless_any va vb a b w w.heap.size ad hE ha hb (by omega)).mono fun e w' ⟨t, he, ht, hx⟩ => by
    obtain ⟨ap, cp, lp, h1, h2, h3⟩ := two_form ht
    exact ⟨ap, cp, lp, by rw [he, h1], h2, h3, hx⟩
theorem st_and (va vb : Value) (a b : List Int) (w : World) (ad : Nat → Addr) (hE : ErrS w ad) (ha : IntsR w w.heap.size va a) (hb : IntsR w w.heap.size vb b) (la : a.length ≤ 60) (lb : b.length ≤ 60) :
    Calls Tryz.prog 38 #[va, vb] w fun e w' => ∃ ap cp lp, e = .returned (.tuple #[.slice ap lp.length cp, errv (evOf ad) (bothE a b)]) ∧ lp = zeroE (bothE a b) (a.filter fun n => decide (n ∈ b)) ∧ IRow w.heap.size w' (.slice ap lp.length cp) lp ∧ Ext w w' :=
  (setand_any va vb a b w w.heap.size ad hE ha hb (by omega)).mono fun e w' ⟨t, he, ht, hx⟩ => by
    obtain ⟨ap, cp, lp, h1, h2, h3⟩ := two_form ht
    exact ⟨ap, cp, lp, by rw [he, h1], h2, h3, hx⟩
theorem rows_app {base : Nat} {wa w' : World} {v1 v2 v2' : Value} {l1 : List Int} (h1 : IRow base wa v1 l1) (hd : ∀ k, v1.ownBlock = some k → v2.ownBlock ≠ some k) (hk : Keep (fun k => v2.ownBlock = some k) wa w') (hn : v2'.ownBlock = v2.ownBlock ∨ v2'.ownBlock = some wa.heap.size) :
    IRow base w' v1 l1 ∧ ∀ k, v1.ownBlock = some k → v2'.ownBlock ≠ some k := by
  refine ⟨h1.keep hk fun b hb => hd b hb, fun k hk1 => ?_⟩
  rcases hn with e | e
  · rw [e]; exact hd k hk1
  · rw [e]
    intro e2
    obtain rfl := Option.some.inj e2
    have := (h1.lt hk1).2
    omega
theorem filter_step {a : List Int} {i : Nat} {q : Int} (f : Int → Bool) (h : a[i]? = some q) : (a.take (i + 1)).filter f = (a.take i).filter f ++ (if f q then [q] else []) := take_filter h
theorem all_none (a b : List Int) : (a.all fun n => decide (n ∈ b)) = (((a.filter fun n => !decide (n ∈ b)).length : Int) == 0) := by
  induction a with
  | nil => rfl
  | cons x a ih =>
    by_cases hx : x ∈ b
    · simp only [List.all_cons, List.filter_cons, hx, decide_true, Bool.true_and, Bool.not_true, Bool.false_eq_true, if_false]
      exact ih
    · simp only [List.all_cons, List.filter_cons, hx, decide_false, Bool.false_and, Bool.not_false, if_true, List.length_cons]
      symm
      rw [beq_eq_false_iff_ne]
      omega
theorem readV_le (s : List UInt8) : (readV s).1 ≤ 10 ∧ InR (readV s).2 ∧ (readV s).2.length ≤ 1000 := by
  have h0 : InR [] := fun _ h => absurd h List.not_mem_nil
  unfold readV
  split
  · exact ⟨by decide, h0, by decide⟩
  · split
    · exact ⟨by decide, h0, by decide⟩
    · split
      · exact ⟨by decide, h0, by decide⟩
      · split
        · rename_i h
          exact ⟨Nat.zero_le _, (chkE_zero.1 h).1, srt_few h⟩
        · exact ⟨chkE_le _, h0, Nat.zero_le _⟩
set_option maxRecDepth 100000 in
theorem settext_bad (v : Value) (l : List Int) (w : World) (n0 : Nat) (ad : Nat → Addr) (hE : ErrS w ad) (h : IntsR w n0 v l) (hk : chkE l ≠ 0) :
    Calls Tryz.prog 40 #[v] w fun e w' => e = .returned (.string ⟨#[]⟩) ∧ Ext w w' := by
  have HK := hid (setcheck_any v l w n0 ad hE h)
  rw [errv_yes hk] at HK
  obtain ⟨a, cap, rfl, _⟩ := h
  clear hk hE
  go_enter Tryz.func40, Tryz.ntmps40
  go_wp2_with fail
  refine HK.out.mono ?_
  intro e w1 hx
  obtain ⟨rfl, hx1⟩ := hx
  have Hx1 := hid hx1
  clear HK hx1
  go_wp2
  go_ret
  exact ⟨rfl, Hx1.out⟩
set_option maxRecDepth 100000 in
set_option maxHeartbeats 6400000 in
theorem lawsettells_any (va vb : Value) (a b : List Int) (n : Int) (s : ByteArray) (hs : s.size ≤ 9223372036854775807) (w : World) (ad : Nat → Addr) (hA : AllErrs w ad) (hT : ∀ w1, Ext w w1 → TabOk w1) (hV : AtoiOk w) (ha : IntsR w w.heap.size va a) (hb : IntsR w w.heap.size vb b) :
    Calls Tryz.prog 6 #[va, vb, .int .i64 n, .string s] w fun e w' => e = .returned (.bool true) ∧ Ext w w' := by
  have HA := hid hA
  have HTb := hid hT
  have HVo := hid hV
  have HIa := hid ha
  have HIb := hid hb
  have HUn := hid (united_any w ad hA.errS)
  obtain ⟨aa, ca, rfl, _, ha3, _⟩ := id ha
  obtain ⟨ab, cb, rfl, _, hb3, _⟩ := id hb
  have hla : (a.length : Int) ≤ 9223372036854775807 := by omega
  have hlb : (b.length : Int) ≤ 9223372036854775807 := by omega
  have Hx : Hid (Ext w w) := hid (Ext.refl w)
  clear ha hb hA hT hV ha3 hb3
  go_enter Tryz.func6, Tryz.ntmps6
  go_wp2_with fail
  refine HUn.out.mono ?_
  intro e w1 hx
  obtain ⟨rfl, hx⟩ := hx
  replace HIa := hid (lift_ext HIa.out hx)
  replace HIb := hid (lift_ext HIb.out hx)
  try replace HX := hid (lift_ext HX.out hx)
  try replace HY := hid (lift_ext HY.out hx)
  try replace HP := hid (HP.out.ext hx)
  try replace HQ := hid (HQ.out.ext hx)
  try replace HR := hid (HR.out.ext hx)
  try replace HL1 := hid (HL1.out.ext hx)
  try replace HL2 := hid (HL2.out.ext hx)
  try replace HZ := hid (HZ.out.ext hx)
  try replace HW := hid (HW.out.ext hx)
  replace Hx := hid (Hx.out.trans hx)
  clear HUn hx
  by_cases h1 : (60 : Int) < (a.length : Int)
  · go_wp2
    go_ret
    exact ⟨rfl, Hx.out⟩
  by_cases h2 : (60 : Int) < (b.length : Int)
  · go_wp2
    go_ret
    exact ⟨rfl, Hx.out⟩
  by_cases h3 : (300 : Int) < (s.size : Int)
  · go_wp2
    go_ret
    exact ⟨rfl, Hx.out⟩
  have HC := hid (own_of (.slice aa a.length ca) a w1 w1.heap.size HIa.out (by omega))
  go_wp2_with fail
  refine HC.out.mono ?_
  intro e w2 hx
  obtain ⟨v, rfl, hx, hr, aX, cX, rfl⟩ := hx
  replace HIa := hid (lift_ext HIa.out hx)
  replace HIb := hid (lift_ext HIb.out hx)
  try replace HX := hid (lift_ext HX.out hx)
  try replace HY := hid (lift_ext HY.out hx)
  try replace HP := hid (HP.out.ext hx)
  try replace HQ := hid (HQ.out.ext hx)
  try replace HR := hid (HR.out.ext hx)
  try replace HL1 := hid (HL1.out.ext hx)
  try replace HL2 := hid (HL2.out.ext hx)
  try replace HZ := hid (HZ.out.ext hx)
  try replace HW := hid (HW.out.ext hx)
  replace Hx := hid (Hx.out.trans hx)
  have HX := hid hr
  clear HC hx hr
  have HC := hid (own_of (.slice ab b.length cb) b w2 w2.heap.size HIb.out (by omega))
  go_wp2_with fail
  refine HC.out.mono ?_
  intro e w3 hx
  obtain ⟨v, rfl, hx, hr, aY, cY, rfl⟩ := hx
  replace HIa := hid (lift_ext HIa.out hx)
  replace HIb := hid (lift_ext HIb.out hx)
  try replace HX := hid (lift_ext HX.out hx)
  try replace HY := hid (lift_ext HY.out hx)
  try replace HP := hid (HP.out.ext hx)
  try replace HQ := hid (HQ.out.ext hx)
  try replace HR := hid (HR.out.ext hx)
  try replace HL1 := hid (HL1.out.ext hx)
  try replace HL2 := hid (HL2.out.ext hx)
  try replace HZ := hid (HZ.out.ext hx)
  try replace HW := hid (HW.out.ext hx)
  replace Hx := hid (Hx.out.trans hx)
  have HY := hid hr
  clear HC hx hr
  obtain ⟨c1, hc1⟩ : ∃ c1, c1 = chkE a := ⟨_, rfl⟩
  have HC1 : Hid (chkE a = c1) := hid hc1.symm
  have hc10 : c1 ≤ 10 := by rw [hc1]; exact chkE_le _
  have HC := hid (rseterror_any _ a w3 w3.heap.size HIa.out)
  rw [← hc1] at HC
  clear hc1
  go_wp2_with fail
  refine HC.out.mono ?_
  intro e w4 hx
  obtain ⟨rfl, hx⟩ := hx
  replace HIa := hid (lift_ext HIa.out hx)
  replace HIb := hid (lift_ext HIb.out hx)
  try replace HX := hid (lift_ext HX.out hx)
  try replace HY := hid (lift_ext HY.out hx)
  try replace HP := hid (HP.out.ext hx)
  try replace HQ := hid (HQ.out.ext hx)
  try replace HR := hid (HR.out.ext hx)
  try replace HL1 := hid (HL1.out.ext hx)
  try replace HL2 := hid (HL2.out.ext hx)
  try replace HZ := hid (HZ.out.ext hx)
  try replace HW := hid (HW.out.ext hx)
  replace Hx := hid (Hx.out.trans hx)
  clear HC hx
  by_cases h0 : c1 = 0
  · have q0 : ((c1 : Int) == 0) = true := by rw [h0]; rfl
    obtain ⟨c, hc⟩ : ∃ c, c = chkE b := ⟨_, rfl⟩
    have HB : Hid (bothE a b = c) := hid (by unfold bothE; rw [HC1.out, if_pos h0, hc])
    have hc11 : c ≤ 10 := by rw [hc]; exact chkE_le _
    have H0 := hid h0
    have HC := hid (rseterror_any _ b w4 w4.heap.size HIb.out)
    rw [← hc] at HC
    clear hc h0
    go_wp2_with fail
    refine HC.out.mono ?_
    intro e w4b hx
    obtain ⟨rfl, hx⟩ := hx
    replace HIa := hid (lift_ext HIa.out hx)
    replace HIb := hid (lift_ext HIb.out hx)
    try replace HX := hid (lift_ext HX.out hx)
    try replace HY := hid (lift_ext HY.out hx)
    try replace HP := hid (HP.out.ext hx)
    try replace HQ := hid (HQ.out.ext hx)
    try replace HR := hid (HR.out.ext hx)
    try replace HL1 := hid (HL1.out.ext hx)
    try replace HL2 := hid (HL2.out.ext hx)
    try replace HZ := hid (HZ.out.ext hx)
    try replace HW := hid (HW.out.ext hx)
    replace Hx := hid (Hx.out.trans hx)
    clear HC hx
    obtain ⟨w4, rfl⟩ : ∃ w4, w4 = w4b := ⟨_, rfl⟩
    have HC := hid (st_union _ _ a b w4 ad ((HA.out.ext Hx.out).errS) HX.out HY.out (by omega) (by omega))
    rw [HB.out] at HC
    go_wp2_with fail
    refine HC.out.mono ?_
    intro e w5 hx
    obtain ⟨aP, cP, lp, rfl, ep, hr, hx⟩ := hx
    replace HIa := hid (lift_ext HIa.out hx)
    replace HIb := hid (lift_ext HIb.out hx)
    try replace HX := hid (lift_ext HX.out hx)
    try replace HY := hid (lift_ext HY.out hx)
    try replace HP := hid (HP.out.ext hx)
    try replace HQ := hid (HQ.out.ext hx)
    try replace HR := hid (HR.out.ext hx)
    try replace HL1 := hid (HL1.out.ext hx)
    try replace HL2 := hid (HL2.out.ext hx)
    try replace HZ := hid (HZ.out.ext hx)
    try replace HW := hid (HW.out.ext hx)
    replace Hx := hid (Hx.out.trans hx)
    have HP := hid hr
    replace ep := hid ep
    clear HC hx hr
    have HC := hid (st_less _ _ a b w5 ad ((HA.out.ext Hx.out).errS) HX.out HY.out (by omega) (by omega))
    rw [HB.out] at HC
    go_wp2_with fail
    refine HC.out.mono ?_
    intro e w6 hx
    obtain ⟨aQ, cQ, lq, rfl, eq, hr, hx⟩ := hx
    replace HIa := hid (lift_ext HIa.out hx)
    replace HIb := hid (lift_ext HIb.out hx)
    try replace HX := hid (lift_ext HX.out hx)
    try replace HY := hid (lift_ext HY.out hx)
    try replace HP := hid (HP.out.ext hx)
    try replace HQ := hid (HQ.out.ext hx)
    try replace HR := hid (HR.out.ext hx)
    try replace HL1 := hid (HL1.out.ext hx)
    try replace HL2 := hid (HL2.out.ext hx)
    try replace HZ := hid (HZ.out.ext hx)
    try replace HW := hid (HW.out.ext hx)
    replace Hx := hid (Hx.out.trans hx)
    have HQ := hid hr
    replace eq := hid eq
    clear HC hx hr
    have HC := hid (st_and _ _ a b w6 ad ((HA.out.ext Hx.out).errS) HX.out HY.out (by omega) (by omega))
    rw [HB.out] at HC
    go_wp2_with fail
    refine HC.out.mono ?_
    intro e w7 hx
    obtain ⟨aR, cR, lr, rfl, er, hr, hx⟩ := hx
    replace HIa := hid (lift_ext HIa.out hx)
    replace HIb := hid (lift_ext HIb.out hx)
    try replace HX := hid (lift_ext HX.out hx)
    try replace HY := hid (lift_ext HY.out hx)
    try replace HP := hid (HP.out.ext hx)
    try replace HQ := hid (HQ.out.ext hx)
    try replace HR := hid (HR.out.ext hx)
    try replace HL1 := hid (HL1.out.ext hx)
    try replace HL2 := hid (HL2.out.ext hx)
    try replace HZ := hid (HZ.out.ext hx)
    try replace HW := hid (HW.out.ext hx)
    replace Hx := hid (Hx.out.trans hx)
    have HR := hid hr
    replace er := hid er
    clear HC hx hr
    have HC := hid (setcheck_any _ a w7 w7.heap.size ad ((HA.out.ext Hx.out).errS) HX.out)
    rw [HC1.out] at HC
    go_wp2_with fail
    refine HC.out.mono ?_
    intro e w8 hx
    obtain ⟨rfl, hx⟩ := hx
    replace HIa := hid (lift_ext HIa.out hx)
    replace HIb := hid (lift_ext HIb.out hx)
    try replace HX := hid (lift_ext HX.out hx)
    try replace HY := hid (lift_ext HY.out hx)
    try replace HP := hid (HP.out.ext hx)
    try replace HQ := hid (HQ.out.ext hx)
    try replace HR := hid (HR.out.ext hx)
    try replace HL1 := hid (HL1.out.ext hx)
    try replace HL2 := hid (HL2.out.ext hx)
    try replace HZ := hid (HZ.out.ext hx)
    try replace HW := hid (HW.out.ext hx)
    replace Hx := hid (Hx.out.trans hx)
    clear HC hx
    have HC := hid (coded1_any w8 ad (HA.out.ext Hx.out) c1 (by omega) c1)
    rw [decide_eq_true (rfl : (c1 : Int) = c1)] at HC
    go_wp2_with fail
    refine HC.out.mono ?_
    intro e w9 hx
    obtain ⟨rfl, hx⟩ := hx
    replace HIa := hid (lift_ext HIa.out hx)
    replace HIb := hid (lift_ext HIb.out hx)
    try replace HX := hid (lift_ext HX.out hx)
    try replace HY := hid (lift_ext HY.out hx)
    try replace HP := hid (HP.out.ext hx)
    try replace HQ := hid (HQ.out.ext hx)
    try replace HR := hid (HR.out.ext hx)
    try replace HL1 := hid (HL1.out.ext hx)
    try replace HL2 := hid (HL2.out.ext hx)
    try replace HZ := hid (HZ.out.ext hx)
    try replace HW := hid (HW.out.ext hx)
    replace Hx := hid (Hx.out.trans hx)
    clear HC hx
    have HC := hid (coded1_any w9 ad (HA.out.ext Hx.out) c (by omega) c)
    rw [decide_eq_true (rfl : (c : Int) = c)] at HC
    go_wp2_with fail
    refine HC.out.mono ?_
    intro e w10 hx
    obtain ⟨rfl, hx⟩ := hx
    replace HIa := hid (lift_ext HIa.out hx)
    replace HIb := hid (lift_ext HIb.out hx)
    try replace HX := hid (lift_ext HX.out hx)
    try replace HY := hid (lift_ext HY.out hx)
    try replace HP := hid (HP.out.ext hx)
    try replace HQ := hid (HQ.out.ext hx)
    try replace HR := hid (HR.out.ext hx)
    try replace HL1 := hid (HL1.out.ext hx)
    try replace HL2 := hid (HL2.out.ext hx)
    try replace HZ := hid (HZ.out.ext hx)
    try replace HW := hid (HW.out.ext hx)
    replace Hx := hid (Hx.out.trans hx)
    clear HC hx
    have HC := hid (coded1_any w10 ad (HA.out.ext Hx.out) c (by omega) c)
    rw [decide_eq_true (rfl : (c : Int) = c)] at HC
    go_wp2_with fail
    refine HC.out.mono ?_
    intro e w11 hx
    obtain ⟨rfl, hx⟩ := hx
    replace HIa := hid (lift_ext HIa.out hx)
    replace HIb := hid (lift_ext HIb.out hx)
    try replace HX := hid (lift_ext HX.out hx)
    try replace HY := hid (lift_ext HY.out hx)
    try replace HP := hid (HP.out.ext hx)
    try replace HQ := hid (HQ.out.ext hx)
    try replace HR := hid (HR.out.ext hx)
    try replace HL1 := hid (HL1.out.ext hx)
    try replace HL2 := hid (HL2.out.ext hx)
    try replace HZ := hid (HZ.out.ext hx)
    try replace HW := hid (HW.out.ext hx)
    replace Hx := hid (Hx.out.trans hx)
    clear HC hx
    have HC := hid (coded1_any w11 ad (HA.out.ext Hx.out) c (by omega) c)
    rw [decide_eq_true (rfl : (c : Int) = c)] at HC
    go_wp2_with fail
    refine HC.out.mono ?_
    intro e w12 hx
    obtain ⟨rfl, hx⟩ := hx
    replace HIa := hid (lift_ext HIa.out hx)
    replace HIb := hid (lift_ext HIb.out hx)
    try replace HX := hid (lift_ext HX.out hx)
    try replace HY := hid (lift_ext HY.out hx)
    try replace HP := hid (HP.out.ext hx)
    try replace HQ := hid (HQ.out.ext hx)
    try replace HR := hid (HR.out.ext hx)
    try replace HL1 := hid (HL1.out.ext hx)
    try replace HL2 := hid (HL2.out.ext hx)
    try replace HZ := hid (HZ.out.ext hx)
    try replace HW := hid (HW.out.ext hx)
    replace Hx := hid (Hx.out.trans hx)
    clear HC hx
    obtain ⟨d, hd⟩ : ∃ d, d = decide (n ∈ a) := ⟨_, rfl⟩
    have HC := hid (sethas_any _ a n w12 w12.heap.size HX.out)
    rw [← hd] at HC
    go_wp2_with fail
    refine HC.out.mono ?_
    intro e w13 hx
    obtain ⟨rfl, rfl⟩ := hx
    clear HC
    have HC := hid (rhas_any _ a n w12 w12.heap.size HIa.out)
    rw [← hd] at HC
    clear hd
    go_wp2_with fail
    refine HC.out.mono ?_
    intro e w13 hx
    obtain ⟨rfl, rfl⟩ := hx
    clear HC
    go_wp2
    go_loopw [20, 21, 22] (fun t20 t21 t22 wr => ∃ (i : Nat) (l1 l2 : List Int), t22 = .int .i64 (i : Int) ∧ i ≤ a.length ∧ Hid (l1 = (a.take i).filter (fun n => !decide (n ∈ b)) ∧ l2 = (a.take i).filter (fun n => decide (n ∈ b))) ∧ l1.length ≤ i ∧ l2.length ≤ i ∧ IRow w12.heap.size wr t20 l1 ∧ IRow w12.heap.size wr t21 l2 ∧ (∀ k, t20.ownBlock = some k → t21.ownBlock ≠ some k) ∧ Ext w12 wr) (fun _ _ t22 _ => a.length - (intOf t22).toNat)
    case atStart => exact ⟨0, [], [], rfl, Nat.zero_le _, hid ⟨rfl, rfl⟩, Nat.le_refl _, Nat.le_refl _, IRow.nil _ _, IRow.nil _ _, (fun k h => by cases h), Ext.refl _⟩
    case round =>
      obtain ⟨i, l1, l2, rfl, hi, hl, hn1, hn2, hr1, hr2, hd, hx⟩ := hrel
      obtain ⟨a1, p1, rfl⟩ := hr1.form
      obtain ⟨a2, p2, rfl⟩ := hr2.form
      have Hr1 := hid hr1
      have Hr2 := hid hr2
      have Hd := hid hd
      have Hxl := hid hx
      clear hr1 hr2 hd hx
      by_cases hil : i < a.length
      · obtain ⟨y, q, hya, hqk, hcq⟩ := (HIa.out.old (Hxl.out.old _)).at hil
        subst hya
        have HC := hid (rhas_any _ b q wr wr.heap.size (lift_ext HIb.out Hxl.out))
        have f1 := filter_step (fun n => !decide (n ∈ b)) hqk
        have f2 := filter_step (fun n => decide (n ∈ b)) hqk
        rw [← hl.out.1] at f1
        rw [← hl.out.2] at f2
        by_cases hq : q ∈ b
        · rw [decide_eq_true hq] at HC
          have Hn : Hid (l1 = (a.take (i + 1)).filter (fun n => !decide (n ∈ b)) ∧ l2 ++ [q] = (a.take (i + 1)).filter (fun n => decide (n ∈ b))) := hid ⟨by rw [f1]; simp [hq], by rw [f2]; simp [hq]⟩
          have Hra := hid (Hr2.out.ext ((Ext.refl wr).alloc (.cells #[.int .i64 q] 3)))
          have Hrb := hid (Hr1.out.ext ((Ext.refl wr).alloc (.cells #[.int .i64 q] 3)))
          have Hxa := hid (Hxl.out.alloc (.cells #[.int .i64 q] 3))
          clear hq f1 f2 hqk hl
          go_wp2_with fail
          refine HC.out.mono ?_
          intro e w13 hx
          obtain ⟨rfl, rfl⟩ := hx
          clear HC
          go_wp2_with (at_builtin; refine wpList_append_el w12.heap.size Hxa.out.size 45 3 (.int .i64 0) 1 8 Tryz.underlying45 ints_info rfl (by omega) (by omega) rfl _ _ rfl (.slice a2 l2.length p2) l2.length (icells l2) rfl Hra.out wr.heap.size [.int .i64 q] rfl (by simp [Value.oneCell']) rfl (Blk.new _ _ _) (by omega) ?_; intro v' w' h1 h2 h4; obtain ⟨a', c', rfl⟩ := row_form h1; have h3 := hid (Keep.new Hxa.out h2 (fun k hk => (Hra.out.lt hk).1)); have h5 := hid (rows_app Hrb.out Hd.out h2 h4); have h1 := hid h1; clear h2 h4)
          go_roundw
          case rel => exact ⟨i + 1, l1, l2 ++ [q], by go_num, by omega, Hn, by omega, by simp; omega, h5.out.1, by unfold IRow; rw [icells_append, List.length_append]; exact h1.out, h5.out.2, h3.out⟩
          case measure => simp [intOf]; omega
        · rw [decide_eq_false hq] at HC
          have Hn : Hid (l1 ++ [q] = (a.take (i + 1)).filter (fun n => !decide (n ∈ b)) ∧ l2 = (a.take (i + 1)).filter (fun n => decide (n ∈ b))) := hid ⟨by rw [f1]; simp [hq], by rw [f2]; simp [hq]⟩
          have Hra := hid (Hr1.out.ext ((Ext.refl wr).alloc (.cells #[.int .i64 q] 3)))
          have Hrb := hid (Hr2.out.ext ((Ext.refl wr).alloc (.cells #[.int .i64 q] 3)))
          have Hxa := hid (Hxl.out.alloc (.cells #[.int .i64 q] 3))
          have Hd2 : Hid (∀ k, (Value.slice a2 l2.length p2).ownBlock = some k → (Value.slice a1 l1.length p1).ownBlock ≠ some k) := hid fun k h1 h2 => Hd.out k h2 h1
          clear hq f1 f2 hqk hl
          go_wp2_with fail
          refine HC.out.mono ?_
          intro e w13 hx
          obtain ⟨rfl, rfl⟩ := hx
          clear HC
          go_wp2_with (at_builtin; refine wpList_append_el w12.heap.size Hxa.out.size 45 3 (.int .i64 0) 1 8 Tryz.underlying45 ints_info rfl (by omega) (by omega) rfl _ _ rfl (.slice a1 l1.length p1) l1.length (icells l1) rfl Hra.out wr.heap.size [.int .i64 q] rfl (by simp [Value.oneCell']) rfl (Blk.new _ _ _) (by omega) ?_; intro v' w' h1 h2 h4; obtain ⟨a', c', rfl⟩ := row_form h1; have h3 := hid (Keep.new Hxa.out h2 (fun k hk => (Hra.out.lt hk).1)); have h5 := hid (rows_app Hrb.out Hd2.out h2 h4); have h1 := hid h1; clear h2 h4)
          go_roundw
          case rel => exact ⟨i + 1, l1 ++ [q], l2, by go_num, by omega, Hn, by simp; omega, by omega, by unfold IRow; rw [icells_append, List.length_append]; exact h1.out, h5.out.1, fun k h1 h2 => h5.out.2 k h2 h1, h3.out⟩
          case measure => simp [intOf]; omega
      · obtain rfl : i = a.length := by omega
        have hl' := hl.out
        rw [List.take_of_length_le (Nat.le_refl _)] at hl'
        have E1 := hid hl'.1
        have E2 := hid hl'.2
        have hx := Hxl.out
        have HL1 := hid Hr1.out
        have HL2 := hid Hr2.out
        replace HIa := hid (lift_ext HIa.out hx)
        replace HIb := hid (lift_ext HIb.out hx)
        replace HX := hid (lift_ext HX.out hx)
        replace HY := hid (lift_ext HY.out hx)
        replace HP := hid (HP.out.ext hx)
        replace HQ := hid (HQ.out.ext hx)
        replace HR := hid (HR.out.ext hx)
        replace Hx := hid (Hx.out.trans hx)
        clear hl hl' hx Hr1 Hr2 Hd Hxl hil hi
        have HC := hid (setwithin_any _ _ a b wr wr.heap.size HX.out HY.out)
        rw [show (a.all fun n => decide (n ∈ b)) = ((l1.length : Int) == 0) from by rw [E1.out]; exact all_none a b] at HC
        obtain ⟨z, hz⟩ : ∃ z, ((l1.length : Int) == 0) = z := ⟨_, rfl⟩
        rw [hz] at HC
        go_wp2_with fail
        refine HC.out.mono ?_
        intro e w14 hx
        obtain ⟨rfl, hx⟩ := hx
        replace HIa := hid (lift_ext HIa.out hx)
        replace HIb := hid (lift_ext HIb.out hx)
        try replace HX := hid (lift_ext HX.out hx)
        try replace HY := hid (lift_ext HY.out hx)
        try replace HP := hid (HP.out.ext hx)
        try replace HQ := hid (HQ.out.ext hx)
        try replace HR := hid (HR.out.ext hx)
        try replace HL1 := hid (HL1.out.ext hx)
        try replace HL2 := hid (HL2.out.ext hx)
        try replace HZ := hid (HZ.out.ext hx)
        try replace HW := hid (HW.out.ext hx)
        replace Hx := hid (Hx.out.trans hx)
        clear HC hx
        by_cases hcc : c = 0
        · have q1 : ¬ (0 : Int) < (c : Int) := by omega
          have hsets : chkE a = 0 ∧ chkE b = 0 := bothE_zero.1 (by rw [HB.out]; exact hcc)
          obtain ⟨ina, sra⟩ := chkE_zero.1 hsets.1
          obtain ⟨inb, srb⟩ := chkE_zero.1 hsets.2
          have Ep := hid (show lp = sset (a ++ b) by rw [ep.out]; unfold zeroE; rw [if_pos hcc])
          have Eq := hid (show lq = l1 by rw [eq.out, E1.out]; unfold zeroE; rw [if_pos hcc])
          have Er := hid (show lr = l2 by rw [er.out, E2.out]; unfold zeroE; rw [if_pos hcc])
          have Iab := hid (ina.app inb)
          have Il1 : Hid (InR l1) := hid (by rw [E1.out]; exact ina.filter _)
          have Il2 : Hid (InR l2) := hid (by rw [E2.out]; exact ina.filter _)
          have Ia := hid ina
          have Ib := hid inb
          clear hsets ina sra inb srb hcc
          have hA1 := hid (HIa.out.ints (ok_le Ia.out))
          have hB1 := hid (HIb.out.ints (ok_le Ib.out))
          go_wp2_with (first
            | (at_builtin; refine wpList_append_ints w14.heap.size (Nat.le_refl _) rfl _ _ rfl (.slice none 0 0) [] rfl (IRow.nil _ _) aa a.length ca a rfl hA1.out (by simp only [List.length_nil]; omega) ?_; intro v' w15 h1 h2; have k1 := Keep.new (Ext.refl w14) (grown_keep h2) (fun k hk => by cases hk); rw [List.nil_append] at h1; obtain ⟨am, cm, rfl⟩ := h1.form; have HM := hid h1; have K1 := hid k1; clear h1 h2 k1)
            | (at_builtin; refine wpList_append_ints w14.heap.size K1.out.size rfl _ _ rfl (.slice am a.length cm) a rfl HM.out ab b.length cb b rfl (hB1.out.ext K1.out) (by omega) ?_; intro v' w16 h1 h2; have k2 := Keep.new K1.out (grown_keep h2) (fun k hk => (HM.out.lt hk).1); obtain ⟨an, cn, rfl⟩ := h1.form; have HN := hid h1; have K2 := hid k2; clear h1 h2 k2 HM K1))
          have HC := hid (rsetof_any _ (a ++ b) w16 w16.heap.size (IntsR.own HN.out (Nat.le_refl _)) Iab.out)
          rw [List.length_append] at HC
          have hx := K2.out
          replace HIa := hid (lift_ext HIa.out hx)
          replace HIb := hid (lift_ext HIb.out hx)
          try replace HX := hid (lift_ext HX.out hx)
          try replace HY := hid (lift_ext HY.out hx)
          try replace HP := hid (HP.out.ext hx)
          try replace HQ := hid (HQ.out.ext hx)
          try replace HR := hid (HR.out.ext hx)
          try replace HL1 := hid (HL1.out.ext hx)
          try replace HL2 := hid (HL2.out.ext hx)
          try replace HZ := hid (HZ.out.ext hx)
          try replace HW := hid (HW.out.ext hx)
          replace Hx := hid (Hx.out.trans hx)
          clear hx hA1 hB1 HN K2
          go_wp2_with fail
          refine HC.out.mono ?_
          intro e w17 hx
          obtain ⟨v, rfl, hx, hr⟩ := hx
          obtain ⟨asr, csr, rfl⟩ := hr.form
          replace HIa := hid (lift_ext HIa.out hx)
          replace HIb := hid (lift_ext HIb.out hx)
          try replace HX := hid (lift_ext HX.out hx)
          try replace HY := hid (lift_ext HY.out hx)
          try replace HP := hid (HP.out.ext hx)
          try replace HQ := hid (HQ.out.ext hx)
          try replace HR := hid (HR.out.ext hx)
          try replace HL1 := hid (HL1.out.ext hx)
          try replace HL2 := hid (HL2.out.ext hx)
          try replace HZ := hid (HZ.out.ext hx)
          try replace HW := hid (HW.out.ext hx)
          replace Hx := hid (Hx.out.trans hx)
          have HSr := hid hr
          clear HC hx hr
          have hap := hid (Iab.out)
          have HC := hid (sameints_any aP asr _ _ cP csr lp (sset (a ++ b)) w17 (HP.out.ints (ok_le (by rw [Ep.out]; exact sset_in _))) (HSr.out.ints (ok_le (sset_in _))) (by rw [Ep.out]; have := sset_few (a ++ b); omega) (by have := sset_few (a ++ b); omega))
          rw [decide_eq_true Ep.out] at HC
          go_wp2_with fail
          refine HC.out.mono ?_
          intro e w18 hx
          obtain ⟨rfl, hx⟩ := hx
          replace HIa := hid (lift_ext HIa.out hx)
          replace HIb := hid (lift_ext HIb.out hx)
          try replace HX := hid (lift_ext HX.out hx)
          try replace HY := hid (lift_ext HY.out hx)
          try replace HP := hid (HP.out.ext hx)
          try replace HQ := hid (HQ.out.ext hx)
          try replace HR := hid (HR.out.ext hx)
          try replace HL1 := hid (HL1.out.ext hx)
          try replace HL2 := hid (HL2.out.ext hx)
          try replace HZ := hid (HZ.out.ext hx)
          try replace HW := hid (HW.out.ext hx)
          replace Hx := hid (Hx.out.trans hx)
          clear HC hx
          have HC := hid (sameints_any aQ a1 _ _ cQ p1 lq l1 w18 (HQ.out.ints (ok_le (by rw [Eq.out]; exact Il1.out))) (HL1.out.ints (ok_le Il1.out)) (by rw [Eq.out]; omega) (by omega))
          rw [decide_eq_true Eq.out] at HC
          go_wp2_with fail
          refine HC.out.mono ?_
          intro e w19 hx
          obtain ⟨rfl, hx⟩ := hx
          replace HIa := hid (lift_ext HIa.out hx)
          replace HIb := hid (lift_ext HIb.out hx)
          try replace HX := hid (lift_ext HX.out hx)
          try replace HY := hid (lift_ext HY.out hx)
          try replace HP := hid (HP.out.ext hx)
          try replace HQ := hid (HQ.out.ext hx)
          try replace HR := hid (HR.out.ext hx)
          try replace HL1 := hid (HL1.out.ext hx)
          try replace HL2 := hid (HL2.out.ext hx)
          try replace HZ := hid (HZ.out.ext hx)
          try replace HW := hid (HW.out.ext hx)
          replace Hx := hid (Hx.out.trans hx)
          clear HC hx
          have HC := hid (sameints_any aR a2 _ _ cR p2 lr l2 w19 (HR.out.ints (ok_le (by rw [Er.out]; exact Il2.out))) (HL2.out.ints (ok_le Il2.out)) (by rw [Er.out]; omega) (by omega))
          rw [decide_eq_true Er.out] at HC
          go_wp2_with fail
          refine HC.out.mono ?_
          intro e w20 hx
          obtain ⟨rfl, hx⟩ := hx
          replace HIa := hid (lift_ext HIa.out hx)
          replace HIb := hid (lift_ext HIb.out hx)
          try replace HX := hid (lift_ext HX.out hx)
          try replace HY := hid (lift_ext HY.out hx)
          try replace HP := hid (HP.out.ext hx)
          try replace HQ := hid (HQ.out.ext hx)
          try replace HR := hid (HR.out.ext hx)
          try replace HL1 := hid (HL1.out.ext hx)
          try replace HL2 := hid (HL2.out.ext hx)
          try replace HZ := hid (HZ.out.ext hx)
          try replace HW := hid (HW.out.ext hx)
          replace Hx := hid (Hx.out.trans hx)
          clear HC hx
          have Ina : Hid (chkE a = 0) := hid (HC1.out.trans H0.out)
          have HC := hid (rsettext_any _ a w20 w20.heap.size HIa.out (chkE_zero.1 Ina.out).1 (by omega))
          go_wp2_with fail
          refine HC.out.mono ?_
          intro e w21 hx
          obtain ⟨tt, rfl, htt, hx⟩ := hx
          replace HIa := hid (lift_ext HIa.out hx)
          replace HIb := hid (lift_ext HIb.out hx)
          try replace HX := hid (lift_ext HX.out hx)
          try replace HY := hid (lift_ext HY.out hx)
          try replace HP := hid (HP.out.ext hx)
          try replace HQ := hid (HQ.out.ext hx)
          try replace HR := hid (HR.out.ext hx)
          try replace HL1 := hid (HL1.out.ext hx)
          try replace HL2 := hid (HL2.out.ext hx)
          try replace HZ := hid (HZ.out.ext hx)
          try replace HW := hid (HW.out.ext hx)
          replace Hx := hid (Hx.out.trans hx)
          have Ht := hid htt
          clear HC hx htt
          have HC := hid (setread_any s w21 ad ((HA.out.ext Hx.out).errT).at1 ((HA.out.ext Hx.out).errS) (by omega) (fun w' y => HTb.out w' (Hx.out.trans y)) (HVo.out.ext Hx.out))
          go_wp2_with fail
          refine HC.out.mono ?_
          intro e w30 hx
          obtain ⟨v, c3, l3, rfl, e3, hr, hx⟩ := hx
          obtain ⟨az, cz, rfl⟩ := hr.form
          replace HIa := hid (lift_ext HIa.out hx)
          replace HIb := hid (lift_ext HIb.out hx)
          try replace HX := hid (lift_ext HX.out hx)
          try replace HY := hid (lift_ext HY.out hx)
          try replace HP := hid (HP.out.ext hx)
          try replace HQ := hid (HQ.out.ext hx)
          try replace HR := hid (HR.out.ext hx)
          try replace HL1 := hid (HL1.out.ext hx)
          try replace HL2 := hid (HL2.out.ext hx)
          try replace HZ := hid (HZ.out.ext hx)
          try replace HW := hid (HW.out.ext hx)
          replace Hx := hid (Hx.out.trans hx)
          have HZ := hid hr
          have E3 := hid e3
          clear HC hx hr e3
          have HC := hid (rreadset_any s w30 (by omega))
          go_wp2_with fail
          refine HC.out.mono ?_
          intro e w31 hx
          obtain ⟨v, c4, l4, rfl, e4, hr, hx⟩ := hx
          obtain ⟨rfl, rfl⟩ : c3 = c4 ∧ l3 = l4 := by have := E3.out.symm.trans e4; simpa using this
          obtain ⟨aw, cw, rfl⟩ := hr.form
          replace HIa := hid (lift_ext HIa.out hx)
          replace HIb := hid (lift_ext HIb.out hx)
          try replace HX := hid (lift_ext HX.out hx)
          try replace HY := hid (lift_ext HY.out hx)
          try replace HP := hid (HP.out.ext hx)
          try replace HQ := hid (HQ.out.ext hx)
          try replace HR := hid (HR.out.ext hx)
          try replace HL1 := hid (HL1.out.ext hx)
          try replace HL2 := hid (HL2.out.ext hx)
          try replace HZ := hid (HZ.out.ext hx)
          try replace HW := hid (HW.out.ext hx)
          replace Hx := hid (Hx.out.trans hx)
          have HW := hid hr
          have hle := readV_le s.data.toList
          rw [E3.out] at hle
          obtain ⟨hc3, hin3, hl3⟩ := hle
          have Hin3 : Hid (InR l3) := hid hin3
          have hc3' : c3 ≤ 10 := hc3
          have hl3' : l3.length ≤ 1000 := hl3
          clear HC hx hr e4 E3 hin3 hc3 hl3
          have HC := hid (settext_any _ a w31 w31.heap.size ad ((HA.out.ext Hx.out).errS) HX.out Ina.out (fun w' y => HTb.out w' (Hx.out.trans y)) (join_small (chkE_zero.1 Ina.out).1 (by omega)))
          go_wp2_with fail
          refine HC.out.mono ?_
          intro e w32 hx
          obtain ⟨t2, rfl, ht2, hx⟩ := hx
          replace HIa := hid (lift_ext HIa.out hx)
          replace HIb := hid (lift_ext HIb.out hx)
          try replace HX := hid (lift_ext HX.out hx)
          try replace HY := hid (lift_ext HY.out hx)
          try replace HP := hid (HP.out.ext hx)
          try replace HQ := hid (HQ.out.ext hx)
          try replace HR := hid (HR.out.ext hx)
          try replace HL1 := hid (HL1.out.ext hx)
          try replace HL2 := hid (HL2.out.ext hx)
          try replace HZ := hid (HZ.out.ext hx)
          try replace HW := hid (HW.out.ext hx)
          replace Hx := hid (Hx.out.trans hx)
          have hq : (t2.toList == tt.toList) = true := by rw [ht2, Ht.out, txt_eq]; exact beq_self_eq_true _
          clear HC hx ht2
          have HC := hid (coded1_any w32 ad (HA.out.ext Hx.out) c3 (by omega) c3)
          rw [decide_eq_true (rfl : (c3 : Int) = c3)] at HC
          go_wp2_with fail
          refine HC.out.mono ?_
          intro e w33 hx
          obtain ⟨rfl, hx⟩ := hx
          replace HIa := hid (lift_ext HIa.out hx)
          replace HIb := hid (lift_ext HIb.out hx)
          try replace HX := hid (lift_ext HX.out hx)
          try replace HY := hid (lift_ext HY.out hx)
          try replace HP := hid (HP.out.ext hx)
          try replace HQ := hid (HQ.out.ext hx)
          try replace HR := hid (HR.out.ext hx)
          try replace HL1 := hid (HL1.out.ext hx)
          try replace HL2 := hid (HL2.out.ext hx)
          try replace HZ := hid (HZ.out.ext hx)
          try replace HW := hid (HW.out.ext hx)
          replace Hx := hid (Hx.out.trans hx)
          clear HC hx
          have HC := hid (sameints_any az aw _ _ cz cw l3 l3 w33 (HZ.out.ints (ok_le Hin3.out)) (HW.out.ints (ok_le Hin3.out)) (by omega) (by omega))
          rw [decide_eq_true rfl] at HC
          go_wp2_with fail
          refine HC.out.mono ?_
          intro e w34 hx
          obtain ⟨rfl, hx⟩ := hx
          replace HIa := hid (lift_ext HIa.out hx)
          replace HIb := hid (lift_ext HIb.out hx)
          try replace HX := hid (lift_ext HX.out hx)
          try replace HY := hid (lift_ext HY.out hx)
          try replace HP := hid (HP.out.ext hx)
          try replace HQ := hid (HQ.out.ext hx)
          try replace HR := hid (HR.out.ext hx)
          try replace HL1 := hid (HL1.out.ext hx)
          try replace HL2 := hid (HL2.out.ext hx)
          try replace HZ := hid (HZ.out.ext hx)
          try replace HW := hid (HW.out.ext hx)
          replace Hx := hid (Hx.out.trans hx)
          clear HC hx
          go_wp2
          go_ret
          exact ⟨rfl, Hx.out⟩
        · have q1 : (0 : Int) < (c : Int) := by omega
          obtain rfl : lp = [] := by rw [ep.out]; unfold zeroE; rw [if_neg hcc]
          obtain rfl : lq = [] := by rw [eq.out]; unfold zeroE; rw [if_neg hcc]
          obtain rfl : lr = [] := by rw [er.out]; unfold zeroE; rw [if_neg hcc]
          clear hcc
          have Ina : Hid (chkE a = 0) := hid (HC1.out.trans H0.out)
          have HC := hid (rsettext_any _ a w14 w14.heap.size HIa.out (chkE_zero.1 Ina.out).1 (by omega))
          go_wp2_with fail
          refine HC.out.mono ?_
          intro e w21 hx
          obtain ⟨tt, rfl, htt, hx⟩ := hx
          replace HIa := hid (lift_ext HIa.out hx)
          replace HIb := hid (lift_ext HIb.out hx)
          try replace HX := hid (lift_ext HX.out hx)
          try replace HY := hid (lift_ext HY.out hx)
          try replace HP := hid (HP.out.ext hx)
          try replace HQ := hid (HQ.out.ext hx)
          try replace HR := hid (HR.out.ext hx)
          try replace HL1 := hid (HL1.out.ext hx)
          try replace HL2 := hid (HL2.out.ext hx)
          try replace HZ := hid (HZ.out.ext hx)
          try replace HW := hid (HW.out.ext hx)
          replace Hx := hid (Hx.out.trans hx)
          have Ht := hid htt
          clear HC hx htt
          have HC := hid (setread_any s w21 ad ((HA.out.ext Hx.out).errT).at1 ((HA.out.ext Hx.out).errS) (by omega) (fun w' y => HTb.out w' (Hx.out.trans y)) (HVo.out.ext Hx.out))
          go_wp2_with fail
          refine HC.out.mono ?_
          intro e w30 hx
          obtain ⟨v, c3, l3, rfl, e3, hr, hx⟩ := hx
          obtain ⟨az, cz, rfl⟩ := hr.form
          replace HIa := hid (lift_ext HIa.out hx)
          replace HIb := hid (lift_ext HIb.out hx)
          try replace HX := hid (lift_ext HX.out hx)
          try replace HY := hid (lift_ext HY.out hx)
          try replace HP := hid (HP.out.ext hx)
          try replace HQ := hid (HQ.out.ext hx)
          try replace HR := hid (HR.out.ext hx)
          try replace HL1 := hid (HL1.out.ext hx)
          try replace HL2 := hid (HL2.out.ext hx)
          try replace HZ := hid (HZ.out.ext hx)
          try replace HW := hid (HW.out.ext hx)
          replace Hx := hid (Hx.out.trans hx)
          have HZ := hid hr
          have E3 := hid e3
          clear HC hx hr e3
          have HC := hid (rreadset_any s w30 (by omega))
          go_wp2_with fail
          refine HC.out.mono ?_
          intro e w31 hx
          obtain ⟨v, c4, l4, rfl, e4, hr, hx⟩ := hx
          obtain ⟨rfl, rfl⟩ : c3 = c4 ∧ l3 = l4 := by have := E3.out.symm.trans e4; simpa using this
          obtain ⟨aw, cw, rfl⟩ := hr.form
          replace HIa := hid (lift_ext HIa.out hx)
          replace HIb := hid (lift_ext HIb.out hx)
          try replace HX := hid (lift_ext HX.out hx)
          try replace HY := hid (lift_ext HY.out hx)
          try replace HP := hid (HP.out.ext hx)
          try replace HQ := hid (HQ.out.ext hx)
          try replace HR := hid (HR.out.ext hx)
          try replace HL1 := hid (HL1.out.ext hx)
          try replace HL2 := hid (HL2.out.ext hx)
          try replace HZ := hid (HZ.out.ext hx)
          try replace HW := hid (HW.out.ext hx)
          replace Hx := hid (Hx.out.trans hx)
          have HW := hid hr
          have hle := readV_le s.data.toList
          rw [E3.out] at hle
          obtain ⟨hc3, hin3, hl3⟩ := hle
          have Hin3 : Hid (InR l3) := hid hin3
          have hc3' : c3 ≤ 10 := hc3
          have hl3' : l3.length ≤ 1000 := hl3
          clear HC hx hr e4 E3 hin3 hc3 hl3
          have HC := hid (settext_any _ a w31 w31.heap.size ad ((HA.out.ext Hx.out).errS) HX.out Ina.out (fun w' y => HTb.out w' (Hx.out.trans y)) (join_small (chkE_zero.1 Ina.out).1 (by omega)))
          go_wp2_with fail
          refine HC.out.mono ?_
          intro e w32 hx
          obtain ⟨t2, rfl, ht2, hx⟩ := hx
          replace HIa := hid (lift_ext HIa.out hx)
          replace HIb := hid (lift_ext HIb.out hx)
          try replace HX := hid (lift_ext HX.out hx)
          try replace HY := hid (lift_ext HY.out hx)
          try replace HP := hid (HP.out.ext hx)
          try replace HQ := hid (HQ.out.ext hx)
          try replace HR := hid (HR.out.ext hx)
          try replace HL1 := hid (HL1.out.ext hx)
          try replace HL2 := hid (HL2.out.ext hx)
          try replace HZ := hid (HZ.out.ext hx)
          try replace HW := hid (HW.out.ext hx)
          replace Hx := hid (Hx.out.trans hx)
          have hq : (t2.toList == tt.toList) = true := by rw [ht2, Ht.out, txt_eq]; exact beq_self_eq_true _
          clear HC hx ht2
          have HC := hid (coded1_any w32 ad (HA.out.ext Hx.out) c3 (by omega) c3)
          rw [decide_eq_true (rfl : (c3 : Int) = c3)] at HC
          go_wp2_with fail
          refine HC.out.mono ?_
          intro e w33 hx
          obtain ⟨rfl, hx⟩ := hx
          replace HIa := hid (lift_ext HIa.out hx)
          replace HIb := hid (lift_ext HIb.out hx)
          try replace HX := hid (lift_ext HX.out hx)
          try replace HY := hid (lift_ext HY.out hx)
          try replace HP := hid (HP.out.ext hx)
          try replace HQ := hid (HQ.out.ext hx)
          try replace HR := hid (HR.out.ext hx)
          try replace HL1 := hid (HL1.out.ext hx)
          try replace HL2 := hid (HL2.out.ext hx)
          try replace HZ := hid (HZ.out.ext hx)
          try replace HW := hid (HW.out.ext hx)
          replace Hx := hid (Hx.out.trans hx)
          clear HC hx
          have HC := hid (sameints_any az aw _ _ cz cw l3 l3 w33 (HZ.out.ints (ok_le Hin3.out)) (HW.out.ints (ok_le Hin3.out)) (by omega) (by omega))
          rw [decide_eq_true rfl] at HC
          go_wp2_with fail
          refine HC.out.mono ?_
          intro e w34 hx
          obtain ⟨rfl, hx⟩ := hx
          replace HIa := hid (lift_ext HIa.out hx)
          replace HIb := hid (lift_ext HIb.out hx)
          try replace HX := hid (lift_ext HX.out hx)
          try replace HY := hid (lift_ext HY.out hx)
          try replace HP := hid (HP.out.ext hx)
          try replace HQ := hid (HQ.out.ext hx)
          try replace HR := hid (HR.out.ext hx)
          try replace HL1 := hid (HL1.out.ext hx)
          try replace HL2 := hid (HL2.out.ext hx)
          try replace HZ := hid (HZ.out.ext hx)
          try replace HW := hid (HW.out.ext hx)
          replace Hx := hid (Hx.out.trans hx)
          clear HC hx
          go_wp2
          go_ret
          exact ⟨rfl, Hx.out⟩
  · have q0 : ((c1 : Int) == 0) = false := by simpa using h0
    have HB : Hid (bothE a b = c1) := hid (by unfold bothE; rw [if_neg (by rw [HC1.out]; exact h0), HC1.out])
    have H0 := hid h0
    clear h0
    have HC := hid (st_union _ _ a b w4 ad ((HA.out.ext Hx.out).errS) HX.out HY.out (by omega) (by omega))
    rw [HB.out] at HC
    go_wp2_with fail
    refine HC.out.mono ?_
    intro e w5 hx
    obtain ⟨aP, cP, lp, rfl, ep, hr, hx⟩ := hx
    replace HIa := hid (lift_ext HIa.out hx)
    replace HIb := hid (lift_ext HIb.out hx)
    try replace HX := hid (lift_ext HX.out hx)
    try replace HY := hid (lift_ext HY.out hx)
    try replace HP := hid (HP.out.ext hx)
    try replace HQ := hid (HQ.out.ext hx)
    try replace HR := hid (HR.out.ext hx)
    try replace HL1 := hid (HL1.out.ext hx)
    try replace HL2 := hid (HL2.out.ext hx)
    try replace HZ := hid (HZ.out.ext hx)
    try replace HW := hid (HW.out.ext hx)
    replace Hx := hid (Hx.out.trans hx)
    have HP := hid hr
    replace ep := hid ep
    clear HC hx hr
    have HC := hid (st_less _ _ a b w5 ad ((HA.out.ext Hx.out).errS) HX.out HY.out (by omega) (by omega))
    rw [HB.out] at HC
    go_wp2_with fail
    refine HC.out.mono ?_
    intro e w6 hx
    obtain ⟨aQ, cQ, lq, rfl, eq, hr, hx⟩ := hx
    replace HIa := hid (lift_ext HIa.out hx)
    replace HIb := hid (lift_ext HIb.out hx)
    try replace HX := hid (lift_ext HX.out hx)
    try replace HY := hid (lift_ext HY.out hx)
    try replace HP := hid (HP.out.ext hx)
    try replace HQ := hid (HQ.out.ext hx)
    try replace HR := hid (HR.out.ext hx)
    try replace HL1 := hid (HL1.out.ext hx)
    try replace HL2 := hid (HL2.out.ext hx)
    try replace HZ := hid (HZ.out.ext hx)
    try replace HW := hid (HW.out.ext hx)
    replace Hx := hid (Hx.out.trans hx)
    have HQ := hid hr
    replace eq := hid eq
    clear HC hx hr
    have HC := hid (st_and _ _ a b w6 ad ((HA.out.ext Hx.out).errS) HX.out HY.out (by omega) (by omega))
    rw [HB.out] at HC
    go_wp2_with fail
    refine HC.out.mono ?_
    intro e w7 hx
    obtain ⟨aR, cR, lr, rfl, er, hr, hx⟩ := hx
    replace HIa := hid (lift_ext HIa.out hx)
    replace HIb := hid (lift_ext HIb.out hx)
    try replace HX := hid (lift_ext HX.out hx)
    try replace HY := hid (lift_ext HY.out hx)
    try replace HP := hid (HP.out.ext hx)
    try replace HQ := hid (HQ.out.ext hx)
    try replace HR := hid (HR.out.ext hx)
    try replace HL1 := hid (HL1.out.ext hx)
    try replace HL2 := hid (HL2.out.ext hx)
    try replace HZ := hid (HZ.out.ext hx)
    try replace HW := hid (HW.out.ext hx)
    replace Hx := hid (Hx.out.trans hx)
    have HR := hid hr
    replace er := hid er
    clear HC hx hr
    have HC := hid (setcheck_any _ a w7 w7.heap.size ad ((HA.out.ext Hx.out).errS) HX.out)
    rw [HC1.out] at HC
    go_wp2_with fail
    refine HC.out.mono ?_
    intro e w8 hx
    obtain ⟨rfl, hx⟩ := hx
    replace HIa := hid (lift_ext HIa.out hx)
    replace HIb := hid (lift_ext HIb.out hx)
    try replace HX := hid (lift_ext HX.out hx)
    try replace HY := hid (lift_ext HY.out hx)
    try replace HP := hid (HP.out.ext hx)
    try replace HQ := hid (HQ.out.ext hx)
    try replace HR := hid (HR.out.ext hx)
    try replace HL1 := hid (HL1.out.ext hx)
    try replace HL2 := hid (HL2.out.ext hx)
    try replace HZ := hid (HZ.out.ext hx)
    try replace HW := hid (HW.out.ext hx)
    replace Hx := hid (Hx.out.trans hx)
    clear HC hx
    have HC := hid (coded1_any w8 ad (HA.out.ext Hx.out) c1 (by omega) c1)
    rw [decide_eq_true (rfl : (c1 : Int) = c1)] at HC
    go_wp2_with fail
    refine HC.out.mono ?_
    intro e w9 hx
    obtain ⟨rfl, hx⟩ := hx
    replace HIa := hid (lift_ext HIa.out hx)
    replace HIb := hid (lift_ext HIb.out hx)
    try replace HX := hid (lift_ext HX.out hx)
    try replace HY := hid (lift_ext HY.out hx)
    try replace HP := hid (HP.out.ext hx)
    try replace HQ := hid (HQ.out.ext hx)
    try replace HR := hid (HR.out.ext hx)
    try replace HL1 := hid (HL1.out.ext hx)
    try replace HL2 := hid (HL2.out.ext hx)
    try replace HZ := hid (HZ.out.ext hx)
    try replace HW := hid (HW.out.ext hx)
    replace Hx := hid (Hx.out.trans hx)
    clear HC hx
    have HC := hid (coded1_any w9 ad (HA.out.ext Hx.out) c1 (by omega) c1)
    rw [decide_eq_true (rfl : (c1 : Int) = c1)] at HC
    go_wp2_with fail
    refine HC.out.mono ?_
    intro e w10 hx
    obtain ⟨rfl, hx⟩ := hx
    replace HIa := hid (lift_ext HIa.out hx)
    replace HIb := hid (lift_ext HIb.out hx)
    try replace HX := hid (lift_ext HX.out hx)
    try replace HY := hid (lift_ext HY.out hx)
    try replace HP := hid (HP.out.ext hx)
    try replace HQ := hid (HQ.out.ext hx)
    try replace HR := hid (HR.out.ext hx)
    try replace HL1 := hid (HL1.out.ext hx)
    try replace HL2 := hid (HL2.out.ext hx)
    try replace HZ := hid (HZ.out.ext hx)
    try replace HW := hid (HW.out.ext hx)
    replace Hx := hid (Hx.out.trans hx)
    clear HC hx
    have HC := hid (coded1_any w10 ad (HA.out.ext Hx.out) c1 (by omega) c1)
    rw [decide_eq_true (rfl : (c1 : Int) = c1)] at HC
    go_wp2_with fail
    refine HC.out.mono ?_
    intro e w11 hx
    obtain ⟨rfl, hx⟩ := hx
    replace HIa := hid (lift_ext HIa.out hx)
    replace HIb := hid (lift_ext HIb.out hx)
    try replace HX := hid (lift_ext HX.out hx)
    try replace HY := hid (lift_ext HY.out hx)
    try replace HP := hid (HP.out.ext hx)
    try replace HQ := hid (HQ.out.ext hx)
    try replace HR := hid (HR.out.ext hx)
    try replace HL1 := hid (HL1.out.ext hx)
    try replace HL2 := hid (HL2.out.ext hx)
    try replace HZ := hid (HZ.out.ext hx)
    try replace HW := hid (HW.out.ext hx)
    replace Hx := hid (Hx.out.trans hx)
    clear HC hx
    have HC := hid (coded1_any w11 ad (HA.out.ext Hx.out) c1 (by omega) c1)
    rw [decide_eq_true (rfl : (c1 : Int) = c1)] at HC
    go_wp2_with fail
    refine HC.out.mono ?_
    intro e w12 hx
    obtain ⟨rfl, hx⟩ := hx
    replace HIa := hid (lift_ext HIa.out hx)
    replace HIb := hid (lift_ext HIb.out hx)
    try replace HX := hid (lift_ext HX.out hx)
    try replace HY := hid (lift_ext HY.out hx)
    try replace HP := hid (HP.out.ext hx)
    try replace HQ := hid (HQ.out.ext hx)
    try replace HR := hid (HR.out.ext hx)
    try replace HL1 := hid (HL1.out.ext hx)
    try replace HL2 := hid (HL2.out.ext hx)
    try replace HZ := hid (HZ.out.ext hx)
    try replace HW := hid (HW.out.ext hx)
    replace Hx := hid (Hx.out.trans hx)
    clear HC hx
    obtain ⟨d, hd⟩ : ∃ d, d = decide (n ∈ a) := ⟨_, rfl⟩
    have HC := hid (sethas_any _ a n w12 w12.heap.size HX.out)
    rw [← hd] at HC
    go_wp2_with fail
    refine HC.out.mono ?_
    intro e w13 hx
    obtain ⟨rfl, rfl⟩ := hx
    clear HC
    have HC := hid (rhas_any _ a n w12 w12.heap.size HIa.out)
    rw [← hd] at HC
    clear hd
    go_wp2_with fail
    refine HC.out.mono ?_
    intro e w13 hx
    obtain ⟨rfl, rfl⟩ := hx
    clear HC
    go_wp2
    go_loopw [20, 21, 22] (fun t20 t21 t22 wr => ∃ (i : Nat) (l1 l2 : List Int), t22 = .int .i64 (i : Int) ∧ i ≤ a.length ∧ Hid (l1 = (a.take i).filter (fun n => !decide (n ∈ b)) ∧ l2 = (a.take i).filter (fun n => decide (n ∈ b))) ∧ l1.length ≤ i ∧ l2.length ≤ i ∧ IRow w12.heap.size wr t20 l1 ∧ IRow w12.heap.size wr t21 l2 ∧ (∀ k, t20.ownBlock = some k → t21.ownBlock ≠ some k) ∧ Ext w12 wr) (fun _ _ t22 _ => a.length - (intOf t22).toNat)
    case atStart => exact ⟨0, [], [], rfl, Nat.zero_le _, hid ⟨rfl, rfl⟩, Nat.le_refl _, Nat.le_refl _, IRow.nil _ _, IRow.nil _ _, (fun k h => by cases h), Ext.refl _⟩
    case round =>
      obtain ⟨i, l1, l2, rfl, hi, hl, hn1, hn2, hr1, hr2, hd, hx⟩ := hrel
      obtain ⟨a1, p1, rfl⟩ := hr1.form
      obtain ⟨a2, p2, rfl⟩ := hr2.form
      have Hr1 := hid hr1
      have Hr2 := hid hr2
      have Hd := hid hd
      have Hxl := hid hx
      clear hr1 hr2 hd hx
      by_cases hil : i < a.length
      · obtain ⟨y, q, hya, hqk, hcq⟩ := (HIa.out.old (Hxl.out.old _)).at hil
        subst hya
        have HC := hid (rhas_any _ b q wr wr.heap.size (lift_ext HIb.out Hxl.out))
        have f1 := filter_step (fun n => !decide (n ∈ b)) hqk
        have f2 := filter_step (fun n => decide (n ∈ b)) hqk
        rw [← hl.out.1] at f1
        rw [← hl.out.2] at f2
        by_cases hq : q ∈ b
        · rw [decide_eq_true hq] at HC
          have Hn : Hid (l1 = (a.take (i + 1)).filter (fun n => !decide (n ∈ b)) ∧ l2 ++ [q] = (a.take (i + 1)).filter (fun n => decide (n ∈ b))) := hid ⟨by rw [f1]; simp [hq], by rw [f2]; simp [hq]⟩
          have Hra := hid (Hr2.out.ext ((Ext.refl wr).alloc (.cells #[.int .i64 q] 3)))
          have Hrb := hid (Hr1.out.ext ((Ext.refl wr).alloc (.cells #[.int .i64 q] 3)))
          have Hxa := hid (Hxl.out.alloc (.cells #[.int .i64 q] 3))
          clear hq f1 f2 hqk hl
          go_wp2_with fail
          refine HC.out.mono ?_
          intro e w13 hx
          obtain ⟨rfl, rfl⟩ := hx
          clear HC
          go_wp2_with (at_builtin; refine wpList_append_el w12.heap.size Hxa.out.size 45 3 (.int .i64 0) 1 8 Tryz.underlying45 ints_info rfl (by omega) (by omega) rfl _ _ rfl (.slice a2 l2.length p2) l2.length (icells l2) rfl Hra.out wr.heap.size [.int .i64 q] rfl (by simp [Value.oneCell']) rfl (Blk.new _ _ _) (by omega) ?_; intro v' w' h1 h2 h4; obtain ⟨a', c', rfl⟩ := row_form h1; have h3 := hid (Keep.new Hxa.out h2 (fun k hk => (Hra.out.lt hk).1)); have h5 := hid (rows_app Hrb.out Hd.out h2 h4); have h1 := hid h1; clear h2 h4)
          go_roundw
          case rel => exact ⟨i + 1, l1, l2 ++ [q], by go_num, by omega, Hn, by omega, by simp; omega, h5.out.1, by unfold IRow; rw [icells_append, List.length_append]; exact h1.out, h5.out.2, h3.out⟩
          case measure => simp [intOf]; omega
        · rw [decide_eq_false hq] at HC
          have Hn : Hid (l1 ++ [q] = (a.take (i + 1)).filter (fun n => !decide (n ∈ b)) ∧ l2 = (a.take (i + 1)).filter (fun n => decide (n ∈ b))) := hid ⟨by rw [f1]; simp [hq], by rw [f2]; simp [hq]⟩
          have Hra := hid (Hr1.out.ext ((Ext.refl wr).alloc (.cells #[.int .i64 q] 3)))
          have Hrb := hid (Hr2.out.ext ((Ext.refl wr).alloc (.cells #[.int .i64 q] 3)))
          have Hxa := hid (Hxl.out.alloc (.cells #[.int .i64 q] 3))
          have Hd2 : Hid (∀ k, (Value.slice a2 l2.length p2).ownBlock = some k → (Value.slice a1 l1.length p1).ownBlock ≠ some k) := hid fun k h1 h2 => Hd.out k h2 h1
          clear hq f1 f2 hqk hl
          go_wp2_with fail
          refine HC.out.mono ?_
          intro e w13 hx
          obtain ⟨rfl, rfl⟩ := hx
          clear HC
          go_wp2_with (at_builtin; refine wpList_append_el w12.heap.size Hxa.out.size 45 3 (.int .i64 0) 1 8 Tryz.underlying45 ints_info rfl (by omega) (by omega) rfl _ _ rfl (.slice a1 l1.length p1) l1.length (icells l1) rfl Hra.out wr.heap.size [.int .i64 q] rfl (by simp [Value.oneCell']) rfl (Blk.new _ _ _) (by omega) ?_; intro v' w' h1 h2 h4; obtain ⟨a', c', rfl⟩ := row_form h1; have h3 := hid (Keep.new Hxa.out h2 (fun k hk => (Hra.out.lt hk).1)); have h5 := hid (rows_app Hrb.out Hd2.out h2 h4); have h1 := hid h1; clear h2 h4)
          go_roundw
          case rel => exact ⟨i + 1, l1 ++ [q], l2, by go_num, by omega, Hn, by simp; omega, by omega, by unfold IRow; rw [icells_append, List.length_append]; exact h1.out, h5.out.1, fun k h1 h2 => h5.out.2 k h2 h1, h3.out⟩
          case measure => simp [intOf]; omega
      · obtain rfl : i = a.length := by omega
        have hl' := hl.out
        rw [List.take_of_length_le (Nat.le_refl _)] at hl'
        have E1 := hid hl'.1
        have E2 := hid hl'.2
        have hx := Hxl.out
        have HL1 := hid Hr1.out
        have HL2 := hid Hr2.out
        replace HIa := hid (lift_ext HIa.out hx)
        replace HIb := hid (lift_ext HIb.out hx)
        replace HX := hid (lift_ext HX.out hx)
        replace HY := hid (lift_ext HY.out hx)
        replace HP := hid (HP.out.ext hx)
        replace HQ := hid (HQ.out.ext hx)
        replace HR := hid (HR.out.ext hx)
        replace Hx := hid (Hx.out.trans hx)
        clear hl hl' hx Hr1 Hr2 Hd Hxl hil hi
        have HC := hid (setwithin_any _ _ a b wr wr.heap.size HX.out HY.out)
        rw [show (a.all fun n => decide (n ∈ b)) = ((l1.length : Int) == 0) from by rw [E1.out]; exact all_none a b] at HC
        obtain ⟨z, hz⟩ : ∃ z, ((l1.length : Int) == 0) = z := ⟨_, rfl⟩
        rw [hz] at HC
        go_wp2_with fail
        refine HC.out.mono ?_
        intro e w14 hx
        obtain ⟨rfl, hx⟩ := hx
        replace HIa := hid (lift_ext HIa.out hx)
        replace HIb := hid (lift_ext HIb.out hx)
        try replace HX := hid (lift_ext HX.out hx)
        try replace HY := hid (lift_ext HY.out hx)
        try replace HP := hid (HP.out.ext hx)
        try replace HQ := hid (HQ.out.ext hx)
        try replace HR := hid (HR.out.ext hx)
        try replace HL1 := hid (HL1.out.ext hx)
        try replace HL2 := hid (HL2.out.ext hx)
        try replace HZ := hid (HZ.out.ext hx)
        try replace HW := hid (HW.out.ext hx)
        replace Hx := hid (Hx.out.trans hx)
        clear HC hx
        by_cases hcc : c1 = 0
        · exact absurd hcc H0.out
        · have q1 : (0 : Int) < (c1 : Int) := by omega
          obtain rfl : lp = [] := by rw [ep.out]; unfold zeroE; rw [if_neg hcc]
          obtain rfl : lq = [] := by rw [eq.out]; unfold zeroE; rw [if_neg hcc]
          obtain rfl : lr = [] := by rw [er.out]; unfold zeroE; rw [if_neg hcc]
          clear hcc
          obtain ⟨w21, hw2⟩ : ∃ w21, w21 = w14 := ⟨_, rfl⟩
          subst hw2
          have HC := hid (setread_any s w21 ad ((HA.out.ext Hx.out).errT).at1 ((HA.out.ext Hx.out).errS) (by omega) (fun w' y => HTb.out w' (Hx.out.trans y)) (HVo.out.ext Hx.out))
          go_wp2_with fail
          refine HC.out.mono ?_
          intro e w30 hx
          obtain ⟨v, c3, l3, rfl, e3, hr, hx⟩ := hx
          obtain ⟨az, cz, rfl⟩ := hr.form
          replace HIa := hid (lift_ext HIa.out hx)
          replace HIb := hid (lift_ext HIb.out hx)
          try replace HX := hid (lift_ext HX.out hx)
          try replace HY := hid (lift_ext HY.out hx)
          try replace HP := hid (HP.out.ext hx)
          try replace HQ := hid (HQ.out.ext hx)
          try replace HR := hid (HR.out.ext hx)
          try replace HL1 := hid (HL1.out.ext hx)
          try replace HL2 := hid (HL2.out.ext hx)
          try replace HZ := hid (HZ.out.ext hx)
          try replace HW := hid (HW.out.ext hx)
          replace Hx := hid (Hx.out.trans hx)
          have HZ := hid hr
          have E3 := hid e3
          clear HC hx hr e3
          have HC := hid (rreadset_any s w30 (by omega))
          go_wp2_with fail
          refine HC.out.mono ?_
          intro e w31 hx
          obtain ⟨v, c4, l4, rfl, e4, hr, hx⟩ := hx
          obtain ⟨rfl, rfl⟩ : c3 = c4 ∧ l3 = l4 := by have := E3.out.symm.trans e4; simpa using this
          obtain ⟨aw, cw, rfl⟩ := hr.form
          replace HIa := hid (lift_ext HIa.out hx)
          replace HIb := hid (lift_ext HIb.out hx)
          try replace HX := hid (lift_ext HX.out hx)
          try replace HY := hid (lift_ext HY.out hx)
          try replace HP := hid (HP.out.ext hx)
          try replace HQ := hid (HQ.out.ext hx)
          try replace HR := hid (HR.out.ext hx)
          try replace HL1 := hid (HL1.out.ext hx)
          try replace HL2 := hid (HL2.out.ext hx)
          try replace HZ := hid (HZ.out.ext hx)
          try replace HW := hid (HW.out.ext hx)
          replace Hx := hid (Hx.out.trans hx)
          have HW := hid hr
          have hle := readV_le s.data.toList
          rw [E3.out] at hle
          obtain ⟨hc3, hin3, hl3⟩ := hle
          have Hin3 : Hid (InR l3) := hid hin3
          have hc3' : c3 ≤ 10 := hc3
          have hl3' : l3.length ≤ 1000 := hl3
          clear HC hx hr e4 E3 hin3 hc3 hl3
          have HC := hid (settext_bad _ a w31 w31.heap.size ad ((HA.out.ext Hx.out).errS) HX.out (by rw [HC1.out]; exact H0.out))
          go_wp2_with fail
          refine HC.out.mono ?_
          intro e w32 hx
          obtain ⟨rfl, hx⟩ := hx
          replace HIa := hid (lift_ext HIa.out hx)
          replace HIb := hid (lift_ext HIb.out hx)
          try replace HX := hid (lift_ext HX.out hx)
          try replace HY := hid (lift_ext HY.out hx)
          try replace HP := hid (HP.out.ext hx)
          try replace HQ := hid (HQ.out.ext hx)
          try replace HR := hid (HR.out.ext hx)
          try replace HL1 := hid (HL1.out.ext hx)
          try replace HL2 := hid (HL2.out.ext hx)
          try replace HZ := hid (HZ.out.ext hx)
          try replace HW := hid (HW.out.ext hx)
          replace Hx := hid (Hx.out.trans hx)
          clear HC hx
          have HC := hid (coded1_any w32 ad (HA.out.ext Hx.out) c3 (by omega) c3)
          rw [decide_eq_true (rfl : (c3 : Int) = c3)] at HC
          go_wp2_with fail
          refine HC.out.mono ?_
          intro e w33 hx
          obtain ⟨rfl, hx⟩ := hx
          replace HIa := hid (lift_ext HIa.out hx)
          replace HIb := hid (lift_ext HIb.out hx)
          try replace HX := hid (lift_ext HX.out hx)
          try replace HY := hid (lift_ext HY.out hx)
          try replace HP := hid (HP.out.ext hx)
          try replace HQ := hid (HQ.out.ext hx)
          try replace HR := hid (HR.out.ext hx)
          try replace HL1 := hid (HL1.out.ext hx)
          try replace HL2 := hid (HL2.out.ext hx)
          try replace HZ := hid (HZ.out.ext hx)
          try replace HW := hid (HW.out.ext hx)
          replace Hx := hid (Hx.out.trans hx)
          clear HC hx
          have HC := hid (sameints_any az aw _ _ cz cw l3 l3 w33 (HZ.out.ints (ok_le Hin3.out)) (HW.out.ints (ok_le Hin3.out)) (by omega) (by omega))
          rw [decide_eq_true rfl] at HC
          go_wp2_with fail
          refine HC.out.mono ?_
          intro e w34 hx
          obtain ⟨rfl, hx⟩ := hx
          replace HIa := hid (lift_ext HIa.out hx)
          replace HIb := hid (lift_ext HIb.out hx)
          try replace HX := hid (lift_ext HX.out hx)
          try replace HY := hid (lift_ext HY.out hx)
          try replace HP := hid (HP.out.ext hx)
          try replace HQ := hid (HQ.out.ext hx)
          try replace HR := hid (HR.out.ext hx)
          try replace HL1 := hid (HL1.out.ext hx)
          try replace HL2 := hid (HL2.out.ext hx)
          try replace HZ := hid (HZ.out.ext hx)
          try replace HW := hid (HW.out.ext hx)
          replace Hx := hid (Hx.out.trans hx)
          clear HC hx
          go_wp2
          go_ret
          exact ⟨rfl, Hx.out⟩
end Go.Proofs.YtbagppdibncfdaaGreatDoor
