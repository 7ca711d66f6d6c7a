/- Texts of one proof, put together: E5 E6 V3q Z5 X1 X2. -/
import Derived.Test.YtnpnhbfbklibhaaGreatDoorZFO07
import Derived.Test.YtnpnhbfbklibhaaGreatDoorZFO09
import Derived.Test.YtnpnhbfbklibhaaGreatDoorZFO14
import Derived.Test.YtnpnhbfbklibhaaGreatDoorZFO15
import Derived.OwnWalk

/- The least answer (fix.Least). -/
namespace Go.Proofs.YtnpnhbfbklibhaaGreatDoor
set_option linter.unusedSimpArgs false
set_option linter.unusedVariables false
open Go Go.RowKit

theorem first_of {p : Nat → Prop} : ∀ n, p n → ∃ m, p m ∧ ∀ k, k < m → ¬ p k := fun n => by
  induction n using Nat.strongRecOn with
  | _ n ih =>
    intro hn
    rcases Classical.em (∃ k, k < n ∧ p k) with ⟨k, hk, hp⟩ | h
    · exact ih k hk hp
    · exact ⟨n, hn, fun k hk hp => h ⟨k, hk, hp⟩⟩
theorem iter_total {P : PP} (hw : P.Well) : ∀ n, (∀ m, m < n → P.roundV (P.iterV m) ≠ P.iterV m) → n ≤ total (P.iterV n)
  | 0, _ => Nat.zero_le _
  | n + 1, h => by
    have h1 := iter_total hw n fun m hm => h m (by omega)
    have h2 := iter_grows hw n (h n (by omega))
    omega
theorem least_exists {P : PP} (hw : P.Well) : ∃ n S, LeastAt P n S := by
  have h : ∃ n, P.roundV (P.iterV n) = P.iterV n := by
    rcases Classical.em (∃ n, P.roundV (P.iterV n) = P.iterV n) with h | h
    · exact h
    · have h1 := iter_total hw 200000 fun m _ e => h ⟨m, e⟩
      have h2 := iter_few hw 200000
      omega
  obtain ⟨n, hn⟩ := h
  obtain ⟨m, hm, hf⟩ := first_of (p := fun n => P.roundV (P.iterV n) = P.iterV n) n hn
  exact ⟨m, P.iterV m, rfl, hm, hf⟩
theorem LeastAt.few {P : PP} (hw : P.Well) {n : Nat} {S : List (List Int)} (h : LeastAt P n S) : n ≤ 120000 := by
  have h1 := iter_total hw n fun m hm => h.first m hm
  have h2 := iter_few hw n
  omega
theorem made_nil (w : World) (N : Nat) : Made w (List.replicate N (.slice none 0 0)) (List.replicate N []) := by
  refine ⟨by simp, fun i v l hv hl => ?_⟩
  obtain rfl := List.eq_of_mem_replicate (List.mem_of_getElem? hv)
  obtain rfl := List.eq_of_mem_replicate (List.mem_of_getElem? hl)
  exact IntsT.nil w
set_option maxRecDepth 100000 in
set_option maxHeartbeats 1600000 in
theorem fixleast_no (a1 a2 a3 : Option Addr) (c1 c2 c3 : Nat) (P : PP) (w : World) (n0 : Nat) (ad : Nat → Addr) (h : PS0 w n0 ad a1 a2 a3 c1 c2 c3 P) (hw : ¬ P.Well) :
    Calls Tryz.prog 9 #[pval a1 a2 a3 c1 c2 c3 P] w fun e w' => ∃ t x, e = .returned (.tuple #[.slice none 0 0, .int .i64 0, .iface t (.pointer (some x))]) ∧ ErrIs ad P w' (.iface t (.pointer (some x))) ∧ Ext w w' := by
  obtain ⟨W, hW⟩ : ∃ W, W = w.alloc (.cells (pcells a1 a2 a3 c1 c2 c3 P) 26) := ⟨_, rfl⟩
  have HX : Hid (Ext w W) := hid (by rw [hW]; exact (Ext.refl _).alloc _)
  have HBx : Hid (Blk W w.heap.size (pcells a1 a2 a3 c1 c2 c3 P) 26) := hid (by rw [hW]; exact Blk.new _ _ _)
  have HWe : Hid (W = w.alloc (.cells #[.slice a1 P.vars.length c1, .slice a2 P.funs.length c2, .slice a3 P.stmts.length c3] 26)) := hid (by rw [hW]; rfl)
  have hml : (P.vars.length : Int) ≤ 9223372036854775807 := by
    obtain ⟨_, _, _, h2, h3, _⟩ := h.prog.vars
    omega
  have HK := hid (pcheck_any a1 a2 a3 c1 c2 c3 P W n0 ad (h.errs.ext HX.out) (h.prog.ext HX.out) h.z1 h.z2 hml)
  have Hw := hid hw
  have d0 := HBx.out.av 0 rfl
  have d1 := HBx.out.av 1 rfl
  have d2 := HBx.out.av 2 rfl
  simp only [pcells, List.getElem_toArray, List.getElem_cons_zero, List.getElem_cons_succ] at d0 d1 d2
  rw [HWe.out] at d0 d1 d2
  unfold pval at HK ⊢
  clear hW h hw
  go_enter Tryz.func9, Tryz.ntmps9
  go_wp2_with fail
  rw [← HWe.out]
  refine HK.out.mono ?_
  intro e w1 hx
  obtain ⟨v, rfl, hi, hx1⟩ := hx
  obtain ⟨t, x, rfl⟩ : ∃ t x, v = .iface t (.pointer (some x)) := by
    rcases hi.form with ⟨_, h⟩ | ⟨h, _⟩
    · exact absurd h Hw.out
    · exact h
  have Hi := hid hi
  have Hx1 := hid (HX.out.trans hx1)
  clear HK hx1 hi d0 d1 d2
  go_wp2
  refine bodyPost_ret (v := .tuple #[.slice none 0 0, .int .i64 0, .iface t (.pointer (some x))]) (by simp [results, Tryz.results9, go_sem]) rfl ?_
  exact ⟨t, x, rfl, Hi.out, Hx1.out⟩
set_option maxRecDepth 100000 in
set_option maxHeartbeats 3200000 in
theorem fixleast_ok (a1 a2 a3 : Option Addr) (c1 c2 c3 : Nat) (P : PP) (w : World) (ad : Nat → Addr) (h : PW w w.heap.size ad a1 a2 a3 c1 c2 c3 P) (hS : ErrS w ad) (n : Nat) (S : List (List Int)) (hL : LeastAt P n S) :
    Calls Tryz.prog 9 #[pval a1 a2 a3 c1 c2 c3 P] w fun e w' => ∃ a c, e = .returned (.tuple #[.slice a P.nodesV c, .int .i64 (n : Int), .nilIface]) ∧ SetsR w' w'.heap.size (.slice a P.nodesV c) S ∧ Ext w w' := by
  have Hw := hid h.well
  have HLe := hid hL
  have hn12 := hL.few h.well
  obtain ⟨hf1, hf2, hf3⟩ := h.well.few
  obtain ⟨W, hW⟩ : ∃ W, W = w.alloc (.cells (pcells a1 a2 a3 c1 c2 c3 P) 26) := ⟨_, rfl⟩
  have HX : Hid (Ext w W) := hid (by rw [hW]; exact (Ext.refl _).alloc _)
  have HBx : Hid (Blk W w.heap.size (pcells a1 a2 a3 c1 c2 c3 P) 26) := hid (by rw [hW]; exact Blk.new _ _ _)
  have HWe : Hid (W = w.alloc (.cells #[.slice a1 P.vars.length c1, .slice a2 P.funs.length c2, .slice a3 P.stmts.length c3] 26)) := hid (by rw [hW]; rfl)
  have HK := hid (check_well (h.errs.ext HX.out) (h.prog.ext HX.out) h.z1 h.z2 h.well)
  have HNo := fun w1 (x : Ext w w1) => hid (prognodes_any a1 a2 a3 c1 c2 c3 P w1 w.heap.size ad (h.errs.ext x) (h.prog.ext x) h.z1 h.z2 h.well)
  have HPW := hid h
  have HS := hid hS
  have hN6 := nodesV_le P h.well
  have HRo := fun w1 (x : Ext w w1) hv has (hh : SetsR w1 w1.heap.size hv has) (hg : P.GoodS has) => hid (fixround_ok a1 a2 a3 c1 c2 c3 P hv has w1 ad ((HPW.out.ext x).lift x.size) (HS.out.ext x) hh hg)
  have HGd := fun k => hid (iterV_good h.well k)
  obtain ⟨N, hN⟩ : ∃ N, N = P.nodesV := ⟨_, rfl⟩
  rw [← hN] at HNo hN6 ⊢
  have HN := hid hN
  have d0 := HBx.out.av 0 rfl
  have d1 := HBx.out.av 1 rfl
  have d2 := HBx.out.av 2 rfl
  simp only [pcells, List.getElem_toArray, List.getElem_cons_zero, List.getElem_cons_succ] at d0 d1 d2
  rw [HWe.out] at d0 d1 d2
  unfold pval at HK HNo HRo ⊢
  clear hW h hS hL hN
  go_enter Tryz.func9, Tryz.ntmps9
  go_wp2_with fail
  rw [← HWe.out]
  refine HK.out.mono ?_
  intro e w1 hx
  obtain ⟨rfl, hx1⟩ := hx
  have Hx1 := hid hx1
  have HN1 := HNo w1 (HX.out.trans hx1)
  clear HK hx1 d0 d1 d2 HNo
  have d0 := (HBx.out.ext Hx1.out).av 0 rfl
  have d1 := (HBx.out.ext Hx1.out).av 1 rfl
  have d2 := (HBx.out.ext Hx1.out).av 2 rfl
  simp only [pcells, List.getElem_toArray, List.getElem_cons_zero, List.getElem_cons_succ] at d0 d1 d2
  go_wp2_with fail
  refine HN1.out.mono ?_
  intro e w2 hx
  obtain ⟨rfl, hx2⟩ := hx
  have Hx2 := hid (Hx1.out.trans hx2)
  obtain ⟨bi, hbi, hbz, hbs, hbb⟩ := info_parts rows_info
  clear HN1 hx2 d0 d1 d2
  go_wp2_with (at_make; refine wpList_make_full w2 rfl _ _ _ rfl w2.heap.size 27 bi (.slice none 0 0) 1 Tryz.underlying33 hbi hbz hbs .i64 .i64 (N : Int) (N : Int) N rfl rfl rfl rfl (by rw [hbb]; omega) (by unfold maxLen; omega) (Nat.le_refl _) ?_; intro w3 hrow hgr)
  have hx3 : Ext w2 w3 := Keep.new (Ext.refl w2) (grown_keep hgr) (fun k hk => by cases hk)
  rw [show (Value.slice none 0 0).cells = #[Value.slice none 0 0] from rfl, toList_madeCells_one, Nat.mul_one] at hrow
  have Hx3 := hid (Hx2.out.trans hx3)
  have HS0 : Hid (SetsR w3 w3.heap.size (.slice (some ⟨w2.heap.size, 0, none⟩) N N) (P.iterV 0)) := hid (by
    have h1 := SetsR.made (v := .slice (some ⟨w2.heap.size, 0, none⟩) N N) (L := List.replicate N []) (by rw [List.length_replicate]; exact hrow) (made_nil w3 N)
    have e0 : P.iterV 0 = List.replicate N [] := by rw [HN.out]; rfl
    exact e0 ▸ h1)
  clear hrow hgr hx3 hbi hbz hbs hbb
  go_wp2
  go_loopw [6, 7] (fun t6 t7 wr => ∃ (k : Nat) (a : Option Addr) (c : Nat), t7 = .int .i64 (k : Int) ∧ t6 = .slice a N c ∧ k ≤ n ∧ SetsR wr wr.heap.size (.slice a N c) (P.iterV k) ∧ Ext W wr) (fun _ t7 _ => 200000 - (intOf t7).toNat)
  case atStart => exact ⟨0, _, _, rfl, rfl, Nat.zero_le _, HS0.out, Hx3.out⟩
  case round =>
    clear HS0 Hx3
    obtain ⟨k, a, c, rfl, rfl, hk, hs, hx⟩ := hrel
    have Hx := hid hx
    have Hs := hid hs
    have hlen : (P.iterV k).length = N := by rw [HN.out]; exact (HGd k).out.2.1
    have HC := HRo wr (HX.out.trans hx) (.slice a N c) (P.iterV k) hs (HGd k).out
    have d0 := (HBx.out.ext hx).av 0 rfl
    have d1 := (HBx.out.ext hx).av 1 rfl
    have d2 := (HBx.out.ext hx).av 2 rfl
    simp only [pcells, List.getElem_toArray, List.getElem_cons_zero, List.getElem_cons_succ] at d0 d1 d2
    rw [hlen] at HC
    clear hs hx hlen HRo
    go_wp2_with fail
    refine HC.out.mono ?_
    intro e w5 hx
    obtain ⟨a5, c5, rfl, hs5, hx5⟩ := hx
    have Hx5 := hid (Hx.out.trans hx5)
    have Hs5 := hid hs5
    have Hso := hid ((Hs.out.ext hx5).lift hx5.size)
    have HSm := hid (fixsame_any (.slice a5 N c5) (.slice a N c) (P.roundV (P.iterV k)) (P.iterV k) w5 w5.heap.size hs5 ((Hs.out.ext hx5).lift hx5.size))
    obtain ⟨d, hd⟩ : ∃ d, d = decide (P.roundV (P.iterV k) = P.iterV k) := ⟨_, rfl⟩
    rw [← hd] at HSm
    have Hd := hid hd
    clear HC hs5 hx5 d0 d1 d2 hd
    go_wp2_with fail
    refine HSm.out.mono ?_
    intro e w6 hx
    obtain ⟨rfl, hx6⟩ := hx
    have Hx6 := hid (Hx5.out.trans hx6)
    have Hs6 := hid ((Hs5.out.ext hx6).lift hx6.size)
    have Hso6 := hid ((Hso.out.ext hx6).lift hx6.size)
    clear HSm
    cases d with
    | true =>
      have hfix : P.roundV (P.iterV k) = P.iterV k := of_decide_eq_true Hd.out.symm
      have hkn : k = n := by
        rcases Nat.lt_or_ge k n with g | g
        · exact absurd hfix (HLe.out.first k g)
        · omega
      subst hkn
      have HF : Hid (SetsR w6 w6.heap.size (.slice a N c) S) := hid (by
        rw [HLe.out.eq]
        exact Hso6.out)
      clear hx6 hfix
      go_wp2
      refine bodyPost_ret (v := .tuple #[.slice a N c, .int .i64 (k : Int), .nilIface]) (by simp [results, Tryz.results9, go_sem]) rfl ?_
      exact ⟨a, c, rfl, HF.out, HX.out.trans Hx6.out⟩
    | false =>
      have hne : P.roundV (P.iterV k) ≠ P.iterV k := of_decide_eq_false Hd.out.symm
      have hkn : k < n := by
        rcases Nat.lt_or_ge k n with g | g
        · exact g
        · obtain rfl : k = n := by omega
          exact absurd (by rw [← HLe.out.eq]; exact HLe.out.fix) hne
      have Hs7 : Hid (SetsR w6 w6.heap.size (.slice a5 N c5) (P.iterV (k + 1))) := hid Hs6.out
      clear hx6 hne
      go_wp2
      go_roundw
      case rel => exact ⟨k + 1, a5, c5, by go_num, rfl, by omega, Hs7.out, Hx6.out⟩
      case measure => simp [intOf]; omega
end Go.Proofs.YtnpnhbfbklibhaaGreatDoor


/- Least answers: the reference's comparison of sets; the law's own small program. -/
namespace Go.Proofs.YtnpnhbfbklibhaaGreatDoor
set_option linter.unusedSimpArgs false
set_option linter.unusedVariables false
open Go Go.RowKit

theorem setok_few {l : List Int} (h : chkE l = 0) (i : Nat) : l.getD i 0 ≤ 9223372036854775807 := by
  rw [List.getD_eq_getElem?_getD]
  cases hx : l[i]? with
  | none => exact (by decide : (0 : Int) ≤ 9223372036854775807)
  | some x =>
    have := (chkE_zero.1 h).1 x (List.mem_of_getElem? hx)
    show x ≤ _
    omega
set_option maxRecDepth 100000 in
set_option maxHeartbeats 1600000 in
theorem samesets_any (va vb : Value) (A B : List (List Int)) (w : World) (n0 : Nat) (ha : SetsR w n0 va A) (hb : SetsR w n0 vb B) (ka : ∀ l ∈ A, chkE l = 0) (kb : ∀ l ∈ B, chkE l = 0) :
    Calls Tryz.prog 10 #[va, vb] w fun e w' => e = .returned (.bool (decide (A = B))) ∧ Ext w w' := by
  have hal := ha.len
  have hbl := hb.len
  have HA := hid ha
  have HB := hid hb
  have HKa := hid ka
  have HKb := hid kb
  obtain ⟨aa, ca, rfl⟩ := ha.form
  obtain ⟨ab, cb, rfl⟩ := hb.form
  clear ha hb ka kb
  by_cases hl : A.length = B.length
  · have Hl := hid hl
    have e0 : ((A.length : Int) != (B.length : Int)) = false := by rw [hl]; simp
    clear hl
    go_enter Tryz.func10, Tryz.ntmps10
    go_wp2
    clear e0
    go_loopw [5] (fun t5 wr => ∃ k : Nat, t5 = .int .i64 (k : Int) ∧ k ≤ A.length ∧ (∀ j, j < k → A[j]? = B[j]?) ∧ Ext w wr) (fun t5 _ => A.length - (intOf t5).toNat)
    case atStart => exact ⟨0, rfl, Nat.zero_le _, fun j h => by omega, Ext.refl _⟩
    case round =>
      obtain ⟨k, rfl, hk, hp, hx⟩ := hrel
      have Hp := hid hp
      have Hx := hid hx
      clear hp hx
      by_cases hlt : k < A.length
      · have hlt2 : k < B.length := by rw [← Hl.out]; exact hlt
        obtain ⟨ya, l, bl, cl, hya, hpk, hcp, hI⟩ := (HA.out.ext Hx.out).at hlt
        subst hya
        obtain ⟨yb, m, bm, cm, hyb, hqk, hcq, hI'⟩ := (HB.out.ext Hx.out).at hlt2
        subst hyb
        have hll := hI.len
        have hml := hI'.len
        have HC := fun w1 (x : Ext wr w1) => hid (sameints_any bl bm l.length m.length cl cm l m w1 (IntsR.ints (hI.old (x.old _)) (setok_few (HKa.out l (List.mem_of_getElem? hpk)))) (IntsR.ints (hI'.old (x.old _)) (setok_few (HKb.out m (List.mem_of_getElem? hqk)))) hll hml)
        have c0 : ∀ w1, Keep (fun _ => False) wr w1 → w1.cell? (ya.add k) = some (.slice bl l.length cl) := fun w1 k => k.ext.cellx hcp
        have c1 : ∀ w1, Keep (fun _ => False) wr w1 → w1.cell? (yb.add k) = some (.slice bm m.length cm) := fun w1 k => k.ext.cellx hcq
        obtain ⟨d, hd⟩ : ∃ d, d = decide (l = m) := ⟨_, rfl⟩
        rw [← hd] at HC
        have Hd := hid hd
        have Hpk := hid hpk
        have Hqk := hid hqk
        clear hpk hqk hI hI' hd hcp hcq
        go_wp2
        refine wp_flowT (fun _ => False) (by kernel_rfl) (by kernel_rfl) ?_
        repeat (apply FlowT.d; (intro w1 hk; unfold does; go_simp; (try go_ints); (first | exact DetR.mk | (simp only [↓IntWalk.iteOmega, Oper.doesUpon_value]; exact DetR.mk) | (simp only [↓IntWalk.iteOmega]; go_simp; (try go_ints); exact DetR.mk))); simp only [Act.put, List.setIfInBounds_toArray, List.set_cons_zero, List.set_cons_succ])
        apply FlowT.d
        · intro w1 hk
          unfold does
          go_simp
          exact CallR.det ((HC w1 hk.ext).out)
        simp only [Act.put, List.setIfInBounds_toArray, List.set_cons_zero, List.set_cons_succ]
        repeat (apply FlowT.d; (intro w1 hk; unfold does; go_simp; (try go_ints); (first | exact DetR.mk | (simp only [↓IntWalk.iteOmega, Oper.doesUpon_value]; exact DetR.mk) | (simp only [↓IntWalk.iteOmega]; go_simp; (try go_ints); exact DetR.mk))); simp only [Act.put, List.setIfInBounds_toArray, List.set_cons_zero, List.set_cons_succ])
        refine FlowT.fin fun w1 hx1 hk1 => ?_
        have Hx1 := hid (Hx.out.trans hx1)
        clear HC hx1 hk1 c0 c1
        cases d with
        | true =>
          have He : Hid (l = m) := hid (of_decide_eq_true Hd.out.symm)
          go_wp2
          go_roundw
          case rel =>
            refine ⟨k + 1, by go_num, by omega, fun j hj => ?_, Hx1.out⟩
            by_cases hjk : j = k
            · subst hjk; rw [Hpk.out, Hqk.out, He.out]
            · exact Hp.out j (by omega)
          case measure => simp [intOf]; omega
        | false =>
          have Hne : Hid (decide (A = B) = false) := hid (decide_eq_false fun h => (of_decide_eq_false Hd.out.symm) (by
            have h1 := Hpk.out
            rw [h] at h1
            exact Option.some.inj (h1.symm.trans Hqk.out)))
          go_wp2
          go_ret
          exact ⟨by rw [Hne.out]; rfl, Hx1.out⟩
      · have Heq : Hid (decide (A = B) = true) := hid (decide_eq_true (ext_take Hl.out fun j hj => Hp.out j (by omega)))
        obtain rfl : k = A.length := by omega
        go_wp2
        go_ret
        exact ⟨by rw [Heq.out]; rfl, Hx.out⟩
  · have e0 : ((A.length : Int) != (B.length : Int)) = true := bne_iff_ne.2 (fun h => hl (Int.ofNat_inj.1 h))
    have Hne : Hid (decide (A = B) = false) := hid (decide_eq_false fun h => hl (by rw [h]))
    clear hl
    go_enter Tryz.func10, Tryz.ntmps10
    go_wp2
    go_ret
    exact ⟨by rw [Hne.out]; rfl, Ext.refl _⟩

def fixedP : PP := ⟨[⟨#[97]⟩, ⟨#[98]⟩], [], [⟨⟨#[97, 100, 100, 114]⟩, 0, 1, []⟩, ⟨⟨#[99, 111, 112, 121]⟩, 1, 0, []⟩]⟩
theorem fixed_well : fixedP.Well := by
  refine ⟨by decide +kernel, fun j t hj ht => ?_⟩
  have hj2 : j < 2 := hj
  rcases (by omega : j = 0 ∨ j = 1) with rfl | rfl
  · obtain rfl := Option.some.inj ht
    decide +kernel
  · obtain rfl := Option.some.inj ht
    decide +kernel
theorem fixed_least : LeastAt fixedP 2 [[1], [1]] := by
  refine ⟨by decide +kernel, by decide +kernel, fun m hm => ?_⟩
  rcases (by omega : m = 0 ∨ m = 1) with rfl | rfl <;> decide +kernel
theorem fixed_nodes : fixedP.nodesV = 2 := by decide +kernel
def fixedS : Array Value := #[.string ⟨#[97, 100, 100, 114]⟩, .int .i64 0, .int .i64 1, .slice none 0 0, .string ⟨#[99, 111, 112, 121]⟩, .int .i64 1, .int .i64 0, .slice none 0 0]
theorem fixed_prog {w : World} {a b n0 : Nat} (ha : Blk w a #[.string ⟨#[97]⟩, .string ⟨#[98]⟩] 9) (hb : Blk w b fixedS 29) (h1 : a < n0) (h2 : b < n0) : ProgR w n0 (.slice (some ⟨a, 0, none⟩) 2 2) (.slice none 0 0) (.slice (some ⟨b, 0, none⟩) 2 2) fixedP := by
  refine ⟨⟨_, 2, rfl, by decide, by decide, fun _ => ⟨_, rfl⟩, fun y hy _ => ?_⟩, ⟨_, 0, rfl, by decide, by decide, fun h => absurd h (by decide), fun y hy => by cases hy⟩, ⟨_, 2, rfl, by decide, by decide, fun _ => ⟨_, rfl⟩, fun y hy _ => ?_⟩⟩
  · obtain rfl := Option.some.inj hy
    refine ⟨h1, fun i hi s hs => ?_⟩
    have hi2 : i < 2 := hi
    rcases (by omega : i = 0 ∨ i = 1) with rfl | rfl
    · obtain rfl := Option.some.inj hs
      exact ha.av 0 rfl
    · obtain rfl := Option.some.inj hs
      exact ha.av 1 rfl
  · obtain rfl := Option.some.inj hy
    refine ⟨h2, fun i hi s hs => ?_⟩
    have hi2 : i < 2 := hi
    have hn : IntsR w n0 (.slice none 0 0) [] := ⟨none, 0, rfl, by decide, by decide, fun h => absurd h (by decide), fun y hy => by cases hy⟩
    rcases (by omega : i = 0 ∨ i = 1) with rfl | rfl
    · obtain rfl := Option.some.inj hs
      exact ⟨.slice none 0 0, hb.av 0 rfl, hb.av 1 rfl, hb.av 2 rfl, hb.av 3 rfl, hn⟩
    · obtain rfl := Option.some.inj hs
      exact ⟨.slice none 0 0, hb.av 4 rfl, hb.av 5 rfl, hb.av 6 rfl, hb.av 7 rfl, hn⟩
set_option maxRecDepth 100000 in
set_option maxHeartbeats 3200000 in
theorem fixed_any (w : World) (ad : Nat → Addr) (hE : ErrsP w ad) (hS : ErrS w ad) : Calls Tryz.prog 6 #[] w fun e w' => e = .returned (.bool true) ∧ Ext w w' := by
  obtain ⟨W1, hW1⟩ : ∃ W1, W1 = w.alloc (.cells #[.string ⟨#[97]⟩, .string ⟨#[98]⟩] 9) := ⟨_, rfl⟩
  obtain ⟨W2, hW2⟩ : ∃ W2, W2 = W1.alloc (.cells fixedS 29) := ⟨_, rfl⟩
  obtain ⟨W3, hW3⟩ : ∃ W3, W3 = W2.alloc (.cells #[.slice (some ⟨w.heap.size, 0, none⟩) 2 2, .slice none 0 0, .slice (some ⟨w.heap.size + 1, 0, none⟩) 2 2] 26) := ⟨_, rfl⟩
  have x1 : Ext w W1 := by rw [hW1]; exact (Ext.refl _).alloc _
  have x2 : Ext W1 W2 := by rw [hW2]; exact (Ext.refl _).alloc _
  have x3 : Ext W2 W3 := by rw [hW3]; exact (Ext.refl _).alloc _
  have s1 : W1.heap.size = w.heap.size + 1 := by rw [hW1, heap_size_alloc]
  have s2 : W2.heap.size = w.heap.size + 2 := by rw [hW2, heap_size_alloc, s1]
  have s3 : W3.heap.size = w.heap.size + 3 := by rw [hW3, heap_size_alloc, s2]
  have bA : Blk W1 w.heap.size #[.string ⟨#[97]⟩, .string ⟨#[98]⟩] 9 := by rw [hW1]; exact Blk.new _ _ _
  have bB : Blk W2 (w.heap.size + 1) fixedS 29 := by rw [hW2, ← s1]; exact Blk.new _ _ _
  have hP := fixed_prog (n0 := W3.heap.size) (bA.ext (x2.trans x3)) (bB.ext x3) (by omega) (by omega)
  have xx : Ext w W3 := x1.trans (x2.trans x3)
  have HD := hid (fixleast_ok _ _ _ 2 0 2 fixedP W3 ad ⟨hE.ext xx, hP, fun s hs => by rcases (by simpa [fixedP] using hs : s = ⟨#[97]⟩ ∨ s = ⟨#[98]⟩) with rfl | rfl <;> decide, fun s hs => by simp [PP.names, fixedP] at hs, fixed_well⟩ (hS.ext xx) 2 [[1], [1]] fixed_least)
  rw [fixed_nodes] at HD
  have HX := hid xx
  have HW3 : Hid (W3 = ((w.alloc (.cells #[.string ⟨#[97]⟩, .string ⟨#[98]⟩] 9)).alloc (.cells #[.string ⟨#[97, 100, 100, 114]⟩, .int .i64 0, .int .i64 1, .slice none 0 0, .string ⟨#[99, 111, 112, 121]⟩, .int .i64 1, .int .i64 0, .slice none 0 0] 29)).alloc (.cells #[.slice (some ⟨w.heap.size, 0, none⟩) 2 2, .slice none 0 0, .slice (some ⟨w.heap.size + 1, 0, none⟩) 2 2] 26)) := hid (by rw [hW3, hW2, hW1]; rfl)
  unfold pval at HD
  clear hE hS hW1 hW2 hW3 x1 x2 x3 s1 s2 s3 bA bB hP xx
  go_enter Tryz.func6, Tryz.ntmps6
  go_wp2_with fail
  rw [← HW3.out]
  refine HD.out.mono ?_
  intro e w5 hx
  obtain ⟨a, c, rfl, hs, hx5⟩ := hx
  obtain ⟨y, l, bl, cl, hy, hl, hc, hI⟩ := hs.at (k := 1) (by decide)
  subst hy
  obtain rfl := Option.some.inj hl
  have HX5 := hid (HX.out.trans hx5)
  have hI1 := hI.len
  obtain ⟨W6, hW6⟩ : ∃ W6, W6 = w5.alloc (.cells #[.int .i64 1] 3) := ⟨_, rfl⟩
  have hx6 : Ext w5 W6 := by rw [hW6]; exact (Ext.refl _).alloc _
  have HW6 := hid hW6
  have HC := hid (sameints_any bl (some ⟨w5.heap.size, 0, none⟩) 1 1 cl 1 [1] [1] W6 (IntsR.ints (hI.old (hx6.old _)) (setok_few (by decide))) (IntsR.ints (n0 := W6.heap.size) (IntsR.blk (l := [1]) (by rw [hW6]; exact Blk.new w5 #[.int .i64 1] 3) rfl (by simp)) (setok_few (by decide))) (by decide) (by decide))
  rw [decide_eq_true rfl] at HC
  have HX6 := hid (HX5.out.trans hx6)
  have hc1 : w5.cell? ⟨y.block, y.off + 1, none⟩ = some (.slice bl 1 cl) := by rw [← add_posU y 1 (by omega)]; exact hc
  clear HD hs hx5 hI hI1 hl hx6 hW6 hc
  go_wp2_with fail
  rw [← HW6.out]
  refine HC.out.mono ?_
  intro e w7 hx
  obtain ⟨rfl, hx7⟩ := hx
  have HX7 := hid (HX6.out.trans hx7)
  clear HC hx7 hc1
  go_wp2
  go_ret
  exact ⟨rfl, HX7.out⟩
end Go.Proofs.YtnpnhbfbklibhaaGreatDoor


/- Is a program too large for a statement, whatever the bound on its statements? -/
namespace Go.Proofs.YtnpnhbfbklibhaaGreatDoor
set_option linter.unusedSimpArgs false
set_option linter.unusedVariables false
open Go Go.RowKit

set_option maxRecDepth 100000 in
set_option maxHeartbeats 12800000 in
theorem large_q (a1 a2 a3 : Option Addr) (c1 c2 c3 : Nat) (q : Nat) (hq80 : q ≤ 80) (P : PP) (w : World) (n0 : Nat) (h : ProgR w n0 (.slice a1 P.vars.length c1) (.slice a2 P.funs.length c2) (.slice a3 P.stmts.length c3) P) :
    Calls Tryz.prog 7 #[pval a1 a2 a3 c1 c2 c3 P, .int .i64 (q : Int)] w fun e w' => ∃ r : Int, e = .returned (.int .i64 r) ∧ (0 ≤ r ∧ r ≤ 1) ∧ (r = 0 → P.Small ∧ (P.stmts.length ≤ q ∨ P.stmts.length = 81)) ∧ Ext w w' := by
  have hl1 := h.vars.len
  have hl2 := h.funs.len
  have hl3 := h.stmts.len
  obtain ⟨W, hW⟩ : ∃ W, W = w.alloc (.cells (pcells a1 a2 a3 c1 c2 c3 P) 26) := ⟨_, rfl⟩
  have HX : Hid (Ext w W) := hid (by rw [hW]; exact (Ext.refl _).alloc _)
  have hB : Blk W w.heap.size (pcells a1 a2 a3 c1 c2 c3 P) 26 := by rw [hW]; exact Blk.new _ _ _
  have HP := hid (h.ext HX.out)
  have d0 := hB.av 0 rfl
  have d1 := hB.av 1 rfl
  have d2 := hB.av 2 rfl
  simp only [pcells, List.getElem_toArray, List.getElem_cons_zero, List.getElem_cons_succ] at d0 d1 d2
  unfold pcells at hW
  have HWe := hid hW
  unfold pval
  clear hW hB h
  go_enter Tryz.func7, Tryz.ntmps7
  by_cases b1 : 15 < P.vars.length
  · by_cases b2 : (P.vars.length : Int) = 41
    · by_cases b3 : 8 < P.funs.length
      · go_wp2
        go_ret
        exact ⟨1, rfl, by omega, (fun h => absurd h (by decide)), (Ext.refl w).alloc _⟩
      · by_cases b4 : q < P.stmts.length
        · by_cases b5 : (P.stmts.length : Int) = 81
          · have Hq8 : Hid (P.stmts.length ≤ q ∨ P.stmts.length = 81) := hid (.inr (by omega))
            have Hb := hid (show P.vars.length ≤ 41 ∧ P.funs.length ≤ 8 ∧ P.stmts.length ≤ 81 from ⟨by omega, by omega, by omega⟩)
            go_wp2
            rw [← HWe.out]
            clear b1 b3 b4
            clear b5
            clear b2
            go_loop [5] (fun t5 => ∃ k : Nat, t5 = .int .i64 (k : Int) ∧ k ≤ P.vars.length ∧ ∀ j s, j < k → P.vars[j]? = some s → s.size ≤ 20) (fun t5 => P.vars.length - (intOf t5).toNat)
            case atStart => exact ⟨0, rfl, Nat.zero_le _, fun j s h => by omega⟩
            case round =>
              obtain ⟨k, rfl, hk, hp⟩ := hrel
              have Hp := hid hp
              clear hp
              by_cases hlt : k < P.vars.length
              · obtain ⟨y, q, rfl, hq, hc⟩ := HP.out.vars.at hlt
                have Hq := hid hq
                clear hq
                by_cases hz : 20 < q.size
                · go_wp2
                  go_ret
                  exact ⟨1, rfl, by omega, (fun h => absurd h (by decide)), HX.out⟩
                · have hz2 : q.size ≤ 20 := by omega
                  go_wp2
                  refine ⟨⟨k + 1, by go_num, by omega, fun j s hj hs => ?_⟩, by simp [intOf]; omega⟩
                  by_cases hjk : j = k
                  · subst hjk
                    obtain rfl := Option.some.inj (Hq.out.symm.trans hs)
                    exact hz2
                  · exact Hp.out j s (by omega) hs
              · obtain rfl : k = P.vars.length := by omega
                have Hv := hid (show ∀ s ∈ P.vars, s.size ≤ 20 from fun s hs => by
                  obtain ⟨j, hj, e⟩ := List.mem_iff_getElem.1 hs
                  exact Hp.out j s hj (by rw [List.getElem?_eq_getElem hj, e]))
                clear Hp
                go_wp2
                go_loop [6] (fun t6 => ∃ k : Nat, t6 = .int .i64 (k : Int) ∧ k ≤ P.funs.length ∧ ∀ j f, j < k → P.funs[j]? = some f → f.name.size ≤ 20 ∧ f.params.length ≤ 8) (fun t6 => P.funs.length - (intOf t6).toNat)
                case atStart => exact ⟨0, rfl, Nat.zero_le _, fun j s h => by omega⟩
                case round =>
                  obtain ⟨k, rfl, hk, hp⟩ := hrel
                  have Hp := hid hp
                  clear hp
                  by_cases hlt : k < P.funs.length
                  · obtain ⟨y, f, av, cv, rfl, hq, e0, e1, e2, _⟩ := HP.out.funs.at hlt
                    have Hq := hid hq
                    clear hq
                    by_cases hz : 20 < f.name.size
                    · go_wp2
                      go_ret
                      exact ⟨1, rfl, by omega, (fun h => absurd h (by decide)), HX.out⟩
                    · by_cases hz3 : 8 < f.params.length
                      · go_wp2
                        go_ret
                        exact ⟨1, rfl, by omega, (fun h => absurd h (by decide)), HX.out⟩
                      · have hz2 : f.name.size ≤ 20 ∧ f.params.length ≤ 8 := ⟨by omega, by omega⟩
                        have Hz2 := hid hz2
                        clear hz2
                        go_wp2
                        refine ⟨⟨k + 1, by go_num, by omega, fun j s hj hs => ?_⟩, by simp [intOf]; omega⟩
                        by_cases hjk : j = k
                        · subst hjk
                          obtain rfl := Option.some.inj (Hq.out.symm.trans hs)
                          exact Hz2.out
                        · exact Hp.out j s (by omega) hs
                  · obtain rfl : k = P.funs.length := by omega
                    have Hf := hid (show ∀ f ∈ P.funs, f.name.size ≤ 20 ∧ f.params.length ≤ 8 from fun s hs => by
                      obtain ⟨j, hj, e⟩ := List.mem_iff_getElem.1 hs
                      exact Hp.out j s hj (by rw [List.getElem?_eq_getElem hj, e]))
                    clear Hp
                    go_wp2
                    go_loop [7] (fun t7 => ∃ k : Nat, t7 = .int .i64 (k : Int) ∧ k ≤ P.stmts.length ∧ ∀ j s, j < k → P.stmts[j]? = some s → s.kind.size ≤ 20 ∧ s.args.length ≤ 8) (fun t7 => P.stmts.length - (intOf t7).toNat)
                    case atStart => exact ⟨0, rfl, Nat.zero_le _, fun j s h => by omega⟩
                    case round =>
                      obtain ⟨k, rfl, hk, hp⟩ := hrel
                      have Hp := hid hp
                      clear hp
                      by_cases hlt : k < P.stmts.length
                      · obtain ⟨y, s, av, cv, rfl, hq, e0, e1, e2, e3, _⟩ := HP.out.stmts.at hlt
                        have Hq := hid hq
                        clear hq
                        by_cases hz : 20 < s.kind.size
                        · go_wp2
                          go_ret
                          exact ⟨1, rfl, by omega, (fun h => absurd h (by decide)), HX.out⟩
                        · by_cases hz3 : 8 < s.args.length
                          · go_wp2
                            go_ret
                            exact ⟨1, rfl, by omega, (fun h => absurd h (by decide)), HX.out⟩
                          · have hz2 : s.kind.size ≤ 20 ∧ s.args.length ≤ 8 := ⟨by omega, by omega⟩
                            have Hz2 := hid hz2
                            clear hz2
                            go_wp2
                            refine ⟨⟨k + 1, by go_num, by omega, fun j s hj hs => ?_⟩, by simp [intOf]; omega⟩
                            by_cases hjk : j = k
                            · subst hjk
                              obtain rfl := Option.some.inj (Hq.out.symm.trans hs)
                              exact Hz2.out
                            · exact Hp.out j s (by omega) hs
                      · obtain rfl : k = P.stmts.length := by omega
                        have Hs := hid (show P.Small from ⟨Hb.out.1, Hb.out.2.1, Hb.out.2.2, Hv.out, Hf.out, fun s hs => by
                          obtain ⟨j, hj, e⟩ := List.mem_iff_getElem.1 hs
                          exact Hp.out j s hj (by rw [List.getElem?_eq_getElem hj, e])⟩)
                        go_wp2
                        go_ret
                        exact ⟨0, rfl, by omega, fun _ => ⟨Hs.out, Hq8.out⟩, HX.out⟩
          · have b5n : ((P.stmts.length : Int) != 81) = true := bne_iff_ne.2 b5
            go_wp2
            go_ret
            exact ⟨1, rfl, by omega, (fun h => absurd h (by decide)), (Ext.refl w).alloc _⟩
        · have Hq8 : Hid (P.stmts.length ≤ q ∨ P.stmts.length = 81) := hid (.inl (by omega))
          have Hb := hid (show P.vars.length ≤ 41 ∧ P.funs.length ≤ 8 ∧ P.stmts.length ≤ 81 from ⟨by omega, by omega, by omega⟩)
          go_wp2
          rw [← HWe.out]
          clear b1 b3 b4
          clear b2
          go_loop [5] (fun t5 => ∃ k : Nat, t5 = .int .i64 (k : Int) ∧ k ≤ P.vars.length ∧ ∀ j s, j < k → P.vars[j]? = some s → s.size ≤ 20) (fun t5 => P.vars.length - (intOf t5).toNat)
          case atStart => exact ⟨0, rfl, Nat.zero_le _, fun j s h => by omega⟩
          case round =>
            obtain ⟨k, rfl, hk, hp⟩ := hrel
            have Hp := hid hp
            clear hp
            by_cases hlt : k < P.vars.length
            · obtain ⟨y, q, rfl, hq, hc⟩ := HP.out.vars.at hlt
              have Hq := hid hq
              clear hq
              by_cases hz : 20 < q.size
              · go_wp2
                go_ret
                exact ⟨1, rfl, by omega, (fun h => absurd h (by decide)), HX.out⟩
              · have hz2 : q.size ≤ 20 := by omega
                go_wp2
                refine ⟨⟨k + 1, by go_num, by omega, fun j s hj hs => ?_⟩, by simp [intOf]; omega⟩
                by_cases hjk : j = k
                · subst hjk
                  obtain rfl := Option.some.inj (Hq.out.symm.trans hs)
                  exact hz2
                · exact Hp.out j s (by omega) hs
            · obtain rfl : k = P.vars.length := by omega
              have Hv := hid (show ∀ s ∈ P.vars, s.size ≤ 20 from fun s hs => by
                obtain ⟨j, hj, e⟩ := List.mem_iff_getElem.1 hs
                exact Hp.out j s hj (by rw [List.getElem?_eq_getElem hj, e]))
              clear Hp
              go_wp2
              go_loop [6] (fun t6 => ∃ k : Nat, t6 = .int .i64 (k : Int) ∧ k ≤ P.funs.length ∧ ∀ j f, j < k → P.funs[j]? = some f → f.name.size ≤ 20 ∧ f.params.length ≤ 8) (fun t6 => P.funs.length - (intOf t6).toNat)
              case atStart => exact ⟨0, rfl, Nat.zero_le _, fun j s h => by omega⟩
              case round =>
                obtain ⟨k, rfl, hk, hp⟩ := hrel
                have Hp := hid hp
                clear hp
                by_cases hlt : k < P.funs.length
                · obtain ⟨y, f, av, cv, rfl, hq, e0, e1, e2, _⟩ := HP.out.funs.at hlt
                  have Hq := hid hq
                  clear hq
                  by_cases hz : 20 < f.name.size
                  · go_wp2
                    go_ret
                    exact ⟨1, rfl, by omega, (fun h => absurd h (by decide)), HX.out⟩
                  · by_cases hz3 : 8 < f.params.length
                    · go_wp2
                      go_ret
                      exact ⟨1, rfl, by omega, (fun h => absurd h (by decide)), HX.out⟩
                    · have hz2 : f.name.size ≤ 20 ∧ f.params.length ≤ 8 := ⟨by omega, by omega⟩
                      have Hz2 := hid hz2
                      clear hz2
                      go_wp2
                      refine ⟨⟨k + 1, by go_num, by omega, fun j s hj hs => ?_⟩, by simp [intOf]; omega⟩
                      by_cases hjk : j = k
                      · subst hjk
                        obtain rfl := Option.some.inj (Hq.out.symm.trans hs)
                        exact Hz2.out
                      · exact Hp.out j s (by omega) hs
                · obtain rfl : k = P.funs.length := by omega
                  have Hf := hid (show ∀ f ∈ P.funs, f.name.size ≤ 20 ∧ f.params.length ≤ 8 from fun s hs => by
                    obtain ⟨j, hj, e⟩ := List.mem_iff_getElem.1 hs
                    exact Hp.out j s hj (by rw [List.getElem?_eq_getElem hj, e]))
                  clear Hp
                  go_wp2
                  go_loop [7] (fun t7 => ∃ k : Nat, t7 = .int .i64 (k : Int) ∧ k ≤ P.stmts.length ∧ ∀ j s, j < k → P.stmts[j]? = some s → s.kind.size ≤ 20 ∧ s.args.length ≤ 8) (fun t7 => P.stmts.length - (intOf t7).toNat)
                  case atStart => exact ⟨0, rfl, Nat.zero_le _, fun j s h => by omega⟩
                  case round =>
                    obtain ⟨k, rfl, hk, hp⟩ := hrel
                    have Hp := hid hp
                    clear hp
                    by_cases hlt : k < P.stmts.length
                    · obtain ⟨y, s, av, cv, rfl, hq, e0, e1, e2, e3, _⟩ := HP.out.stmts.at hlt
                      have Hq := hid hq
                      clear hq
                      by_cases hz : 20 < s.kind.size
                      · go_wp2
                        go_ret
                        exact ⟨1, rfl, by omega, (fun h => absurd h (by decide)), HX.out⟩
                      · by_cases hz3 : 8 < s.args.length
                        · go_wp2
                          go_ret
                          exact ⟨1, rfl, by omega, (fun h => absurd h (by decide)), HX.out⟩
                        · have hz2 : s.kind.size ≤ 20 ∧ s.args.length ≤ 8 := ⟨by omega, by omega⟩
                          have Hz2 := hid hz2
                          clear hz2
                          go_wp2
                          refine ⟨⟨k + 1, by go_num, by omega, fun j s hj hs => ?_⟩, by simp [intOf]; omega⟩
                          by_cases hjk : j = k
                          · subst hjk
                            obtain rfl := Option.some.inj (Hq.out.symm.trans hs)
                            exact Hz2.out
                          · exact Hp.out j s (by omega) hs
                    · obtain rfl : k = P.stmts.length := by omega
                      have Hs := hid (show P.Small from ⟨Hb.out.1, Hb.out.2.1, Hb.out.2.2, Hv.out, Hf.out, fun s hs => by
                        obtain ⟨j, hj, e⟩ := List.mem_iff_getElem.1 hs
                        exact Hp.out j s hj (by rw [List.getElem?_eq_getElem hj, e])⟩)
                      go_wp2
                      go_ret
                      exact ⟨0, rfl, by omega, fun _ => ⟨Hs.out, Hq8.out⟩, HX.out⟩
    · go_wp2
      go_ret
      exact ⟨1, rfl, by omega, (fun h => absurd h (by decide)), (Ext.refl w).alloc _⟩
  · by_cases b3 : 8 < P.funs.length
    · go_wp2
      go_ret
      exact ⟨1, rfl, by omega, (fun h => absurd h (by decide)), (Ext.refl w).alloc _⟩
    · by_cases b4 : q < P.stmts.length
      · by_cases b5 : (P.stmts.length : Int) = 81
        · have Hq8 : Hid (P.stmts.length ≤ q ∨ P.stmts.length = 81) := hid (.inr (by omega))
          have Hb := hid (show P.vars.length ≤ 41 ∧ P.funs.length ≤ 8 ∧ P.stmts.length ≤ 81 from ⟨by omega, by omega, by omega⟩)
          go_wp2
          rw [← HWe.out]
          clear b1 b3 b4
          clear b5
          skip
          go_loop [5] (fun t5 => ∃ k : Nat, t5 = .int .i64 (k : Int) ∧ k ≤ P.vars.length ∧ ∀ j s, j < k → P.vars[j]? = some s → s.size ≤ 20) (fun t5 => P.vars.length - (intOf t5).toNat)
          case atStart => exact ⟨0, rfl, Nat.zero_le _, fun j s h => by omega⟩
          case round =>
            obtain ⟨k, rfl, hk, hp⟩ := hrel
            have Hp := hid hp
            clear hp
            by_cases hlt : k < P.vars.length
            · obtain ⟨y, q, rfl, hq, hc⟩ := HP.out.vars.at hlt
              have Hq := hid hq
              clear hq
              by_cases hz : 20 < q.size
              · go_wp2
                go_ret
                exact ⟨1, rfl, by omega, (fun h => absurd h (by decide)), HX.out⟩
              · have hz2 : q.size ≤ 20 := by omega
                go_wp2
                refine ⟨⟨k + 1, by go_num, by omega, fun j s hj hs => ?_⟩, by simp [intOf]; omega⟩
                by_cases hjk : j = k
                · subst hjk
                  obtain rfl := Option.some.inj (Hq.out.symm.trans hs)
                  exact hz2
                · exact Hp.out j s (by omega) hs
            · obtain rfl : k = P.vars.length := by omega
              have Hv := hid (show ∀ s ∈ P.vars, s.size ≤ 20 from fun s hs => by
                obtain ⟨j, hj, e⟩ := List.mem_iff_getElem.1 hs
                exact Hp.out j s hj (by rw [List.getElem?_eq_getElem hj, e]))
              clear Hp
              go_wp2
              go_loop [6] (fun t6 => ∃ k : Nat, t6 = .int .i64 (k : Int) ∧ k ≤ P.funs.length ∧ ∀ j f, j < k → P.funs[j]? = some f → f.name.size ≤ 20 ∧ f.params.length ≤ 8) (fun t6 => P.funs.length - (intOf t6).toNat)
              case atStart => exact ⟨0, rfl, Nat.zero_le _, fun j s h => by omega⟩
              case round =>
                obtain ⟨k, rfl, hk, hp⟩ := hrel
                have Hp := hid hp
                clear hp
                by_cases hlt : k < P.funs.length
                · obtain ⟨y, f, av, cv, rfl, hq, e0, e1, e2, _⟩ := HP.out.funs.at hlt
                  have Hq := hid hq
                  clear hq
                  by_cases hz : 20 < f.name.size
                  · go_wp2
                    go_ret
                    exact ⟨1, rfl, by omega, (fun h => absurd h (by decide)), HX.out⟩
                  · by_cases hz3 : 8 < f.params.length
                    · go_wp2
                      go_ret
                      exact ⟨1, rfl, by omega, (fun h => absurd h (by decide)), HX.out⟩
                    · have hz2 : f.name.size ≤ 20 ∧ f.params.length ≤ 8 := ⟨by omega, by omega⟩
                      have Hz2 := hid hz2
                      clear hz2
                      go_wp2
                      refine ⟨⟨k + 1, by go_num, by omega, fun j s hj hs => ?_⟩, by simp [intOf]; omega⟩
                      by_cases hjk : j = k
                      · subst hjk
                        obtain rfl := Option.some.inj (Hq.out.symm.trans hs)
                        exact Hz2.out
                      · exact Hp.out j s (by omega) hs
                · obtain rfl : k = P.funs.length := by omega
                  have Hf := hid (show ∀ f ∈ P.funs, f.name.size ≤ 20 ∧ f.params.length ≤ 8 from fun s hs => by
                    obtain ⟨j, hj, e⟩ := List.mem_iff_getElem.1 hs
                    exact Hp.out j s hj (by rw [List.getElem?_eq_getElem hj, e]))
                  clear Hp
                  go_wp2
                  go_loop [7] (fun t7 => ∃ k : Nat, t7 = .int .i64 (k : Int) ∧ k ≤ P.stmts.length ∧ ∀ j s, j < k → P.stmts[j]? = some s → s.kind.size ≤ 20 ∧ s.args.length ≤ 8) (fun t7 => P.stmts.length - (intOf t7).toNat)
                  case atStart => exact ⟨0, rfl, Nat.zero_le _, fun j s h => by omega⟩
                  case round =>
                    obtain ⟨k, rfl, hk, hp⟩ := hrel
                    have Hp := hid hp
                    clear hp
                    by_cases hlt : k < P.stmts.length
                    · obtain ⟨y, s, av, cv, rfl, hq, e0, e1, e2, e3, _⟩ := HP.out.stmts.at hlt
                      have Hq := hid hq
                      clear hq
                      by_cases hz : 20 < s.kind.size
                      · go_wp2
                        go_ret
                        exact ⟨1, rfl, by omega, (fun h => absurd h (by decide)), HX.out⟩
                      · by_cases hz3 : 8 < s.args.length
                        · go_wp2
                          go_ret
                          exact ⟨1, rfl, by omega, (fun h => absurd h (by decide)), HX.out⟩
                        · have hz2 : s.kind.size ≤ 20 ∧ s.args.length ≤ 8 := ⟨by omega, by omega⟩
                          have Hz2 := hid hz2
                          clear hz2
                          go_wp2
                          refine ⟨⟨k + 1, by go_num, by omega, fun j s hj hs => ?_⟩, by simp [intOf]; omega⟩
                          by_cases hjk : j = k
                          · subst hjk
                            obtain rfl := Option.some.inj (Hq.out.symm.trans hs)
                            exact Hz2.out
                          · exact Hp.out j s (by omega) hs
                    · obtain rfl : k = P.stmts.length := by omega
                      have Hs := hid (show P.Small from ⟨Hb.out.1, Hb.out.2.1, Hb.out.2.2, Hv.out, Hf.out, fun s hs => by
                        obtain ⟨j, hj, e⟩ := List.mem_iff_getElem.1 hs
                        exact Hp.out j s hj (by rw [List.getElem?_eq_getElem hj, e])⟩)
                      go_wp2
                      go_ret
                      exact ⟨0, rfl, by omega, fun _ => ⟨Hs.out, Hq8.out⟩, HX.out⟩
        · have b5n : ((P.stmts.length : Int) != 81) = true := bne_iff_ne.2 b5
          go_wp2
          go_ret
          exact ⟨1, rfl, by omega, (fun h => absurd h (by decide)), (Ext.refl w).alloc _⟩
      · have Hq8 : Hid (P.stmts.length ≤ q ∨ P.stmts.length = 81) := hid (.inl (by omega))
        have Hb := hid (show P.vars.length ≤ 41 ∧ P.funs.length ≤ 8 ∧ P.stmts.length ≤ 81 from ⟨by omega, by omega, by omega⟩)
        go_wp2
        rw [← HWe.out]
        clear b1 b3 b4
        skip
        go_loop [5] (fun t5 => ∃ k : Nat, t5 = .int .i64 (k : Int) ∧ k ≤ P.vars.length ∧ ∀ j s, j < k → P.vars[j]? = some s → s.size ≤ 20) (fun t5 => P.vars.length - (intOf t5).toNat)
        case atStart => exact ⟨0, rfl, Nat.zero_le _, fun j s h => by omega⟩
        case round =>
          obtain ⟨k, rfl, hk, hp⟩ := hrel
          have Hp := hid hp
          clear hp
          by_cases hlt : k < P.vars.length
          · obtain ⟨y, q, rfl, hq, hc⟩ := HP.out.vars.at hlt
            have Hq := hid hq
            clear hq
            by_cases hz : 20 < q.size
            · go_wp2
              go_ret
              exact ⟨1, rfl, by omega, (fun h => absurd h (by decide)), HX.out⟩
            · have hz2 : q.size ≤ 20 := by omega
              go_wp2
              refine ⟨⟨k + 1, by go_num, by omega, fun j s hj hs => ?_⟩, by simp [intOf]; omega⟩
              by_cases hjk : j = k
              · subst hjk
                obtain rfl := Option.some.inj (Hq.out.symm.trans hs)
                exact hz2
              · exact Hp.out j s (by omega) hs
          · obtain rfl : k = P.vars.length := by omega
            have Hv := hid (show ∀ s ∈ P.vars, s.size ≤ 20 from fun s hs => by
              obtain ⟨j, hj, e⟩ := List.mem_iff_getElem.1 hs
              exact Hp.out j s hj (by rw [List.getElem?_eq_getElem hj, e]))
            clear Hp
            go_wp2
            go_loop [6] (fun t6 => ∃ k : Nat, t6 = .int .i64 (k : Int) ∧ k ≤ P.funs.length ∧ ∀ j f, j < k → P.funs[j]? = some f → f.name.size ≤ 20 ∧ f.params.length ≤ 8) (fun t6 => P.funs.length - (intOf t6).toNat)
            case atStart => exact ⟨0, rfl, Nat.zero_le _, fun j s h => by omega⟩
            case round =>
              obtain ⟨k, rfl, hk, hp⟩ := hrel
              have Hp := hid hp
              clear hp
              by_cases hlt : k < P.funs.length
              · obtain ⟨y, f, av, cv, rfl, hq, e0, e1, e2, _⟩ := HP.out.funs.at hlt
                have Hq := hid hq
                clear hq
                by_cases hz : 20 < f.name.size
                · go_wp2
                  go_ret
                  exact ⟨1, rfl, by omega, (fun h => absurd h (by decide)), HX.out⟩
                · by_cases hz3 : 8 < f.params.length
                  · go_wp2
                    go_ret
                    exact ⟨1, rfl, by omega, (fun h => absurd h (by decide)), HX.out⟩
                  · have hz2 : f.name.size ≤ 20 ∧ f.params.length ≤ 8 := ⟨by omega, by omega⟩
                    have Hz2 := hid hz2
                    clear hz2
                    go_wp2
                    refine ⟨⟨k + 1, by go_num, by omega, fun j s hj hs => ?_⟩, by simp [intOf]; omega⟩
                    by_cases hjk : j = k
                    · subst hjk
                      obtain rfl := Option.some.inj (Hq.out.symm.trans hs)
                      exact Hz2.out
                    · exact Hp.out j s (by omega) hs
              · obtain rfl : k = P.funs.length := by omega
                have Hf := hid (show ∀ f ∈ P.funs, f.name.size ≤ 20 ∧ f.params.length ≤ 8 from fun s hs => by
                  obtain ⟨j, hj, e⟩ := List.mem_iff_getElem.1 hs
                  exact Hp.out j s hj (by rw [List.getElem?_eq_getElem hj, e]))
                clear Hp
                go_wp2
                go_loop [7] (fun t7 => ∃ k : Nat, t7 = .int .i64 (k : Int) ∧ k ≤ P.stmts.length ∧ ∀ j s, j < k → P.stmts[j]? = some s → s.kind.size ≤ 20 ∧ s.args.length ≤ 8) (fun t7 => P.stmts.length - (intOf t7).toNat)
                case atStart => exact ⟨0, rfl, Nat.zero_le _, fun j s h => by omega⟩
                case round =>
                  obtain ⟨k, rfl, hk, hp⟩ := hrel
                  have Hp := hid hp
                  clear hp
                  by_cases hlt : k < P.stmts.length
                  · obtain ⟨y, s, av, cv, rfl, hq, e0, e1, e2, e3, _⟩ := HP.out.stmts.at hlt
                    have Hq := hid hq
                    clear hq
                    by_cases hz : 20 < s.kind.size
                    · go_wp2
                      go_ret
                      exact ⟨1, rfl, by omega, (fun h => absurd h (by decide)), HX.out⟩
                    · by_cases hz3 : 8 < s.args.length
                      · go_wp2
                        go_ret
                        exact ⟨1, rfl, by omega, (fun h => absurd h (by decide)), HX.out⟩
                      · have hz2 : s.kind.size ≤ 20 ∧ s.args.length ≤ 8 := ⟨by omega, by omega⟩
                        have Hz2 := hid hz2
                        clear hz2
                        go_wp2
                        refine ⟨⟨k + 1, by go_num, by omega, fun j s hj hs => ?_⟩, by simp [intOf]; omega⟩
                        by_cases hjk : j = k
                        · subst hjk
                          obtain rfl := Option.some.inj (Hq.out.symm.trans hs)
                          exact Hz2.out
                        · exact Hp.out j s (by omega) hs
                  · obtain rfl : k = P.stmts.length := by omega
                    have Hs := hid (show P.Small from ⟨Hb.out.1, Hb.out.2.1, Hb.out.2.2, Hv.out, Hf.out, fun s hs => by
                      obtain ⟨j, hj, e⟩ := List.mem_iff_getElem.1 hs
                      exact Hp.out j s hj (by rw [List.getElem?_eq_getElem hj, e])⟩)
                    go_wp2
                    go_ret
                    exact ⟨0, rfl, by omega, fun _ => ⟨Hs.out, Hq8.out⟩, HX.out⟩
end Go.Proofs.YtnpnhbfbklibhaaGreatDoor


/- ConsOrder: the law walked. -/
namespace Go.Proofs.YtnpnhbfbklibhaaGreatDoor
set_option linter.unusedSimpArgs false
set_option linter.unusedVariables false
open Go Go.RowKit

theorem StmtsR.own2 {w : World} {base : Nat} {v : Value} {ss : List S2} {l : List PS} (h : w.ownsRow base 29 4 v ss.length (ss.flatMap S2.cells)) (hl : ss.map S2.s = l) (hn : ∀ x ∈ ss, IntsR w w.heap.size x.v x.s.args) : StmtsR w w.heap.size v l := by
  have hll : l.length = ss.length := by rw [← hl, List.length_map]
  unfold StmtsR
  rw [hll]
  refine ElR.own h (Nat.le_refl _) fun g hc i hi f hf => ?_
  rw [← hl, List.getElem?_map] at hf
  obtain ⟨x, hx, rfl⟩ := Option.map_eq_some_iff.1 hf
  have c : ∀ j u, x.cells[j]? = some u → j < 4 → w.cell? (((⟨g, 0, none⟩ : Addr).add (i * 4)).add j) = some u := fun j u hu hj => by
    rw [add_add]
    exact hc _ _ ((fm_get S2.cells 4 S2.cells_len ss i j x hx hj).trans hu)
  exact ⟨x.v, by simpa [Addr.add] using c 0 _ rfl (by omega), c 1 _ rfl (by omega), c 2 _ rfl (by omega), c 3 _ rfl (by omega), hn x (List.mem_of_getElem? hx)⟩
theorem goodS_turned {P : PP} (h : P.noNew) (has : List (List Int)) : P.turned.GoodS has ↔ P.GoodS has := by
  unfold PP.GoodS
  rw [well_turned, nodes_turned h]
  simp only [setE_turned h]
theorem edgesL_turned {P : PP} (h : P.noNew) {has : List (List Int)} (hg : P.GoodS has) : P.turned.edgesL has = P.edgesL has :=
  (edgesAre_turned h (edgesL_are ((goodS_turned h has).2 hg))).uniq (edgesL_are hg)
theorem closed_dec (P : PP) (has : List (List Int)) : ∃ d : Bool, d = true ↔ ClosedP P has := by
  rcases Classical.em (ClosedP P has) with h | h
  · exact ⟨true, fun _ => h, fun _ => rfl⟩
  · exact ⟨false, fun e => (by cases e), fun k => absurd k h⟩

end Go.Proofs.YtnpnhbfbklibhaaGreatDoor


/- FixClosed: the law walked. -/
namespace Go.Proofs.YtnpnhbfbklibhaaGreatDoor
set_option linter.unusedSimpArgs false
set_option linter.unusedVariables false
open Go Go.RowKit

set_option maxRecDepth 100000 in
set_option maxHeartbeats 6400000 in
theorem fixclosed_any (a1 a2 a3 : Option Addr) (c1 c2 c3 : Nat) (P : PP) (hv : Value) (has : List (List Int)) (w : World) (ad : Nat → Addr) (hE : ErrsP w ad) (hS : ErrS w ad) (hP : ProgR w w.heap.size (.slice a1 P.vars.length c1) (.slice a2 P.funs.length c2) (.slice a3 P.stmts.length c3) P) (hh : SetsR w w.heap.size hv has) :
    Calls Tryz.prog 4 #[pval a1 a2 a3 c1 c2 c3 P, hv] w fun e w' => e = .returned (.bool true) ∧ Ext w w' := by
  obtain ⟨ah, ch, rfl⟩ := hh.form
  have hhl := hh.len
  have HH := hid hh
  clear hh
  have HE := hid hE
  have HS := hid hS
  have HP := hid hP
  obtain ⟨W1, hW1⟩ : ∃ W1, W1 = w.alloc (.cells (pcells a1 a2 a3 c1 c2 c3 P) 26) := ⟨_, rfl⟩
  have HX1 : Hid (Ext w W1) := hid (by rw [hW1]; exact (Ext.refl _).alloc _)
  have HB1 : Hid (Blk W1 w.heap.size (pcells a1 a2 a3 c1 c2 c3 P) 26) := hid (by rw [hW1]; exact Blk.new _ _ _)
  have HR := hid (fixed_any W1 ad (hE.ext HX1.out) (hS.ext HX1.out))
  have HW1 : Hid (W1 = w.alloc (.cells #[.slice a1 P.vars.length c1, .slice a2 P.funs.length c2, .slice a3 P.stmts.length c3] 26)) := hid (by rw [hW1]; rfl)
  unfold pval
  clear hE hS hP hW1
  go_enter Tryz.func4, Tryz.ntmps4
  go_wp2_with fail
  rw [← HW1.out]
  refine HR.out.mono ?_
  intro e w1 hx
  obtain ⟨rfl, hx1⟩ := hx
  have HL := hid (large_q a1 a2 a3 c1 c2 c3 25 (by omega) P w1 w.heap.size (HP.out.ext (HX1.out.trans hx1)))
  rw [show ((25 : Nat) : Int) = (25 : Int) from rfl] at HL
  unfold pval at HL
  have HX1' := hid (HX1.out.trans hx1)
  have HBp1 := hid (HB1.out.ext hx1)
  have p0 := HBp1.out.av 0 rfl
  have p1 := HBp1.out.av 1 rfl
  have p2 := HBp1.out.av 2 rfl
  simp only [pcells, List.getElem_toArray, List.getElem_cons_zero, List.getElem_cons_succ] at p0 p1 p2
  clear HR hx1
  go_wp2_with fail
  refine HL.out.mono ?_
  intro e w2 hx
  obtain ⟨r, rfl, hr, hsm, hx2⟩ := hx
  have HX2 := hid (HX1'.out.trans hx2)
  have HBp := hid (HBp1.out.ext hx2)
  clear HL hx2 p0 p1 p2
  rcases (by omega : r = 1 ∨ r = 0) with rfl | rfl
  · clear hsm hr
    go_wp2
    go_ret
    exact ⟨rfl, HX2.out⟩
  have HSm := hid (hsm rfl).1
  have HQl := hid (hsm rfl).2
  clear hsm hr
  have HL := hid (largesets_any (.slice ah has.length ch) has w2 w.heap.size (HH.out.ext HX2.out))
  go_wp2_with fail
  refine HL.out.mono ?_
  intro e w2' hx
  obtain ⟨r, rfl, hr, hsm, hx2⟩ := hx
  have HX2' := hid (HX2.out.trans hx2)
  have HBp' := hid (HBp.out.ext hx2)
  clear HL hx2
  rcases (by omega : r = 1 ∨ r = 0) with rfl | rfl
  · clear hsm hr
    go_wp2
    go_ret
    exact ⟨rfl, HX2'.out⟩
  have HFew := hid (hsm rfl)
  clear hsm hr
  have hz1 : ∀ s ∈ P.vars, s.size ≤ 1000000 := fun s hs => by have := HSm.out.vs s hs; omega
  have hz2 : ∀ s ∈ P.names, s.size ≤ 1000000 := fun s hs => by
    obtain ⟨f, hf, rfl⟩ := List.mem_map.1 hs
    have := (HSm.out.fs f hf).1
    omega
  have Hz1 := hid hz1
  have Hz2 := hid hz2
  have HPS := hid (show PS0 w2' w2'.heap.size ad a1 a2 a3 c1 c2 c3 P from ⟨HE.out.ext HX2'.out, (HP.out.ext HX2'.out).lift HX2'.out.size, Hz1.out, Hz2.out⟩)
  clear hz1 hz2
  have HQ := hid (ownprogram_any a1 a2 a3 c1 c2 c3 P w2' HPS.out.prog HSm.out)
  have p0 := HBp'.out.av 0 rfl
  have p1 := HBp'.out.av 1 rfl
  have p2 := HBp'.out.av 2 rfl
  simp only [pcells, List.getElem_toArray, List.getElem_cons_zero, List.getElem_cons_succ] at p0 p1 p2
  unfold pval at HQ
  go_wp2_with fail
  refine HQ.out.mono ?_
  intro e w3 hx
  obtain ⟨hx3, b1, b2, b3, d1, d2, d3, rfl, hq⟩ := hx
  have HX3 := hid (HX2'.out.trans hx3)
  have Hx3 := hid hx3
  have Hq3 := hid hq
  clear HQ hx3 hq p0 p1 p2
  obtain ⟨W9, hW9⟩ : ∃ W9, W9 = w3.alloc (.cells (pcells b1 b2 b3 d1 d2 d3 P) 26) := ⟨_, rfl⟩
  have hx9 : Ext w3 W9 := by rw [hW9]; exact (Ext.refl _).alloc _
  have HXw := hid (HX3.out.trans hx9)
  have Hw9 := hid (Hx3.out.trans hx9)
  have HB6 : Hid (Blk W9 w3.heap.size (pcells b1 b2 b3 d1 d2 d3 P) 26) := hid (by rw [hW9]; exact Blk.new _ _ _)
  have HW9 : Hid (W9 = w3.alloc (.cells #[.slice b1 P.vars.length d1, .slice b2 P.funs.length d2, .slice b3 P.stmts.length d3] 26)) := hid (by rw [hW9]; rfl)
  have HPP9 := hid (show PS0 W9 W9.heap.size ad b1 b2 b3 d1 d2 d3 P from ⟨HE.out.ext HXw.out, (Hq3.out.ext hx9).lift hx9.size, Hz1.out, Hz2.out⟩)
  have HS9 := hid (HS.out.ext HXw.out)
  clear hx9 hW9
  rcases Classical.em P.Well with hw | hw
  · obtain ⟨n, S, hL⟩ := least_exists hw
    have hgood := hL.good hw
    have HSl := hid hgood.2.1
    have HSk := hid (show ∀ l ∈ S, chkE l = 0 from fun l hl => (hgood.ok.ok l hl).1)
    have Hw := hid hw
    have Hgood := hid hgood
    have HLe := hid hL
    have hS126 : S.length ≤ 126 := by
      have h1 := hw.few
      have h2 := nodesV_le P hw
      have := HSl.out
      omega
    have HL := hid (fixleast_ok b1 b2 b3 d1 d2 d3 P W9 ad (HPP9.out.pw hw) HS9.out n S hL)
    rw [← HSl.out] at HL
    have HOS := fun w1 (x : Ext W9 w1) => hid (ownsets_at (HH.out.ext HXw.out) HFew.out w1 x)
    unfold pval at HL
    clear hw hgood hL
    go_wp2_with fail
    rw [← HW9.out]
    refine HL.out.mono ?_
    intro e w4 hx
    obtain ⟨a, c, rfl, hs, hx4⟩ := hx
    have Hs4 := hid hs
    have HZ4 := hid hx4
    have HC := hid (closed_fix b1 b2 b3 d1 d2 d3 P a c S w4 ad ((HPP9.out.on (Nat.le_refl _) hx4).pw Hw.out) (HS9.out.ext hx4) hs Hgood.out true ⟨fun _ => HLe.out.closed Hw.out, fun _ => rfl⟩)
    unfold pval at HC
    have g0 := (HB6.out.ext HZ4.out).av 0 rfl
    have g1 := (HB6.out.ext HZ4.out).av 1 rfl
    have g2 := (HB6.out.ext HZ4.out).av 2 rfl
    simp only [pcells, List.getElem_toArray, List.getElem_cons_zero, List.getElem_cons_succ] at g0 g1 g2
    clear HL hx4 hs
    go_wp2_with fail
    refine HC.out.mono ?_
    intro e w5 hx
    obtain ⟨rfl, hx5⟩ := hx
    have HZ5 := hid (HZ4.out.trans hx5)
    have Hs5 := hid ((Hs4.out.ext hx5).lift hx5.size)
    have HRd := hid (fixround_ok b1 b2 b3 d1 d2 d3 P (.slice a S.length c) S w5 ad ((HPP9.out.on (Nat.le_refl _) HZ5.out).pw Hw.out) (HS9.out.ext HZ5.out) Hs5.out Hgood.out)
    rw [HLe.out.fix] at HRd
    unfold pval at HRd
    clear HC hx5 g0 g1 g2 Hs4
    have g0 := (HB6.out.ext HZ5.out).av 0 rfl
    have g1 := (HB6.out.ext HZ5.out).av 1 rfl
    have g2 := (HB6.out.ext HZ5.out).av 2 rfl
    simp only [pcells, List.getElem_toArray, List.getElem_cons_zero, List.getElem_cons_succ] at g0 g1 g2
    go_wp2_with fail
    refine HRd.out.mono ?_
    intro e w6 hx
    obtain ⟨a', c', rfl, hs', hx6⟩ := hx
    have HZ6 := hid (HZ5.out.trans hx6)
    have Hs6 := hid ((Hs5.out.ext hx6).lift hx6.size)
    have HSS := hid (samesets_any (.slice a' S.length c') (.slice a S.length c) S S w6 w6.heap.size hs' Hs6.out HSk.out HSk.out)
    rw [decide_eq_true (rfl : S = S)] at HSS
    clear HRd hx6 hs' g0 g1 g2 Hs5
    go_wp2_with fail
    refine HSS.out.mono ?_
    intro e w7 hx
    obtain ⟨rfl, hx7⟩ := hx
    have HZ := hid (HZ6.out.trans hx7)
    have Hs7 := hid ((Hs6.out.ext hx7).lift hx7.size)
    clear HSS hx7 Hs6
    rcases Classical.em (P.GoodS has) with hg | hg
    · obtain ⟨d, hd⟩ := closed_dec P has
      have HC1 := fun w1 a c (x : Ext W9 w1) (hs : SetsR w1 w1.heap.size (.slice a has.length c) has) => hid (closed_fix b1 b2 b3 d1 d2 d3 P a c has w1 ad ((HPP9.out.on (Nat.le_refl _) x).pw Hw.out) (HS9.out.ext x) hs hg d hd)
      unfold pval at HC1
      have Hg := hid hg
      have Hd := hid hd
      clear hg hd
      go_wp2
      have g0 := (HB6.out.ext HZ.out).kc (X := fun _ => False) (fun e => e) 0 rfl
      have g1 := (HB6.out.ext HZ.out).kc (X := fun _ => False) (fun e => e) 1 rfl
      have g2 := (HB6.out.ext HZ.out).kc (X := fun _ => False) (fun e => e) 2 rfl
      simp only [pcells, List.getElem_toArray, List.getElem_cons_zero, List.getElem_cons_succ] at g0 g1 g2
      refine wp_flowT (fun _ => False) (by kernel_rfl) (by kernel_rfl) ?_
      repeat (apply FlowT.d; (intro w1 hk; unfold does; go_simp; (try go_ints); (first | exact DetR.mk | (simp only [↓IntWalk.iteOmega, Oper.doesUpon_value]; exact DetR.mk) | (simp only [↓IntWalk.iteOmega]; go_simp; (try go_ints); exact DetR.mk))); simp only [Act.put, List.setIfInBounds_toArray, List.set_cons_zero, List.set_cons_succ])
      refine FlowT.s (fun v w' => (∃ a c, v = .slice a has.length c) ∧ SetsR w' w'.heap.size v has ∧ Ext w7 w') 2 rfl (by kernel_rfl) (fun _ _ _ ⟨h1, h2, h3⟩ y => ⟨h1, (h2.ext y).lift y.size, h3.trans y⟩) (fun wa hC hk2 => ?_) ?_
      · unfold does
        go_simp
        refine CallR.act ((HOS wa (HZ.out.trans hC)).out.mono ?_)
        rintro e wb ⟨a, c, rfl, hs, hx⟩
        exact ⟨_, rfl, hk2.trans (hx.keep _), ⟨a, c, rfl⟩, hs, hC.trans hx⟩
      rintro _ ⟨_, ⟨ao, co, rfl⟩, _, _⟩
      simp only [Act.put, List.setIfInBounds_toArray, List.set_cons_zero, List.set_cons_succ]
      refine FlowT.s (fun v w' => v = .tuple #[.bool d, .nilIface] ∧ Ext w7 w') 3 rfl (by kernel_rfl) (fun _ _ _ ⟨h1, h3⟩ y => ⟨h1, h3.trans y⟩) (fun wa hC hk2 => ?_) ?_
      · obtain ⟨_, hs, hx0⟩ := hC
        have HCa := HC1 wa _ _ (HZ.out.trans hx0) hs
        unfold does
        go_simp
        refine CallR.act (HCa.out.mono ?_)
        rintro e wb ⟨rfl, hx⟩
        exact ⟨_, rfl, hk2.trans (hx.keep _), rfl, hx0.trans hx⟩
      rintro _ ⟨_, rfl, _⟩
      simp only [Act.put, List.setIfInBounds_toArray, List.set_cons_zero, List.set_cons_succ]
      repeat (apply FlowT.d; (intro w1 hk; unfold does; go_simp; (try go_ints); (first | exact DetR.mk | (simp only [↓IntWalk.iteOmega, Oper.doesUpon_value]; exact DetR.mk) | (simp only [↓IntWalk.iteOmega]; go_simp; (try go_ints); exact DetR.mk))); simp only [Act.put, List.setIfInBounds_toArray, List.set_cons_zero, List.set_cons_succ])
      refine FlowT.fin fun w8 hC8 hk8 => ?_
      obtain ⟨_, hx8⟩ := hC8
      have HZ8 := hid (HZ.out.trans hx8)
      have Hs8 := hid ((Hs7.out.ext hx8).lift hx8.size)
      clear hx8 hk8 g0 g1 g2 HC1 HOS
      cases d with
      | false =>
        go_wp2
        go_ret
        exact ⟨rfl, HXw.out.trans HZ8.out⟩
      | true =>
        have Hsub := hid (HLe.out.within Hg.out (Hd.out.1 rfl))
        have HX8 := hid (HXw.out.trans HZ8.out)
        have Hh8 := hid ((HH.out.ext HX8.out).lift HX8.out.size)
        have hhn : S.length ≤ has.length := by rw [HSl.out, Hg.out.2.1]; exact Nat.le_refl _
        go_wp2
        go_loopw [15] (fun t15 wr => ∃ k : Nat, t15 = .int .i64 (k : Int) ∧ k ≤ S.length ∧ Ext w8 wr) (fun t15 _ => S.length - (intOf t15).toNat)
        case atStart => exact ⟨0, rfl, Nat.zero_le _, Ext.refl _⟩
        case round =>
          obtain ⟨k, rfl, hk, hx⟩ := hrel
          have Hx := hid hx
          clear hx
          by_cases hlt : k < S.length
          · have hlt2 : k < has.length := by omega
            obtain ⟨y, l, bl, cl, hy, hl, hc, hI⟩ := (Hs8.out.ext Hx.out).at hlt
            subst hy
            obtain ⟨z, m, bm, cm, hz, hm, hcm, hI'⟩ := (Hh8.out.ext Hx.out).at hlt2
            subst hz
            have hall : (l.all fun n => decide (n ∈ m)) = true := List.all_eq_true.2 fun x hx => decide_eq_true (by
              have := Hsub.out k x (by rw [List.getD_eq_getElem?_getD, hl]; exact hx)
              rw [List.getD_eq_getElem?_getD, hm] at this
              exact this)
            have HC := fun w1 (x : Ext wr w1) => hid (setwithin_any (.slice bl l.length cl) (.slice bm m.length cm) l m w1 _ (hI.old (x.old _)) (hI'.old (x.old _)))
            rw [hall] at HC
            have j0 : ∀ w1, Keep (fun _ => False) wr w1 → w1.cell? (y.add k) = some (.slice bl l.length cl) := fun w1 k => k.ext.cellx hc
            have j1 : ∀ w1, Keep (fun _ => False) wr w1 → w1.cell? (z.add k) = some (.slice bm m.length cm) := fun w1 k => k.ext.cellx hcm
            clear hl hm hc hcm hI hI' hall
            go_wp2
            refine wp_flowT (fun _ => False) (by kernel_rfl) (by kernel_rfl) ?_
            repeat (apply FlowT.d; (intro w1 hk; unfold does; go_simp; (try go_ints); (first | exact DetR.mk | (simp only [↓IntWalk.iteOmega, Oper.doesUpon_value]; exact DetR.mk) | (simp only [↓IntWalk.iteOmega]; go_simp; (try go_ints); exact DetR.mk))); simp only [Act.put, List.setIfInBounds_toArray, List.set_cons_zero, List.set_cons_succ])
            refine FlowT.s (fun v w' => v = .bool true ∧ Ext wr w') 8 rfl (by kernel_rfl) (fun _ _ _ ⟨h1, h3⟩ y => ⟨h1, h3.trans y⟩) (fun wa hC hk2 => ?_) ?_
            · have HCa := HC wa hC
              unfold does
              go_simp
              refine CallR.act (HCa.out.mono ?_)
              rintro e wb ⟨rfl, hx⟩
              exact ⟨_, rfl, hk2.trans (hx.keep _), rfl, hC.trans hx⟩
            rintro _ ⟨_, rfl, _⟩
            simp only [Act.put, List.setIfInBounds_toArray, List.set_cons_zero, List.set_cons_succ]
            repeat (apply FlowT.d; (intro w1 hk; unfold does; go_simp; (try go_ints); (first | exact DetR.mk | (simp only [↓IntWalk.iteOmega, Oper.doesUpon_value]; exact DetR.mk) | (simp only [↓IntWalk.iteOmega]; go_simp; (try go_ints); exact DetR.mk))); simp only [Act.put, List.setIfInBounds_toArray, List.set_cons_zero, List.set_cons_succ])
            refine FlowT.fin fun w9 hC9 hk9 => ?_
            obtain ⟨_, hx9⟩ := hC9
            have Hx9 := hid (Hx.out.trans hx9)
            clear hx9 hk9 j0 j1 HC
            go_wp2
            go_roundw
            case rel => exact ⟨k + 1, by go_num, by omega, Hx9.out⟩
            case measure => simp [intOf]; omega
          · obtain rfl : k = S.length := by omega
            go_wp2
            go_ret
            exact ⟨rfl, HX8.out.trans Hx.out⟩
    · have HC1 := fun w1 a c (x : Ext W9 w1) (hs : SetsR w1 w1.heap.size (.slice a has.length c) has) => hid (consclosed_bad b1 b2 b3 d1 d2 d3 P a c has w1 w1.heap.size ad ((HPP9.out.on (Nat.le_refl _) x).pw Hw.out) (HS9.out.ext x) hs (fun h => hg ⟨Hw.out, h.1, h.2⟩))
      unfold pval at HC1
      clear hg
      go_wp2
      have g0 := (HB6.out.ext HZ.out).kc (X := fun _ => False) (fun e => e) 0 rfl
      have g1 := (HB6.out.ext HZ.out).kc (X := fun _ => False) (fun e => e) 1 rfl
      have g2 := (HB6.out.ext HZ.out).kc (X := fun _ => False) (fun e => e) 2 rfl
      simp only [pcells, List.getElem_toArray, List.getElem_cons_zero, List.getElem_cons_succ] at g0 g1 g2
      refine wp_flowT (fun _ => False) (by kernel_rfl) (by kernel_rfl) ?_
      repeat (apply FlowT.d; (intro w1 hk; unfold does; go_simp; (try go_ints); (first | exact DetR.mk | (simp only [↓IntWalk.iteOmega, Oper.doesUpon_value]; exact DetR.mk) | (simp only [↓IntWalk.iteOmega]; go_simp; (try go_ints); exact DetR.mk))); simp only [Act.put, List.setIfInBounds_toArray, List.set_cons_zero, List.set_cons_succ])
      refine FlowT.s (fun v w' => (∃ a c, v = .slice a has.length c) ∧ SetsR w' w'.heap.size v has ∧ Ext w7 w') 2 rfl (by kernel_rfl) (fun _ _ _ ⟨h1, h2, h3⟩ y => ⟨h1, (h2.ext y).lift y.size, h3.trans y⟩) (fun wa hC hk2 => ?_) ?_
      · unfold does
        go_simp
        refine CallR.act ((HOS wa (HZ.out.trans hC)).out.mono ?_)
        rintro e wb ⟨a, c, rfl, hs, hx⟩
        exact ⟨_, rfl, hk2.trans (hx.keep _), ⟨a, c, rfl⟩, hs, hC.trans hx⟩
      rintro _ ⟨_, ⟨ao, co, rfl⟩, _, _⟩
      simp only [Act.put, List.setIfInBounds_toArray, List.set_cons_zero, List.set_cons_succ]
      refine FlowT.s (fun v w' => (∃ t x, v = .tuple #[.bool false, .iface t (.pointer (some x))]) ∧ Ext w7 w') 3 rfl (by kernel_rfl) (fun _ _ _ ⟨h1, h3⟩ y => ⟨h1, h3.trans y⟩) (fun wa hC hk2 => ?_) ?_
      · obtain ⟨_, hs, hx0⟩ := hC
        have HCa := HC1 wa _ _ (HZ.out.trans hx0) hs
        unfold does
        go_simp
        refine CallR.act (HCa.out.mono ?_)
        rintro e wb ⟨t, x, rfl, _, hx⟩
        exact ⟨_, rfl, hk2.trans (hx.keep _), ⟨t, x, rfl⟩, hx0.trans hx⟩
      rintro _ ⟨_, ⟨te, xe, rfl⟩, _⟩
      simp only [Act.put, List.setIfInBounds_toArray, List.set_cons_zero, List.set_cons_succ]
      repeat (apply FlowT.d; (intro w1 hk; unfold does; go_simp; (try go_ints); (first | exact DetR.mk | (simp only [↓IntWalk.iteOmega, Oper.doesUpon_value]; exact DetR.mk) | (simp only [↓IntWalk.iteOmega]; go_simp; (try go_ints); exact DetR.mk))); simp only [Act.put, List.setIfInBounds_toArray, List.set_cons_zero, List.set_cons_succ])
      refine FlowT.fin fun w8 hC8 hk8 => ?_
      obtain ⟨_, hx8⟩ := hC8
      have HZ8 := hid (HZ.out.trans hx8)
      clear hx8 hk8 g0 g1 g2 HC1 HOS
      go_wp2
      go_ret
      exact ⟨rfl, HXw.out.trans HZ8.out⟩
  · clear hhl
    have HL := hid (fixleast_no b1 b2 b3 d1 d2 d3 P W9 W9.heap.size ad HPP9.out hw)
    unfold pval at HL
    clear hw
    go_wp2_with fail
    rw [← HW9.out]
    refine HL.out.mono ?_
    intro e w4 hx
    obtain ⟨t, x, rfl, _, hx4⟩ := hx
    have HZ4 := hid hx4
    clear HL hx4
    go_wp2
    go_ret
    exact ⟨rfl, HXw.out.trans HZ4.out⟩
end Go.Proofs.YtnpnhbfbklibhaaGreatDoor


/- FixOrder, plainly: statements twice and turned round; one statement more. -/
namespace Go.Proofs.YtnpnhbfbklibhaaGreatDoor
set_option linter.unusedSimpArgs false
set_option linter.unusedVariables false
open Go Go.RowKit

/-- A program with other statements. -/
def PP.withS (P : PP) (l : List PS) : PP := ⟨P.vars, P.funs, l⟩
theorem noNew_withS {P : PP} {l : List PS} (h : P.noNew) (hl : ∀ x, x ∈ l ↔ x ∈ P.stmts) : (P.withS l).noNew := fun x hx => h x ((hl x).1 hx)
theorem nodes_withS {P : PP} {l : List PS} (h : P.noNew) (hl : ∀ x, x ∈ l ↔ x ∈ P.stmts) : (P.withS l).nodesV = P.nodesV := by
  unfold PP.nodesV
  rw [newsN_no h, newsN_no (noNew_withS h hl)]
  rfl
theorem objects_withS {P : PP} {l : List PS} (h : P.noNew) (hl : ∀ x, x ∈ l ↔ x ∈ P.stmts) : (P.withS l).objectsV = P.objectsV := by
  unfold PP.objectsV
  rw [nodes_withS h hl]
  rfl
theorem well_withS {P : PP} {l : List PS} (hl : ∀ x, x ∈ l ↔ x ∈ P.stmts) (hb : l.length ≤ 80) (hw : P.Well) : (P.withS l).Well := by
  obtain ⟨f1, f2, f3⟩ := hw.few
  obtain ⟨h1, h2⟩ := hw
  refine ⟨?_, (allWell_iff _).2 fun x hx => (allWell_iff P).1 h2 x ((hl x).1 hx)⟩
  have e1 : P.big = false := by
    unfold PP.big
    rw [decide_eq_false (by omega), decide_eq_false (by omega), decide_eq_false (by omega)]
    rfl
  have e2 : (P.withS l).big = false := by
    unfold PP.big PP.withS
    dsimp only
    rw [decide_eq_false (by omega), decide_eq_false (by omega), decide_eq_false (by omega)]
    rfl
  unfold PP.err1 at h1 ⊢
  rw [e2]
  rw [e1] at h1
  exact h1
theorem rule_withS {P : PP} {l : List PS} (h : P.noNew) (hl : ∀ x, x ∈ l ↔ x ∈ P.stmts) {x : PS} (hx : x.isK kNew = false) : (P.withS l).ruleV 0 x = P.ruleV 0 x := by
  unfold PP.ruleV
  rw [hx, nodes_withS h hl]
  rfl
theorem edges_withS {P : PP} {l : List PS} (h : P.noNew) (hl : ∀ x, x ∈ l ↔ x ∈ P.stmts) (has : List (List Int)) (e : Int × Int) : e ∈ (P.withS l).edges0 has ↔ e ∈ P.edges0 has := by
  rw [mem_edges0, mem_edges0]
  have c : ∀ x, (P.withS l).sedges x has = P.sedges x has := fun x => sedges_congr (nodes_withS h hl) rfl x has
  simp only [c]
  exact ⟨fun ⟨x, h1, h2⟩ => ⟨x, (hl x).1 h1, h2⟩, fun ⟨x, h1, h2⟩ => ⟨x, (hl x).2 h1, h2⟩⟩
theorem closed_withS {P : PP} {l : List PS} (h : P.noNew) (hl : ∀ x, x ∈ l ↔ x ∈ P.stmts) (has : List (List Int)) : ClosedP (P.withS l) has ↔ ClosedP P has := by
  rw [closed_iff h, closed_iff (noNew_withS h hl)]
  refine and_congr ⟨fun g x hx => ?_, fun g x hx => ?_⟩ ⟨fun g e he => g e ((edges_withS h hl has e).2 he), fun g e he => g e ((edges_withS h hl has e).1 he)⟩
  · have := g x ((hl x).2 hx)
    unfold PP.sOk at this ⊢
    rwa [rule_withS h hl (h x hx)] at this
  · have hx' := (hl x).1 hx
    unfold PP.sOk
    rw [rule_withS h hl (h x hx')]
    exact g x hx'
theorem goodS_to {P Q : PP} (hn : P.nodesV = Q.nodesV) (ho : P.objectsV = Q.objectsV) (hw : P.Well) {has : List (List Int)} (h : Q.GoodS has) : P.GoodS has :=
  ⟨hw, h.2.1.trans hn.symm, fun l hl => by
    have := h.2.2 l hl
    unfold PP.setE at this ⊢
    rw [ho]
    exact this⟩
theorem least_withS {P : PP} {l : List PS} (h : P.noNew) (hl : ∀ x, x ∈ l ↔ x ∈ P.stmts) (hb : l.length ≤ 80) (hw : P.Well) {n m : Nat} {S T : List (List Int)} (hS : LeastAt P n S) (hT : LeastAt (P.withS l) m T) : S = T := by
  have hw' := well_withS hl hb hw
  have gS := hS.good hw
  have gT := hT.good hw'
  have gT' : P.GoodS T := goodS_to (nodes_withS h hl).symm (objects_withS h hl).symm hw gT
  have gS' : (P.withS l).GoodS S := goodS_to (nodes_withS h hl) (objects_withS h hl) hw' gS
  have s1 := hS.within gT' ((closed_withS h hl T).1 (hT.closed hw'))
  have s2 := hT.within gS' ((closed_withS h hl S).2 (hS.closed hw))
  have hlen : S.length = T.length := gS.2.1.trans gT'.2.1.symm
  have t1 := total_sub hlen (good_srt gS) (good_srt gT) s1
  have t2 := total_sub hlen.symm (good_srt gT) (good_srt gS) s2
  exact t1.2 (by omega)
/-- Statements from the last to the first, each twice. -/
def twice (l : List PS) : List PS := l.reverse.flatMap fun x => [x, x]
theorem mem_twice (l : List PS) (x : PS) : x ∈ twice l ↔ x ∈ l := by
  unfold twice
  rw [List.mem_flatMap]
  constructor
  · rintro ⟨y, hy, hx⟩
    have : x = y := by simpa using hx
    rw [this]
    exact List.mem_reverse.1 hy
  · intro hx
    exact ⟨x, List.mem_reverse.2 hx, by simp⟩
theorem twice_len (l : List PS) : (twice l).length = 2 * l.length := by
  unfold twice
  induction l with
  | nil => rfl
  | cons a t ih =>
    rw [List.reverse_cons, List.flatMap_append, List.length_append, ih]
    simp only [List.flatMap_cons, List.flatMap_nil, List.append_nil, List.length_cons, List.length_nil]
    omega
theorem isNew_more {P : PP} {m : PS} (hm : m.isK kNew = false) (k : Nat) : (P.withS (P.stmts ++ [m])).isNew k = P.isNew k := by
  unfold PP.isNew
  have e : (P.withS (P.stmts ++ [m])).stmts = P.stmts ++ [m] := rfl
  rw [e]
  by_cases hk : k < P.stmts.length
  · rw [List.getElem?_append_left hk]
  · rw [List.getElem?_eq_none (l := P.stmts) (by omega)]
    by_cases hk2 : k = P.stmts.length
    · subst hk2
      rw [List.getElem?_concat_length]
      exact hm
    · rw [List.getElem?_eq_none (by rw [List.length_append, List.length_singleton]; omega)]
theorem isNew_end (P : PP) {k : Nat} (h : P.stmts.length ≤ k) : P.isNew k = false := by
  unfold PP.isNew
  rw [List.getElem?_eq_none h]
theorem newsN_more {P : PP} {m : PS} (hm : m.isK kNew = false) (k : Nat) : (P.withS (P.stmts ++ [m])).newsN k = P.newsN k := by
  unfold PP.newsN
  rw [show (P.withS (P.stmts ++ [m])).isNew = P.isNew from funext (isNew_more hm)]
theorem nodes_more {P : PP} {m : PS} (hm : m.isK kNew = false) : (P.withS (P.stmts ++ [m])).nodesV = P.nodesV := by
  unfold PP.nodesV
  rw [newsN_more hm, show (P.withS (P.stmts ++ [m])).stmts.length = P.stmts.length + 1 from List.length_append, PP.newsN_succ, isNew_end P (Nat.le_refl _)]
  rfl
theorem objects_more {P : PP} {m : PS} (hm : m.isK kNew = false) : (P.withS (P.stmts ++ [m])).objectsV = P.objectsV := by
  unfold PP.objectsV
  rw [nodes_more hm]
  rfl
theorem place_more {P : PP} {m : PS} (hm : m.isK kNew = false) (k : Int) : (P.withS (P.stmts ++ [m])).placeV k = P.placeV k := by
  unfold PP.placeV
  rw [isNew_more hm, newsN_more hm, show (P.withS (P.stmts ++ [m])).stmts.length = P.stmts.length + 1 from List.length_append]
  have e : (0 ≤ k ∧ k < ((P.stmts.length + 1 : Nat) : Int) ∧ P.isNew k.toNat = true) ↔ (0 ≤ k ∧ k < (P.stmts.length : Int) ∧ P.isNew k.toNat = true) :=
    ⟨fun ⟨h1, _, h3⟩ => ⟨h1, (by
      rcases Nat.lt_or_ge k.toNat P.stmts.length with h | h
      · omega
      · rw [isNew_end P h] at h3
        exact absurd h3 (by decide)), h3⟩, fun ⟨h1, h2, h3⟩ => ⟨h1, by omega, h3⟩⟩
  by_cases h : 0 ≤ k ∧ k < (P.stmts.length : Int) ∧ P.isNew k.toNat = true
  · rw [if_pos h, if_pos (e.2 h)]
    rfl
  · rw [if_neg h, if_neg fun g => h (e.1 g)]
theorem rule_more {P : PP} {m : PS} (hm : m.isK kNew = false) (k : Nat) (x : PS) : (P.withS (P.stmts ++ [m])).ruleV k x = P.ruleV k x := by
  unfold PP.ruleV
  rw [place_more hm, nodes_more hm]
theorem stAt_more {P : PP} {m : PS} {k : Nat} (hk : k < P.stmts.length) : (P.withS (P.stmts ++ [m])).stAt k = P.stAt k := by
  unfold PP.stAt
  rw [show (P.withS (P.stmts ++ [m])).stmts = P.stmts ++ [m] from rfl, List.getD_eq_getElem?_getD, List.getD_eq_getElem?_getD, List.getElem?_append_left hk]
theorem closed_more {P : PP} {m : PS} (hm : m.isK kNew = false) {has : List (List Int)} (h : ClosedP (P.withS (P.stmts ++ [m])) has) : ClosedP P has := by
  refine ⟨fun k hk hb => ?_, fun e he hne => ?_⟩
  · have := h.base k (by rw [show (P.withS (P.stmts ++ [m])).stmts.length = P.stmts.length + 1 from List.length_append]; omega)
    rw [stAt_more hk, rule_more hm] at this
    exact this hb
  · obtain ⟨x, hx, hs⟩ := mem_edges0.1 he
    refine h.edge e (mem_edges0.2 ⟨x, List.mem_append_left _ hx, ?_⟩) hne
    rw [sedges_congr (nodes_more hm) rfl]
    exact hs
theorem least_more {P : PP} {m : PS} (hm : m.isK kNew = false) (hw : P.Well) (hw' : (P.withS (P.stmts ++ [m])).Well) {n k : Nat} {S T : List (List Int)} (hS : LeastAt P n S) (hT : LeastAt (P.withS (P.stmts ++ [m])) k T) : S.length = T.length ∧ Sub S T := by
  have gT := hT.good hw'
  have gT' : P.GoodS T := goodS_to (nodes_more hm).symm (objects_more hm).symm hw gT
  exact ⟨(hS.good hw).2.1.trans gT'.2.1.symm, hS.within gT' (closed_more hm (hT.closed hw'))⟩
end Go.Proofs.YtnpnhbfbklibhaaGreatDoor
