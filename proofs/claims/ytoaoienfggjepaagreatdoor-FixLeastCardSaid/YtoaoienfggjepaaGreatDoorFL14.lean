/- Texts of one proof, put together: E5 E6 X8 T8 WG WH WI. -/
import Derived.Test.YtoaoienfggjepaaGreatDoorFL05
import Derived.Test.YtoaoienfggjepaaGreatDoorFL07
import Derived.Test.YtoaoienfggjepaaGreatDoorFL11
import Derived.Test.YtoaoienfggjepaaGreatDoorFL13
import Derived.OwnWalk

/- The least answer (fix.Least). -/
namespace Go.Proofs.YtoaoienfggjepaaGreatDoor
set_option linter.unusedSimpArgs false
set_option linter.unusedVariables false
open Go Go.RowKit

theorem first_of {p : Nat → Prop} : ∀ n, p n → ∃ m, p m ∧ ∀ k, k < m → ¬ p k := fun n => by
  induction n using Nat.strongRecOn with
  | _ n ih =>
    intro hn
    rcases Classical.em (∃ k, k < n ∧ p k) with ⟨k, hk, hp⟩ | h
    · exact ih k hk hp
    · exact ⟨n, hn, fun k hk hp => h ⟨k, hk, hp⟩⟩
theorem iter_total {P : PP} (hw : P.Well) : ∀ n, (∀ m, m < n → P.roundV (P.iterV m) ≠ P.iterV m) → n ≤ total (P.iterV n)
  | 0, _ => Nat.zero_le _
  | n + 1, h => by
    have h1 := iter_total hw n fun m hm => h m (by omega)
    have h2 := iter_grows hw n (h n (by omega))
    omega
theorem least_exists {P : PP} (hw : P.Well) : ∃ n S, LeastAt P n S := by
  have h : ∃ n, P.roundV (P.iterV n) = P.iterV n := by
    rcases Classical.em (∃ n, P.roundV (P.iterV n) = P.iterV n) with h | h
    · exact h
    · have h1 := iter_total hw 200000 fun m _ e => h ⟨m, e⟩
      have h2 := iter_few hw 200000
      omega
  obtain ⟨n, hn⟩ := h
  obtain ⟨m, hm, hf⟩ := first_of (p := fun n => P.roundV (P.iterV n) = P.iterV n) n hn
  exact ⟨m, P.iterV m, rfl, hm, hf⟩
theorem LeastAt.few {P : PP} (hw : P.Well) {n : Nat} {S : List (List Int)} (h : LeastAt P n S) : n ≤ 120000 := by
  have h1 := iter_total hw n fun m hm => h.first m hm
  have h2 := iter_few hw n
  omega
theorem made_nil (w : World) (N : Nat) : Made w (List.replicate N (.slice none 0 0)) (List.replicate N []) := by
  refine ⟨by simp, fun i v l hv hl => ?_⟩
  obtain rfl := List.eq_of_mem_replicate (List.mem_of_getElem? hv)
  obtain rfl := List.eq_of_mem_replicate (List.mem_of_getElem? hl)
  exact IntsT.nil w
set_option maxRecDepth 100000 in
set_option maxHeartbeats 1600000 in
theorem fixleast_no (a1 a2 a3 : Option Addr) (c1 c2 c3 : Nat) (P : PP) (w : World) (n0 : Nat) (ad : Nat → Addr) (h : PS0 w n0 ad a1 a2 a3 c1 c2 c3 P) (hw : ¬ P.Well) :
    Calls Tryz.prog 25 #[pval a1 a2 a3 c1 c2 c3 P] w fun e w' => ∃ t x, e = .returned (.tuple #[.slice none 0 0, .int .i64 0, .iface t (.pointer (some x))]) ∧ ErrIs ad P w' (.iface t (.pointer (some x))) ∧ Ext w w' := by
  obtain ⟨W, hW⟩ : ∃ W, W = w.alloc (.cells (pcells a1 a2 a3 c1 c2 c3 P) 39) := ⟨_, rfl⟩
  have HX : Hid (Ext w W) := hid (by rw [hW]; exact (Ext.refl _).alloc _)
  have HBx : Hid (Blk W w.heap.size (pcells a1 a2 a3 c1 c2 c3 P) 39) := hid (by rw [hW]; exact Blk.new _ _ _)
  have HWe : Hid (W = w.alloc (.cells #[.slice a1 P.vars.length c1, .slice a2 P.funs.length c2, .slice a3 P.stmts.length c3] 39)) := hid (by rw [hW]; rfl)
  have hml : (P.vars.length : Int) ≤ 9223372036854775807 := by
    obtain ⟨_, _, _, h2, h3, _⟩ := h.prog.vars
    omega
  have HK := hid (pcheck_any a1 a2 a3 c1 c2 c3 P W n0 ad (h.errs.ext HX.out) (h.prog.ext HX.out) h.z1 h.z2 hml)
  have Hw := hid hw
  have d0 := HBx.out.av 0 rfl
  have d1 := HBx.out.av 1 rfl
  have d2 := HBx.out.av 2 rfl
  simp only [pcells, List.getElem_toArray, List.getElem_cons_zero, List.getElem_cons_succ] at d0 d1 d2
  rw [HWe.out] at d0 d1 d2
  unfold pval at HK ⊢
  clear hW h hw
  go_enter Tryz.func25, Tryz.ntmps25
  go_wp2_with fail
  rw [← HWe.out]
  refine HK.out.mono ?_
  intro e w1 hx
  obtain ⟨v, rfl, hi, hx1⟩ := hx
  obtain ⟨t, x, rfl⟩ : ∃ t x, v = .iface t (.pointer (some x)) := by
    rcases hi.form with ⟨_, h⟩ | ⟨h, _⟩
    · exact absurd h Hw.out
    · exact h
  have Hi := hid hi
  have Hx1 := hid (HX.out.trans hx1)
  clear HK hx1 hi d0 d1 d2
  go_wp2
  refine bodyPost_ret (v := .tuple #[.slice none 0 0, .int .i64 0, .iface t (.pointer (some x))]) (by simp [results, Tryz.results25, go_sem]) rfl ?_
  exact ⟨t, x, rfl, Hi.out, Hx1.out⟩
set_option maxRecDepth 100000 in
set_option maxHeartbeats 3200000 in
theorem fixleast_ok (a1 a2 a3 : Option Addr) (c1 c2 c3 : Nat) (P : PP) (w : World) (ad : Nat → Addr) (h : PW w w.heap.size ad a1 a2 a3 c1 c2 c3 P) (hS : ErrS w ad) (n : Nat) (S : List (List Int)) (hL : LeastAt P n S) :
    Calls Tryz.prog 25 #[pval a1 a2 a3 c1 c2 c3 P] w fun e w' => ∃ a c, e = .returned (.tuple #[.slice a P.nodesV c, .int .i64 (n : Int), .nilIface]) ∧ SetsR w' w'.heap.size (.slice a P.nodesV c) S ∧ Ext w w' := by
  have Hw := hid h.well
  have HLe := hid hL
  have hn12 := hL.few h.well
  obtain ⟨hf1, hf2, hf3⟩ := h.well.few
  obtain ⟨W, hW⟩ : ∃ W, W = w.alloc (.cells (pcells a1 a2 a3 c1 c2 c3 P) 39) := ⟨_, rfl⟩
  have HX : Hid (Ext w W) := hid (by rw [hW]; exact (Ext.refl _).alloc _)
  have HBx : Hid (Blk W w.heap.size (pcells a1 a2 a3 c1 c2 c3 P) 39) := hid (by rw [hW]; exact Blk.new _ _ _)
  have HWe : Hid (W = w.alloc (.cells #[.slice a1 P.vars.length c1, .slice a2 P.funs.length c2, .slice a3 P.stmts.length c3] 39)) := hid (by rw [hW]; rfl)
  have HK := hid (check_well (h.errs.ext HX.out) (h.prog.ext HX.out) h.z1 h.z2 h.well)
  have HNo := fun w1 (x : Ext w w1) => hid (prognodes_any a1 a2 a3 c1 c2 c3 P w1 w.heap.size ad (h.errs.ext x) (h.prog.ext x) h.z1 h.z2 h.well)
  have HPW := hid h
  have HS := hid hS
  have hN6 := nodesV_le P h.well
  have HRo := fun w1 (x : Ext w w1) hv has (hh : SetsR w1 w1.heap.size hv has) (hg : P.GoodS has) => hid (fixround_ok a1 a2 a3 c1 c2 c3 P hv has w1 ad ((HPW.out.ext x).lift x.size) (HS.out.ext x) hh hg)
  have HGd := fun k => hid (iterV_good h.well k)
  obtain ⟨N, hN⟩ : ∃ N, N = P.nodesV := ⟨_, rfl⟩
  rw [← hN] at HNo hN6 ⊢
  have HN := hid hN
  have d0 := HBx.out.av 0 rfl
  have d1 := HBx.out.av 1 rfl
  have d2 := HBx.out.av 2 rfl
  simp only [pcells, List.getElem_toArray, List.getElem_cons_zero, List.getElem_cons_succ] at d0 d1 d2
  rw [HWe.out] at d0 d1 d2
  unfold pval at HK HNo HRo ⊢
  clear hW h hS hL hN
  go_enter Tryz.func25, Tryz.ntmps25
  go_wp2_with fail
  rw [← HWe.out]
  refine HK.out.mono ?_
  intro e w1 hx
  obtain ⟨rfl, hx1⟩ := hx
  have Hx1 := hid hx1
  have HN1 := HNo w1 (HX.out.trans hx1)
  clear HK hx1 d0 d1 d2 HNo
  have d0 := (HBx.out.ext Hx1.out).av 0 rfl
  have d1 := (HBx.out.ext Hx1.out).av 1 rfl
  have d2 := (HBx.out.ext Hx1.out).av 2 rfl
  simp only [pcells, List.getElem_toArray, List.getElem_cons_zero, List.getElem_cons_succ] at d0 d1 d2
  go_wp2_with fail
  refine HN1.out.mono ?_
  intro e w2 hx
  obtain ⟨rfl, hx2⟩ := hx
  have Hx2 := hid (Hx1.out.trans hx2)
  obtain ⟨bi, hbi, hbz, hbs, hbb⟩ := info_parts rows_info
  clear HN1 hx2 d0 d1 d2
  go_wp2_with (at_make; refine wpList_make_full w2 rfl _ _ _ rfl w2.heap.size 22 bi (.slice none 0 0) 1 Tryz.underlying44 hbi hbz hbs .i64 .i64 (N : Int) (N : Int) N rfl rfl rfl rfl (by rw [hbb]; omega) (by unfold maxLen; omega) (Nat.le_refl _) ?_; intro w3 hrow hgr)
  have hx3 : Ext w2 w3 := Keep.new (Ext.refl w2) (grown_keep hgr) (fun k hk => by cases hk)
  rw [show (Value.slice none 0 0).cells = #[Value.slice none 0 0] from rfl, toList_madeCells_one, Nat.mul_one] at hrow
  have Hx3 := hid (Hx2.out.trans hx3)
  have HS0 : Hid (SetsR w3 w3.heap.size (.slice (some ⟨w2.heap.size, 0, none⟩) N N) (P.iterV 0)) := hid (by
    have h1 := SetsR.made (v := .slice (some ⟨w2.heap.size, 0, none⟩) N N) (L := List.replicate N []) (by rw [List.length_replicate]; exact hrow) (made_nil w3 N)
    have e0 : P.iterV 0 = List.replicate N [] := by rw [HN.out]; rfl
    exact e0 ▸ h1)
  clear hrow hgr hx3 hbi hbz hbs hbb
  go_wp2
  go_loopw [6, 7] (fun t6 t7 wr => ∃ (k : Nat) (a : Option Addr) (c : Nat), t7 = .int .i64 (k : Int) ∧ t6 = .slice a N c ∧ k ≤ n ∧ SetsR wr wr.heap.size (.slice a N c) (P.iterV k) ∧ Ext W wr) (fun _ t7 _ => 200000 - (intOf t7).toNat)
  case atStart => exact ⟨0, _, _, rfl, rfl, Nat.zero_le _, HS0.out, Hx3.out⟩
  case round =>
    clear HS0 Hx3
    obtain ⟨k, a, c, rfl, rfl, hk, hs, hx⟩ := hrel
    have Hx := hid hx
    have Hs := hid hs
    have hlen : (P.iterV k).length = N := by rw [HN.out]; exact (HGd k).out.2.1
    have HC := HRo wr (HX.out.trans hx) (.slice a N c) (P.iterV k) hs (HGd k).out
    have d0 := (HBx.out.ext hx).av 0 rfl
    have d1 := (HBx.out.ext hx).av 1 rfl
    have d2 := (HBx.out.ext hx).av 2 rfl
    simp only [pcells, List.getElem_toArray, List.getElem_cons_zero, List.getElem_cons_succ] at d0 d1 d2
    rw [hlen] at HC
    clear hs hx hlen HRo
    go_wp2_with fail
    refine HC.out.mono ?_
    intro e w5 hx
    obtain ⟨a5, c5, rfl, hs5, hx5⟩ := hx
    have Hx5 := hid (Hx.out.trans hx5)
    have Hs5 := hid hs5
    have Hso := hid ((Hs.out.ext hx5).lift hx5.size)
    have HSm := hid (fixsame_any (.slice a5 N c5) (.slice a N c) (P.roundV (P.iterV k)) (P.iterV k) w5 w5.heap.size hs5 ((Hs.out.ext hx5).lift hx5.size))
    obtain ⟨d, hd⟩ : ∃ d, d = decide (P.roundV (P.iterV k) = P.iterV k) := ⟨_, rfl⟩
    rw [← hd] at HSm
    have Hd := hid hd
    clear HC hs5 hx5 d0 d1 d2 hd
    go_wp2_with fail
    refine HSm.out.mono ?_
    intro e w6 hx
    obtain ⟨rfl, hx6⟩ := hx
    have Hx6 := hid (Hx5.out.trans hx6)
    have Hs6 := hid ((Hs5.out.ext hx6).lift hx6.size)
    have Hso6 := hid ((Hso.out.ext hx6).lift hx6.size)
    clear HSm
    cases d with
    | true =>
      have hfix : P.roundV (P.iterV k) = P.iterV k := of_decide_eq_true Hd.out.symm
      have hkn : k = n := by
        rcases Nat.lt_or_ge k n with g | g
        · exact absurd hfix (HLe.out.first k g)
        · omega
      subst hkn
      have HF : Hid (SetsR w6 w6.heap.size (.slice a N c) S) := hid (by
        rw [HLe.out.eq]
        exact Hso6.out)
      clear hx6 hfix
      go_wp2
      refine bodyPost_ret (v := .tuple #[.slice a N c, .int .i64 (k : Int), .nilIface]) (by simp [results, Tryz.results25, go_sem]) rfl ?_
      exact ⟨a, c, rfl, HF.out, HX.out.trans Hx6.out⟩
    | false =>
      have hne : P.roundV (P.iterV k) ≠ P.iterV k := of_decide_eq_false Hd.out.symm
      have hkn : k < n := by
        rcases Nat.lt_or_ge k n with g | g
        · exact g
        · obtain rfl : k = n := by omega
          exact absurd (by rw [← HLe.out.eq]; exact HLe.out.fix) hne
      have Hs7 : Hid (SetsR w6 w6.heap.size (.slice a5 N c5) (P.iterV (k + 1))) := hid Hs6.out
      clear hx6 hne
      go_wp2
      go_roundw
      case rel => exact ⟨k + 1, a5, c5, by go_num, rfl, by omega, Hs7.out, Hx6.out⟩
      case measure => simp [intOf]; omega
end Go.Proofs.YtoaoienfggjepaaGreatDoor



/- Least answers: the reference's comparison of sets; the law's own small program. -/
namespace Go.Proofs.YtoaoienfggjepaaGreatDoor
set_option linter.unusedSimpArgs false
set_option linter.unusedVariables false
open Go Go.RowKit

theorem setok_few {l : List Int} (h : chkE l = 0) (i : Nat) : l.getD i 0 ≤ 9223372036854775807 := by
  rw [List.getD_eq_getElem?_getD]
  cases hx : l[i]? with
  | none => exact (by decide : (0 : Int) ≤ 9223372036854775807)
  | some x =>
    have := (chkE_zero.1 h).1 x (List.mem_of_getElem? hx)
    show x ≤ _
    omega
set_option maxRecDepth 100000 in
set_option maxHeartbeats 1600000 in
theorem samesets_any (va vb : Value) (A B : List (List Int)) (w : World) (n0 : Nat) (ha : SetsR w n0 va A) (hb : SetsR w n0 vb B) (ka : ∀ l ∈ A, chkE l = 0) (kb : ∀ l ∈ B, chkE l = 0) :
    Calls Tryz.prog 37 #[va, vb] w fun e w' => e = .returned (.bool (decide (A = B))) ∧ Ext w w' := by
  have hal := ha.len
  have hbl := hb.len
  have HA := hid ha
  have HB := hid hb
  have HKa := hid ka
  have HKb := hid kb
  obtain ⟨aa, ca, rfl⟩ := ha.form
  obtain ⟨ab, cb, rfl⟩ := hb.form
  clear ha hb ka kb
  by_cases hl : A.length = B.length
  · have Hl := hid hl
    have e0 : ((A.length : Int) != (B.length : Int)) = false := by rw [hl]; simp
    clear hl
    go_enter Tryz.func37, Tryz.ntmps37
    go_wp2
    clear e0
    go_loopw [5] (fun t5 wr => ∃ k : Nat, t5 = .int .i64 (k : Int) ∧ k ≤ A.length ∧ (∀ j, j < k → A[j]? = B[j]?) ∧ Ext w wr) (fun t5 _ => A.length - (intOf t5).toNat)
    case atStart => exact ⟨0, rfl, Nat.zero_le _, fun j h => by omega, Ext.refl _⟩
    case round =>
      obtain ⟨k, rfl, hk, hp, hx⟩ := hrel
      have Hp := hid hp
      have Hx := hid hx
      clear hp hx
      by_cases hlt : k < A.length
      · have hlt2 : k < B.length := by rw [← Hl.out]; exact hlt
        obtain ⟨ya, l, bl, cl, hya, hpk, hcp, hI⟩ := (HA.out.ext Hx.out).at hlt
        subst hya
        obtain ⟨yb, m, bm, cm, hyb, hqk, hcq, hI'⟩ := (HB.out.ext Hx.out).at hlt2
        subst hyb
        have hll := hI.len
        have hml := hI'.len
        have HC := fun w1 (x : Ext wr w1) => hid (sameints_any bl bm l.length m.length cl cm l m w1 (IntsR.ints (hI.old (x.old _)) (setok_few (HKa.out l (List.mem_of_getElem? hpk)))) (IntsR.ints (hI'.old (x.old _)) (setok_few (HKb.out m (List.mem_of_getElem? hqk)))) hll hml)
        have c0 : ∀ w1, Keep (fun _ => False) wr w1 → w1.cell? (ya.add k) = some (.slice bl l.length cl) := fun w1 k => k.ext.cellx hcp
        have c1 : ∀ w1, Keep (fun _ => False) wr w1 → w1.cell? (yb.add k) = some (.slice bm m.length cm) := fun w1 k => k.ext.cellx hcq
        obtain ⟨d, hd⟩ : ∃ d, d = decide (l = m) := ⟨_, rfl⟩
        rw [← hd] at HC
        have Hd := hid hd
        have Hpk := hid hpk
        have Hqk := hid hqk
        clear hpk hqk hI hI' hd hcp hcq
        go_wp2
        refine wp_flowT (fun _ => False) (by kernel_rfl) (by kernel_rfl) ?_
        repeat (apply FlowT.d; (intro w1 hk; unfold does; go_simp; (try go_ints); (first | exact DetR.mk | (simp only [↓IntWalk.iteOmega, Oper.doesUpon_value]; exact DetR.mk) | (simp only [↓IntWalk.iteOmega]; go_simp; (try go_ints); exact DetR.mk))); simp only [Act.put, List.setIfInBounds_toArray, List.set_cons_zero, List.set_cons_succ])
        apply FlowT.d
        · intro w1 hk
          unfold does
          go_simp
          exact CallR.det ((HC w1 hk.ext).out)
        simp only [Act.put, List.setIfInBounds_toArray, List.set_cons_zero, List.set_cons_succ]
        repeat (apply FlowT.d; (intro w1 hk; unfold does; go_simp; (try go_ints); (first | exact DetR.mk | (simp only [↓IntWalk.iteOmega, Oper.doesUpon_value]; exact DetR.mk) | (simp only [↓IntWalk.iteOmega]; go_simp; (try go_ints); exact DetR.mk))); simp only [Act.put, List.setIfInBounds_toArray, List.set_cons_zero, List.set_cons_succ])
        refine FlowT.fin fun w1 hx1 hk1 => ?_
        have Hx1 := hid (Hx.out.trans hx1)
        clear HC hx1 hk1 c0 c1
        cases d with
        | true =>
          have He : Hid (l = m) := hid (of_decide_eq_true Hd.out.symm)
          go_wp2
          go_roundw
          case rel =>
            refine ⟨k + 1, by go_num, by omega, fun j hj => ?_, Hx1.out⟩
            by_cases hjk : j = k
            · subst hjk; rw [Hpk.out, Hqk.out, He.out]
            · exact Hp.out j (by omega)
          case measure => simp [intOf]; omega
        | false =>
          have Hne : Hid (decide (A = B) = false) := hid (decide_eq_false fun h => (of_decide_eq_false Hd.out.symm) (by
            have h1 := Hpk.out
            rw [h] at h1
            exact Option.some.inj (h1.symm.trans Hqk.out)))
          go_wp2
          go_ret
          exact ⟨by rw [Hne.out]; rfl, Hx1.out⟩
      · have Heq : Hid (decide (A = B) = true) := hid (decide_eq_true (ext_take Hl.out fun j hj => Hp.out j (by omega)))
        obtain rfl : k = A.length := by omega
        go_wp2
        go_ret
        exact ⟨by rw [Heq.out]; rfl, Hx.out⟩
  · have e0 : ((A.length : Int) != (B.length : Int)) = true := bne_iff_ne.2 (fun h => hl (Int.ofNat_inj.1 h))
    have Hne : Hid (decide (A = B) = false) := hid (decide_eq_false fun h => hl (by rw [h]))
    clear hl
    go_enter Tryz.func37, Tryz.ntmps37
    go_wp2
    go_ret
    exact ⟨by rw [Hne.out]; rfl, Ext.refl _⟩

def fixedP : PP := ⟨[⟨#[97]⟩, ⟨#[98]⟩], [], [⟨⟨#[97, 100, 100, 114]⟩, 0, 1, []⟩, ⟨⟨#[99, 111, 112, 121]⟩, 1, 0, []⟩]⟩
theorem fixed_well : fixedP.Well := by
  refine ⟨by decide +kernel, fun j t hj ht => ?_⟩
  have hj2 : j < 2 := hj
  rcases (by omega : j = 0 ∨ j = 1) with rfl | rfl
  · obtain rfl := Option.some.inj ht
    decide +kernel
  · obtain rfl := Option.some.inj ht
    decide +kernel
theorem fixed_least : LeastAt fixedP 2 [[1], [1]] := by
  refine ⟨by decide +kernel, by decide +kernel, fun m hm => ?_⟩
  rcases (by omega : m = 0 ∨ m = 1) with rfl | rfl <;> decide +kernel
theorem fixed_nodes : fixedP.nodesV = 2 := by decide +kernel
def fixedS : Array Value := #[.string ⟨#[97, 100, 100, 114]⟩, .int .i64 0, .int .i64 1, .slice none 0 0, .string ⟨#[99, 111, 112, 121]⟩, .int .i64 1, .int .i64 0, .slice none 0 0]
theorem fixed_prog {w : World} {a b n0 : Nat} (ha : Blk w a #[.string ⟨#[97]⟩, .string ⟨#[98]⟩] 9) (hb : Blk w b fixedS 48) (h1 : a < n0) (h2 : b < n0) : ProgR w n0 (.slice (some ⟨a, 0, none⟩) 2 2) (.slice none 0 0) (.slice (some ⟨b, 0, none⟩) 2 2) fixedP := by
  refine ⟨⟨_, 2, rfl, by decide, by decide, fun _ => ⟨_, rfl⟩, fun y hy _ => ?_⟩, ⟨_, 0, rfl, by decide, by decide, fun h => absurd h (by decide), fun y hy => by cases hy⟩, ⟨_, 2, rfl, by decide, by decide, fun _ => ⟨_, rfl⟩, fun y hy _ => ?_⟩⟩
  · obtain rfl := Option.some.inj hy
    refine ⟨h1, fun i hi s hs => ?_⟩
    have hi2 : i < 2 := hi
    rcases (by omega : i = 0 ∨ i = 1) with rfl | rfl
    · obtain rfl := Option.some.inj hs
      exact ha.av 0 rfl
    · obtain rfl := Option.some.inj hs
      exact ha.av 1 rfl
  · obtain rfl := Option.some.inj hy
    refine ⟨h2, fun i hi s hs => ?_⟩
    have hi2 : i < 2 := hi
    have hn : IntsR w n0 (.slice none 0 0) [] := ⟨none, 0, rfl, by decide, by decide, fun h => absurd h (by decide), fun y hy => by cases hy⟩
    rcases (by omega : i = 0 ∨ i = 1) with rfl | rfl
    · obtain rfl := Option.some.inj hs
      exact ⟨.slice none 0 0, hb.av 0 rfl, hb.av 1 rfl, hb.av 2 rfl, hb.av 3 rfl, hn⟩
    · obtain rfl := Option.some.inj hs
      exact ⟨.slice none 0 0, hb.av 4 rfl, hb.av 5 rfl, hb.av 6 rfl, hb.av 7 rfl, hn⟩
set_option maxRecDepth 100000 in
set_option maxHeartbeats 3200000 in
theorem fixed_any (w : World) (ad : Nat → Addr) (hE : ErrsP w ad) (hS : ErrS w ad) : Calls Tryz.prog 26 #[] w fun e w' => e = .returned (.bool true) ∧ Ext w w' := by
  obtain ⟨W1, hW1⟩ : ∃ W1, W1 = w.alloc (.cells #[.string ⟨#[97]⟩, .string ⟨#[98]⟩] 9) := ⟨_, rfl⟩
  obtain ⟨W2, hW2⟩ : ∃ W2, W2 = W1.alloc (.cells fixedS 48) := ⟨_, rfl⟩
  obtain ⟨W3, hW3⟩ : ∃ W3, W3 = W2.alloc (.cells #[.slice (some ⟨w.heap.size, 0, none⟩) 2 2, .slice none 0 0, .slice (some ⟨w.heap.size + 1, 0, none⟩) 2 2] 39) := ⟨_, rfl⟩
  have x1 : Ext w W1 := by rw [hW1]; exact (Ext.refl _).alloc _
  have x2 : Ext W1 W2 := by rw [hW2]; exact (Ext.refl _).alloc _
  have x3 : Ext W2 W3 := by rw [hW3]; exact (Ext.refl _).alloc _
  have s1 : W1.heap.size = w.heap.size + 1 := by rw [hW1, heap_size_alloc]
  have s2 : W2.heap.size = w.heap.size + 2 := by rw [hW2, heap_size_alloc, s1]
  have s3 : W3.heap.size = w.heap.size + 3 := by rw [hW3, heap_size_alloc, s2]
  have bA : Blk W1 w.heap.size #[.string ⟨#[97]⟩, .string ⟨#[98]⟩] 9 := by rw [hW1]; exact Blk.new _ _ _
  have bB : Blk W2 (w.heap.size + 1) fixedS 48 := by rw [hW2, ← s1]; exact Blk.new _ _ _
  have hP := fixed_prog (n0 := W3.heap.size) (bA.ext (x2.trans x3)) (bB.ext x3) (by omega) (by omega)
  have xx : Ext w W3 := x1.trans (x2.trans x3)
  have HD := hid (fixleast_ok _ _ _ 2 0 2 fixedP W3 ad ⟨hE.ext xx, hP, fun s hs => by rcases (by simpa [fixedP] using hs : s = ⟨#[97]⟩ ∨ s = ⟨#[98]⟩) with rfl | rfl <;> decide, fun s hs => by simp [PP.names, fixedP] at hs, fixed_well⟩ (hS.ext xx) 2 [[1], [1]] fixed_least)
  rw [fixed_nodes] at HD
  have HX := hid xx
  have HW3 : Hid (W3 = ((w.alloc (.cells #[.string ⟨#[97]⟩, .string ⟨#[98]⟩] 9)).alloc (.cells #[.string ⟨#[97, 100, 100, 114]⟩, .int .i64 0, .int .i64 1, .slice none 0 0, .string ⟨#[99, 111, 112, 121]⟩, .int .i64 1, .int .i64 0, .slice none 0 0] 48)).alloc (.cells #[.slice (some ⟨w.heap.size, 0, none⟩) 2 2, .slice none 0 0, .slice (some ⟨w.heap.size + 1, 0, none⟩) 2 2] 39)) := hid (by rw [hW3, hW2, hW1]; rfl)
  unfold pval at HD
  clear hE hS hW1 hW2 hW3 x1 x2 x3 s1 s2 s3 bA bB hP xx
  go_enter Tryz.func26, Tryz.ntmps26
  go_wp2_with fail
  rw [← HW3.out]
  refine HD.out.mono ?_
  intro e w5 hx
  obtain ⟨a, c, rfl, hs, hx5⟩ := hx
  obtain ⟨y, l, bl, cl, hy, hl, hc, hI⟩ := hs.at (k := 1) (by decide)
  subst hy
  obtain rfl := Option.some.inj hl
  have HX5 := hid (HX.out.trans hx5)
  have hI1 := hI.len
  obtain ⟨W6, hW6⟩ : ∃ W6, W6 = w5.alloc (.cells #[.int .i64 1] 3) := ⟨_, rfl⟩
  have hx6 : Ext w5 W6 := by rw [hW6]; exact (Ext.refl _).alloc _
  have HW6 := hid hW6
  have HC := hid (sameints_any bl (some ⟨w5.heap.size, 0, none⟩) 1 1 cl 1 [1] [1] W6 (IntsR.ints (hI.old (hx6.old _)) (setok_few (by decide))) (IntsR.ints (n0 := W6.heap.size) (IntsR.blk (l := [1]) (by rw [hW6]; exact Blk.new w5 #[.int .i64 1] 3) rfl (by simp)) (setok_few (by decide))) (by decide) (by decide))
  rw [decide_eq_true rfl] at HC
  have HX6 := hid (HX5.out.trans hx6)
  have hc1 : w5.cell? ⟨y.block, y.off + 1, none⟩ = some (.slice bl 1 cl) := by rw [← add_posU y 1 (by omega)]; exact hc
  clear HD hs hx5 hI hI1 hl hx6 hW6 hc
  go_wp2_with fail
  rw [← HW6.out]
  refine HC.out.mono ?_
  intro e w7 hx
  obtain ⟨rfl, hx7⟩ := hx
  have HX7 := hid (HX6.out.trans hx7)
  clear HC hx7 hc1
  go_wp2
  go_ret
  exact ⟨rfl, HX7.out⟩
end Go.Proofs.YtoaoienfggjepaaGreatDoor



/- The reference's least answer, walked. -/
namespace Go.Proofs.YtoaoienfggjepaaGreatDoor
set_option linter.unusedSimpArgs false
set_option linter.unusedVariables false
open Go Go.RowKit

set_option maxRecDepth 100000 in
set_option maxHeartbeats 3200000 in
theorem rleastof_any (a1 a2 a3 : Option Addr) (c1 c2 c3 : Nat) (P : PP) (w : World) (h : ProgR w w.heap.size (.slice a1 P.vars.length c1) (.slice a2 P.funs.length c2) (.slice a3 P.stmts.length c3) P) (hw : P.Well) (n : Nat) (S : List (List Int)) (hL : LeastAt P n S) :
    Calls Tryz.prog 36 #[pval a1 a2 a3 c1 c2 c3 P] w fun e w' => ∃ a c, e = .returned (.tuple #[.slice a P.nodesV c, .int .i64 (n : Int)]) ∧ SetsR w' w'.heap.size (.slice a P.nodesV c) S ∧ Ext w w' := by
  have Hw := hid hw
  have HLe := hid hL
  have hn12 := hL.few hw
  obtain ⟨hf1, hf2, hf3⟩ := hw.few
  obtain ⟨W, hW⟩ : ∃ W, W = w.alloc (.cells (pcells a1 a2 a3 c1 c2 c3 P) 39) := ⟨_, rfl⟩
  have HX : Hid (Ext w W) := hid (by rw [hW]; exact (Ext.refl _).alloc _)
  have HBx : Hid (Blk W w.heap.size (pcells a1 a2 a3 c1 c2 c3 P) 39) := hid (by rw [hW]; exact Blk.new _ _ _)
  have HWe : Hid (W = w.alloc (.cells #[.slice a1 P.vars.length c1, .slice a2 P.funs.length c2, .slice a3 P.stmts.length c3] 39)) := hid (by rw [hW]; rfl)
  have HNo := fun w1 (x : Ext w w1) => hid (rnodesof_any a1 a2 a3 c1 c2 c3 P w1 w.heap.size (h.ext x) (by omega) (by omega))
  have HPR := hid h
  have hN6 := nodesV_le P hw
  have HRo := fun w1 (x : Ext w w1) hv has (hh : SetsR w1 w1.heap.size hv has) (hg : P.GoodS has) => hid (rroundof_any a1 a2 a3 c1 c2 c3 P hv has w1 w1.heap.size ((HPR.out.ext x).lift x.size) hg hh (Nat.le_refl _))
  have HGd := fun k => hid (iterV_good hw k)
  obtain ⟨N, hN⟩ : ∃ N, N = P.nodesV := ⟨_, rfl⟩
  rw [← hN] at HNo hN6 ⊢
  have HN := hid hN
  have d0 := HBx.out.av 0 rfl
  have d1 := HBx.out.av 1 rfl
  have d2 := HBx.out.av 2 rfl
  simp only [pcells, List.getElem_toArray, List.getElem_cons_zero, List.getElem_cons_succ] at d0 d1 d2
  rw [HWe.out] at d0 d1 d2
  unfold pval at HNo HRo ⊢
  have HN1 := HNo W HX.out
  clear hW h hw hL hN HNo
  go_enter Tryz.func36, Tryz.ntmps36
  go_wp2_with fail
  rw [← HWe.out]
  refine HN1.out.mono ?_
  intro e w2 hx
  obtain ⟨rfl, hx2⟩ := hx
  have Hx2 := hid hx2
  obtain ⟨bi, hbi, hbz, hbs, hbb⟩ := info_parts rows_info
  clear HN1 hx2 d0 d1 d2
  go_wp2_with (at_make; refine wpList_make_full w2 rfl _ _ _ rfl w2.heap.size 22 bi (.slice none 0 0) 1 Tryz.underlying44 hbi hbz hbs .i64 .i64 (N : Int) (N : Int) N rfl rfl rfl rfl (by rw [hbb]; omega) (by unfold maxLen; omega) (Nat.le_refl _) ?_; intro w3 hrow hgr)
  have hx3 : Ext w2 w3 := Keep.new (Ext.refl w2) (grown_keep hgr) (fun k hk => by cases hk)
  rw [show (Value.slice none 0 0).cells = #[Value.slice none 0 0] from rfl, toList_madeCells_one, Nat.mul_one] at hrow
  have Hx3 := hid (Hx2.out.trans hx3)
  have HS0 : Hid (SetsR w3 w3.heap.size (.slice (some ⟨w2.heap.size, 0, none⟩) N N) (P.iterV 0)) := hid (by
    have h1 := SetsR.made (v := .slice (some ⟨w2.heap.size, 0, none⟩) N N) (L := List.replicate N []) (by rw [List.length_replicate]; exact hrow) (made_nil w3 N)
    have e0 : P.iterV 0 = List.replicate N [] := by rw [HN.out]; rfl
    exact e0 ▸ h1)
  clear hrow hgr hx3 hbi hbz hbs hbb
  go_wp2
  go_loopw [4, 5] (fun t6 t7 wr => ∃ (k : Nat) (a : Option Addr) (c : Nat), t7 = .int .i64 (k : Int) ∧ t6 = .slice a N c ∧ k ≤ n ∧ SetsR wr wr.heap.size (.slice a N c) (P.iterV k) ∧ Ext W wr) (fun _ t7 _ => 200000 - (intOf t7).toNat)
  case atStart => exact ⟨0, _, _, rfl, rfl, Nat.zero_le _, HS0.out, Hx3.out⟩
  case round =>
    clear HS0 Hx3
    obtain ⟨k, a, c, rfl, rfl, hk, hs, hx⟩ := hrel
    have Hx := hid hx
    have Hs := hid hs
    have hlen : (P.iterV k).length = N := by rw [HN.out]; exact (HGd k).out.2.1
    have HC := HRo wr (HX.out.trans hx) (.slice a N c) (P.iterV k) hs (HGd k).out
    have d0 := (HBx.out.ext hx).av 0 rfl
    have d1 := (HBx.out.ext hx).av 1 rfl
    have d2 := (HBx.out.ext hx).av 2 rfl
    simp only [pcells, List.getElem_toArray, List.getElem_cons_zero, List.getElem_cons_succ] at d0 d1 d2
    rw [hlen] at HC
    clear hs hx hlen HRo
    go_wp2_with fail
    refine HC.out.mono ?_
    intro e w5 hx
    obtain ⟨a5, c5, rfl, hs5, hx5⟩ := hx
    have Hx5 := hid (Hx.out.trans hx5)
    have Hs5 := hid hs5
    have Hso := hid ((Hs.out.ext hx5).lift hx5.size)
    have HSm := hid (samesets_any (.slice a5 N c5) (.slice a N c) (P.roundV (P.iterV k)) (P.iterV k) w5 w5.heap.size hs5 ((Hs.out.ext hx5).lift hx5.size) (fun l hl => ((HGd (k + 1)).out.ok.ok l hl).1) (fun l hl => ((HGd k).out.ok.ok l hl).1))
    obtain ⟨d, hd⟩ : ∃ d, d = decide (P.roundV (P.iterV k) = P.iterV k) := ⟨_, rfl⟩
    rw [← hd] at HSm
    have Hd := hid hd
    clear HC hs5 hx5 d0 d1 d2 hd
    go_wp2_with fail
    refine HSm.out.mono ?_
    intro e w6 hx
    obtain ⟨rfl, hx6⟩ := hx
    have Hx6 := hid (Hx5.out.trans hx6)
    have Hs6 := hid ((Hs5.out.ext hx6).lift hx6.size)
    have Hso6 := hid ((Hso.out.ext hx6).lift hx6.size)
    clear HSm
    cases d with
    | true =>
      have hfix : P.roundV (P.iterV k) = P.iterV k := of_decide_eq_true Hd.out.symm
      have hkn : k = n := by
        rcases Nat.lt_or_ge k n with g | g
        · exact absurd hfix (HLe.out.first k g)
        · omega
      subst hkn
      have HF : Hid (SetsR w6 w6.heap.size (.slice a N c) S) := hid (by
        rw [HLe.out.eq]
        exact Hso6.out)
      clear hx6 hfix
      go_wp2
      refine bodyPost_ret (v := .tuple #[.slice a N c, .int .i64 (k : Int)]) (by simp [results, Tryz.results36, go_sem]) rfl ?_
      exact ⟨a, c, rfl, HF.out, HX.out.trans Hx6.out⟩
    | false =>
      have hne : P.roundV (P.iterV k) ≠ P.iterV k := of_decide_eq_false Hd.out.symm
      have hkn : k < n := by
        rcases Nat.lt_or_ge k n with g | g
        · exact g
        · obtain rfl : k = n := by omega
          exact absurd (by rw [← HLe.out.eq]; exact HLe.out.fix) hne
      have Hs7 : Hid (SetsR w6 w6.heap.size (.slice a5 N c5) (P.iterV (k + 1))) := hid Hs6.out
      clear hx6 hne
      go_wp2
      go_roundw
      case rel => exact ⟨k + 1, a5, c5, by go_num, rfl, by omega, Hs7.out, Hx6.out⟩
      case measure => simp [intOf]; omega
end Go.Proofs.YtoaoienfggjepaaGreatDoor



/- The reference: what sets are wrong in (SetsFault). -/
namespace Go.Proofs.YtoaoienfggjepaaGreatDoor
set_option linter.unusedSimpArgs false
set_option linter.unusedVariables false
open Go Go.RowKit

/-- What sets are wrong in, in numbers. -/
def SFaultIs (P : PP) (has : List (List Int)) (c : Nat) (p : Int) : Prop :=
  (has.length ≠ P.nodesV ∧ c = 3 ∧ p = -1) ∨ (has.length = P.nodesV ∧ (∀ l ∈ has, P.setE l = 0) ∧ c = 0 ∧ p = -1) ∨
  (has.length = P.nodesV ∧ ∃ (i : Nat) (l : List Int), has[i]? = some l ∧ P.setE l ≠ 0 ∧ (∀ j m, j < i → has[j]? = some m → P.setE m = 0) ∧ c = P.setE l ∧ p = (i : Int))
theorem setE_two {P : PP} {l : List Int} (h : chkE l = 0) {x : Int} (hx : x ∈ l) (hm : (P.objectsV : Int) ≤ x) : P.setE l = 2 := by
  have h0 : P.setE l ≠ 0 := fun e => by have := (setE_zero e).2 x hx; omega
  unfold PP.setE at h0 ⊢
  rw [if_pos h] at h0 ⊢
  by_cases hb : 0 < l.length ∧ (P.objectsV : Int) ≤ l.getD (l.length - 1) 0
  · rw [if_pos hb]
  · rw [if_neg hb] at h0; exact absurd rfl h0
theorem setE_chk {P : PP} {l : List Int} (h : chkE l ≠ 0) : P.setE l = chkE l := by unfold PP.setE; rw [if_neg h]
/-- How far the reference is with one set. -/
def SStep (P : PP) (l : List Int) (k e : Nat) : Prop := (e = chkE l ∧ chkE l ≠ 0 ∧ k = 0) ∨ (chkE l = 0 ∧ ((e = 0 ∧ ∀ x ∈ l.take k, x < (P.objectsV : Int)) ∨ (e = 2 ∧ ∃ x ∈ l, (P.objectsV : Int) ≤ x)))
theorem SStep.end {P : PP} {l : List Int} {k e : Nat} (h : SStep P l k e) (hk : e ≠ 0 ∨ k = l.length) : P.setE l = e := by
  rcases h with ⟨rfl, h2, _⟩ | ⟨h1, ⟨rfl, h3⟩ | ⟨rfl, x, hx, hm⟩⟩
  · exact setE_chk h2
  · rcases hk with hk | hk
    · exact absurd rfl hk
    · refine setE_of h1 fun x hx => h3 x ?_
      rw [hk, List.take_length]; exact hx
  · exact setE_two h1 hx hm
set_option maxRecDepth 100000 in
set_option maxHeartbeats 3200000 in
theorem rsetsfault_any (a1 a2 a3 : Option Addr) (c1 c2 c3 : Nat) (P : PP) (hv : Value) (has : List (List Int)) (w : World) (n0 : Nat) (h : ProgR w n0 (.slice a1 P.vars.length c1) (.slice a2 P.funs.length c2) (.slice a3 P.stmts.length c3) P) (hw : P.Well) (hh : SetsR w n0 hv has) :
    Calls Tryz.prog 38 #[pval a1 a2 a3 c1 c2 c3 P, hv] w fun e w' => ∃ (c : Nat) (p : Int), e = .returned (.agg #[.int .i64 (c : Int), .int .i64 p]) ∧ SFaultIs P has c p ∧ Ext w w' := by
  obtain ⟨ah, ch, rfl⟩ := hh.form
  have hhl := hh.len
  obtain ⟨hf1, hf2, hf3⟩ := hw.few
  have hM6 := objects_few hw
  have hN6 := nodesV_le P hw
  obtain ⟨W1, hW1⟩ : ∃ W1, W1 = w.alloc (.cells (pcells a1 a2 a3 c1 c2 c3 P) 39) := ⟨_, rfl⟩
  have hx1 : Ext w W1 := by rw [hW1]; exact (Ext.refl _).alloc _
  obtain ⟨W, hW⟩ : ∃ W, W = W1.alloc (.cells #[.int .i64 0, .int .i64 0] 63) := ⟨_, rfl⟩
  have hx2 : Ext W1 W := by rw [hW]; exact (Ext.refl _).alloc _
  have s1 : W1.heap.size = w.heap.size + 1 := by rw [hW1, heap_size_alloc]
  have HX := hid (hx1.trans hx2)
  have HBx : Hid (Blk W w.heap.size (pcells a1 a2 a3 c1 c2 c3 P) 39) := hid (by
    have : Blk W1 w.heap.size (pcells a1 a2 a3 c1 c2 c3 P) 39 := by rw [hW1]; exact Blk.new _ _ _
    exact this.ext hx2)
  have HBz : Hid (Blk W (w.heap.size + 1) #[.int .i64 0, .int .i64 0] 63) := hid (by rw [← s1, hW]; exact Blk.new _ _ _)
  have HWe : Hid (W = (w.alloc (.cells #[.slice a1 P.vars.length c1, .slice a2 P.funs.length c2, .slice a3 P.stmts.length c3] 39)).alloc (.cells #[.int .i64 0, .int .i64 0] 63)) := hid (by rw [hW, hW1]; rfl)
  have HNo := fun w1 (x : Ext w w1) => hid (rnodesof_any a1 a2 a3 c1 c2 c3 P w1 n0 (h.ext x) (by omega) (by omega))
  have HH := hid (hh.ext HX.out)
  have HMe : Hid (P.objectsV = P.nodesV + P.funs.length) := hid rfl
  obtain ⟨N, hN⟩ : ∃ N, N = P.nodesV := ⟨_, rfl⟩
  rw [← hN] at HNo hN6
  have HN := hid hN
  have d0 := HBx.out.av 0 rfl
  have d1 := HBx.out.av 1 rfl
  have d2 := HBx.out.av 2 rfl
  simp only [pcells, List.getElem_toArray, List.getElem_cons_zero, List.getElem_cons_succ] at d0 d1 d2
  rw [HWe.out] at d0 d1 d2
  unfold pval at HNo ⊢
  clear h hw hh hW1 hW hx1 hx2 s1 hN
  have HN1 := HNo W HX.out
  go_enter Tryz.func38, Tryz.ntmps38
  go_wp2_with fail
  rw [← HWe.out]
  refine HN1.out.mono ?_
  intro e w1 hx
  obtain ⟨rfl, hx1⟩ := hx
  have Hx1 := hid hx1
  clear HN1 hx1 d0 d1 d2
  by_cases hlen : has.length = N
  · have Hlen : Hid (has.length = P.nodesV) := hid (by rw [← HN.out]; exact hlen)
    have e0 : ((has.length : Int) != (N : Int)) = false := by rw [hlen]; simp
    have d0 := (HBx.out.ext Hx1.out).kc (X := fun _ => False) (fun e => e) 0 rfl
    have d1 := (HBx.out.ext Hx1.out).kc (X := fun _ => False) (fun e => e) 1 rfl
    have d2 := (HBx.out.ext Hx1.out).kc (X := fun _ => False) (fun e => e) 2 rfl
    simp only [pcells, List.getElem_toArray, List.getElem_cons_zero, List.getElem_cons_succ] at d0 d1 d2
    have HN2 := fun w2 (x : Ext w1 w2) => HNo w2 (HX.out.trans (Hx1.out.trans x))
    clear HNo hlen
    go_wp2
    clear e0
    refine wp_flowT (fun _ => False) (by kernel_rfl) (by kernel_rfl) ?_
    repeat (apply FlowT.d; (intro w1 hk; unfold does; go_simp; (try go_ints); (first | exact DetR.mk | (simp only [↓IntWalk.iteOmega, Oper.doesUpon_value]; exact DetR.mk) | (simp only [↓IntWalk.iteOmega]; go_simp; (try go_ints); exact DetR.mk))); simp only [Act.put, List.setIfInBounds_toArray, List.set_cons_zero, List.set_cons_succ])
    apply FlowT.d
    · intro w1 hk
      unfold does
      go_simp
      exact CallR.det ((HN2 w1 hk.ext).out)
    simp only [Act.put, List.setIfInBounds_toArray, List.set_cons_zero, List.set_cons_succ]
    repeat (apply FlowT.d; (intro w1 hk; unfold does; go_simp; (try go_ints); (first | exact DetR.mk | (simp only [↓IntWalk.iteOmega, Oper.doesUpon_value]; exact DetR.mk) | (simp only [↓IntWalk.iteOmega]; go_simp; (try go_ints); exact DetR.mk))); simp only [Act.put, List.setIfInBounds_toArray, List.set_cons_zero, List.set_cons_succ])
    refine FlowT.fin fun w2 hx2 hk2 => ?_
    have Hx2 := hid (Hx1.out.trans hx2)
    clear hx2 hk2 d0 d1 d2 HN2
    have hMM : ((N : Int) + (P.funs.length : Int)) = (P.objectsV : Int) := by rw [HMe.out, ← HN.out]; omega
    try rw [hMM]
    obtain ⟨M, hM⟩ : ∃ M, M = P.objectsV := ⟨_, rfl⟩
    try rw [← hM]
    rw [← hM] at hM6
    have HM := hid hM
    clear hMM hM
    go_wp2
    go_loopw [6] (fun t6 wr => ∃ k : Nat, t6 = .int .i64 (k : Int) ∧ k ≤ has.length ∧ (∀ j m, j < k → has[j]? = some m → P.setE m = 0) ∧ Ext W wr) (fun t6 _ => has.length - (intOf t6).toNat)
    case atStart => exact ⟨0, rfl, Nat.zero_le _, fun j m h => by omega, Hx2.out⟩
    case round =>
      obtain ⟨k, rfl, hk, hp, hx⟩ := hrel
      have Hp := hid hp
      have Hx := hid hx
      clear hp hx
      by_cases hlt : k < has.length
      · obtain ⟨y, l, bl, cl, hya, hl, hc, hI⟩ := (HH.out.ext Hx.out).at hlt
        subst hya
        have HCk := hid (rseterror_any (.slice bl l.length cl) l wr n0 hI)
        have Hl := hid hl
        have HI := hid hI
        have Hc := hid hc
        have hll := hI.len
        obtain ⟨c, hcd⟩ : ∃ c, c = chkE l := ⟨_, rfl⟩
        rw [← hcd] at HCk
        have Hcd := hid hcd
        have hc10 : c ≤ 10 := by rw [hcd]; exact chkE_le l
        clear hl hI hcd
        go_wp2_with fail
        refine HCk.out.mono ?_
        intro e w3 hx
        obtain ⟨rfl, hx3⟩ := hx
        have Hx3 := hid (Hx.out.trans hx3)
        have Hx3r := hid hx3
        clear HCk hx3 hc
        go_wp2
        go_loopw [7, 8] (fun t7 t8 wq => ∃ (q e : Nat), t8 = .int .i64 (q : Int) ∧ t7 = .int .i64 (e : Int) ∧ q ≤ l.length ∧ e ≤ 10 ∧ SStep P l q e ∧ Ext w3 wq) (fun _ t8 _ => l.length - (intOf t8).toNat)
        case atStart =>
          refine ⟨0, c, rfl, rfl, Nat.zero_le _, hc10, ?_, Ext.refl _⟩
          by_cases h0 : chkE l = 0
          · exact .inr ⟨h0, .inl ⟨Hcd.out.trans h0, fun x hx => by simp at hx⟩⟩
          · exact .inl ⟨Hcd.out, h0, rfl⟩
        case round =>
          obtain ⟨q, e, rfl, rfl, hq, he10, hs, hx⟩ := hrel
          have Hs := hid hs
          have HxQ := hid hx
          clear hs hx
          have cc := (Hx3r.out.trans HxQ.out).cellx Hc.out
          by_cases hql : q < l.length
          · by_cases he : e = 0
            · subst he
              obtain ⟨yl, o, hyl, ho, hco⟩ := (HI.out.old ((Hx3r.out.trans HxQ.out).old n0)).at hql
              subst hyl
              have Ho := hid ho
              have Hck : Hid (chkE l = 0 ∧ ∀ x ∈ l.take q, x < (P.objectsV : Int)) := hid (by
                rcases Hs.out with ⟨h1, h2, _⟩ | ⟨h1, ⟨_, h3⟩ | ⟨h3, _⟩⟩
                · exact absurd h1.symm h2
                · exact ⟨h1, h3⟩
                · cases h3)
              clear ho
              by_cases hoM : (M : Int) ≤ o
              · have Hn : Hid (SStep P l (q + 1) 2) := hid (.inr ⟨Hck.out.1, .inr ⟨rfl, o, List.mem_of_getElem? Ho.out, by rw [← HM.out]; exact hoM⟩⟩)
                go_wp2
                go_roundw
                case rel => exact ⟨q + 1, 2, by go_num, rfl, by omega, by omega, Hn.out, HxQ.out⟩
                case measure => simp [intOf]; omega
              · have Hn : Hid (SStep P l (q + 1) 0) := hid (.inr ⟨Hck.out.1, .inl ⟨rfl, fun x hx => by
                  rw [List.take_add_one, Ho.out] at hx
                  rcases List.mem_append.1 hx with hx | hx
                  · exact Hck.out.2 x hx
                  · obtain rfl : x = o := by simpa using hx
                    rw [← HM.out]; omega⟩⟩)
                go_wp2
                go_roundw
                case rel => exact ⟨q + 1, 0, by go_num, rfl, by omega, by omega, Hn.out, HxQ.out⟩
                case measure => simp [intOf]; omega
            · have Hend : Hid (P.setE l = e) := hid (Hs.out.end (.inl he))
              have he1 : ((e : Int) == 0) = false := beq_eq_false_iff_ne.2 (by omega)
              have he2 : 0 < (e : Int) := by omega
              have Hbad : Hid (SFaultIs P has e (k : Int)) := hid (.inr (.inr ⟨Hlen.out, k, l, Hl.out, by rw [Hend.out]; exact he, Hp.out, Hend.out.symm, rfl⟩))
              have HxE := hid (Hx3.out.trans HxQ.out)
              clear he
              have hz := HBz.out.ext HxE.out
              have y0 := (two (v0 := .int .i64 (e : Int)) (v1 := .int .i64 (k : Int)) hz).av 0 rfl
              have y1 := (two (v0 := .int .i64 (e : Int)) (v1 := .int .i64 (k : Int)) hz).av 1 rfl
              have z0 := hz.av 0 rfl
              have z1 := hz.av 1 rfl
              have g0 := hz.free 0
              have g1 := hz.free 1
              have hxe := Keep.new (HX.out.trans HxE.out) (two_keep _ (w.heap.size + 1) (.int .i64 (e : Int)) (.int .i64 (k : Int))) fun b e => by omega
              simp only [List.getElem_toArray, List.getElem_cons_zero, List.getElem_cons_succ] at z0 z1 y0 y1
              have Hxe := hid hxe
              clear hz hxe
              go_wp2
              refine bodyPost_ret (v := .agg #[.int .i64 (e : Int), .int .i64 (k : Int)]) ?_ rfl ?_
              · simp [results, Tryz.results38, go_sem, y0, y1]
              exact ⟨_, _, rfl, Hbad.out, Hxe.out⟩
          · obtain rfl : q = l.length := by omega
            have Hend : Hid (P.setE l = e) := hid (Hs.out.end (.inr rfl))
            have HxE := hid (Hx3.out.trans HxQ.out)
            by_cases he : e = 0
            · subst he
              go_wp2
              go_roundw
              case rel =>
                refine ⟨k + 1, by go_num, by omega, fun j m hj hm => ?_, HxE.out⟩
                by_cases hjk : j = k
                · subst hjk
                  obtain rfl := Option.some.inj (Hl.out.symm.trans hm)
                  exact Hend.out
                · exact Hp.out j m (by omega) hm
              case measure => simp [intOf]; omega
            · have he2 : 0 < (e : Int) := by omega
              have Hbad : Hid (SFaultIs P has e (k : Int)) := hid (.inr (.inr ⟨Hlen.out, k, l, Hl.out, by rw [Hend.out]; exact he, Hp.out, Hend.out.symm, rfl⟩))
              clear he
              have hz := HBz.out.ext HxE.out
              have y0 := (two (v0 := .int .i64 (e : Int)) (v1 := .int .i64 (k : Int)) hz).av 0 rfl
              have y1 := (two (v0 := .int .i64 (e : Int)) (v1 := .int .i64 (k : Int)) hz).av 1 rfl
              have z0 := hz.av 0 rfl
              have z1 := hz.av 1 rfl
              have g0 := hz.free 0
              have g1 := hz.free 1
              have hxe := Keep.new (HX.out.trans HxE.out) (two_keep _ (w.heap.size + 1) (.int .i64 (e : Int)) (.int .i64 (k : Int))) fun b e => by omega
              simp only [List.getElem_toArray, List.getElem_cons_zero, List.getElem_cons_succ] at z0 z1 y0 y1
              have Hxe := hid hxe
              clear hz hxe
              go_wp2
              refine bodyPost_ret (v := .agg #[.int .i64 (e : Int), .int .i64 (k : Int)]) ?_ rfl ?_
              · simp [results, Tryz.results38, go_sem, y0, y1]
              exact ⟨_, _, rfl, Hbad.out, Hxe.out⟩
      · obtain rfl : k = has.length := by omega
        have Hall : Hid (SFaultIs P has 0 (-1)) := hid (.inr (.inl ⟨Hlen.out, fun l hl => by
          obtain ⟨j, hj, e⟩ := List.mem_iff_getElem.1 hl
          exact Hp.out j l hj (by rw [List.getElem?_eq_getElem hj, e]), rfl, rfl⟩))
        have HF := hid (rfine_any wr)
        go_wp2_with fail
        refine HF.out.mono ?_
        intro e w4 hx
        obtain ⟨rfl, hx4⟩ := hx
        have HxE := hid (Hx.out.trans hx4)
        clear HF hx4
        have hz := HBz.out.ext HxE.out
        have y0 := (two (v0 := .int .i64 0) (v1 := .int .i64 (-1)) hz).av 0 rfl
        have y1 := (two (v0 := .int .i64 0) (v1 := .int .i64 (-1)) hz).av 1 rfl
        have z0 := hz.av 0 rfl
        have z1 := hz.av 1 rfl
        have g0 := hz.free 0
        have g1 := hz.free 1
        have hxe := Keep.new (HX.out.trans HxE.out) (two_keep _ (w.heap.size + 1) (.int .i64 0) (.int .i64 (-1))) fun b e => by omega
        simp only [List.getElem_toArray, List.getElem_cons_zero, List.getElem_cons_succ] at z0 z1 y0 y1
        have Hxe := hid hxe
        clear hz hxe
        go_wp2
        refine bodyPost_ret (v := .agg #[.int .i64 0, .int .i64 (-1)]) ?_ rfl ?_
        · simp [results, Tryz.results38, go_sem, y0, y1]
        exact ⟨_, _, rfl, Hall.out, Hxe.out⟩
  · have Hbad : Hid (SFaultIs P has 3 (-1)) := hid (.inl ⟨by rw [← HN.out]; exact hlen, rfl, rfl⟩)
    have e0 : ((has.length : Int) != (N : Int)) = true := bne_iff_ne.2 (by omega)
    have HF := hid (rbare_any 3 w1)
    clear hlen HNo
    go_wp2_with fail
    refine HF.out.mono ?_
    intro e w4 hx
    obtain ⟨rfl, hx4⟩ := hx
    have HxE := hid (Hx1.out.trans hx4)
    clear HF hx4 e0
    have hz := HBz.out.ext HxE.out
    have y0 := (two (v0 := .int .i64 3) (v1 := .int .i64 (-1)) hz).av 0 rfl
    have y1 := (two (v0 := .int .i64 3) (v1 := .int .i64 (-1)) hz).av 1 rfl
    have z0 := hz.av 0 rfl
    have z1 := hz.av 1 rfl
    have g0 := hz.free 0
    have g1 := hz.free 1
    have hxe := Keep.new (HX.out.trans HxE.out) (two_keep _ (w.heap.size + 1) (.int .i64 3) (.int .i64 (-1))) fun b e => by omega
    simp only [List.getElem_toArray, List.getElem_cons_zero, List.getElem_cons_succ] at z0 z1 y0 y1
    have Hxe := hid hxe
    clear hz hxe
    go_wp2
    refine bodyPost_ret (v := .agg #[.int .i64 3, .int .i64 (-1)]) ?_ rfl ?_
    · simp [results, Tryz.results38, go_sem, y0, y1]
    exact ⟨_, _, rfl, Hbad.out, Hxe.out⟩
end Go.Proofs.YtoaoienfggjepaaGreatDoor



/- ObjectOf of the reference. -/
namespace Go.Proofs.YtoaoienfggjepaaGreatDoor
set_option linter.unusedSimpArgs false
set_option linter.unusedVariables false
open Go Go.RowKit

def vkVar : List UInt8 := [118, 97, 114]
def vkThing : List UInt8 := [116, 104, 105, 110, 103]
def vkFun : List UInt8 := [102, 117, 110]
def PP.objV (P : PP) (pl : List Int) (k : List UInt8) (n : Int) : Int :=
  bif k == vkVar then (if 0 ≤ n ∧ n < P.vars.length then n else -1) else
  bif k == vkThing then (if 0 ≤ n ∧ n < pl.length then P.placeV (pl.getD n.toNat 0) else -1) else
  bif k == vkFun then (if 0 ≤ n ∧ n < P.funs.length then (P.nodesV : Int) + n else -1) else -1
theorem PP.nodesV_le (P : PP) : P.nodesV ≤ P.vars.length + P.stmts.length := by
  unfold PP.nodesV
  have := P.newsN_le P.stmts.length
  omega

end Go.Proofs.YtoaoienfggjepaaGreatDoor



/- run.Object. -/
namespace Go.Proofs.YtoaoienfggjepaaGreatDoor
set_option linter.unusedSimpArgs false
set_option linter.unusedVariables false
open Go Go.RowKit

end Go.Proofs.YtoaoienfggjepaaGreatDoor



/- sameState. -/
namespace Go.Proofs.YtoaoienfggjepaaGreatDoor
set_option linter.unusedSimpArgs false
set_option linter.unusedVariables false
open Go Go.RowKit

end Go.Proofs.YtoaoienfggjepaaGreatDoor

