
/- RingPlays walked: where the peer's mark is false and the token's true. -/
import Derived.Test.YtcfopaopcbjkeaaDoorGD
namespace Go.Proofs.YtcfopaopcbjkeaaDoor
set_option linter.unusedSimpArgs false
set_option linter.unusedVariables false
open Go Go.RowKit

set_option maxRecDepth 100000 in
set_option maxHeartbeats 3200000 in
theorem rpF_bad (n : Int) (a : Option Addr) (len cap : Nat) (pc tc : Int) (w : World) (ad : Nat → Addr) (h : AllErrs w ad) (hl : len ≤ 300)
    (p0 : pc ≤ 1152921504606846976) (p1 : -1152921504606846976 ≤ pc) (t0 : tc ≤ 1152921504606846976) (t1 : -1152921504606846976 ≤ tc) (hn : n < 2 ∨ 6 < n) :
    Calls Tryd.prog 5 (rpArgs n a len cap pc tc false true) w fun e w' => e = .returned (.bool true) ∧ Ext w w' := by
  have HB := fun w1 (x : Ext w w1) => hid (new_bad n w1 (evOf ad) (h.errs.toErrsC.ext x) hn)
  have HC : ∀ w1, Ext w w1 → Hid (Calls Tryd.prog 24 #[evOf ad 2, .int .i64 2] w1 fun e w' => e = .returned (.bool true) ∧ Ext w1 w') := fun w1 x => hid (by
    have := coded3_any w1 ad (h.ext x) 2 (by omega) 2
    simpa [errv] using this)
  clear h
  generalize evOf ad 2 = e2 at *
  have Hn := hid hn
  clear hn
  unfold rpArgs
  have bp : ∀ w1, Ext ((w.alloc (.cells #[.int .i64 pc, .bool false] 45)).alloc (.cells #[.int .i64 tc, .bool true] 46)) w1 → Blk w1 w.heap.size #[.int .i64 pc, .bool false] 45 ∧ Blk w1 (w.heap.size + 1) #[.int .i64 tc, .bool true] 46 := fun w1 x => by
    refine ⟨((Blk.new w #[.int .i64 pc, .bool false] 45).alloc _).ext x, ?_⟩
    have := (Blk.new (w.alloc (.cells #[.int .i64 pc, .bool false] 45)) #[.int .i64 tc, .bool true] 46).ext x
    simpa using this
  have HN := fun w1 => hid (ringed_any w1)
  go_enter Tryd.func5, Tryd.ntmps5
  go_wp2_with fail
  refine (HN _).out.mono ?_
  intro e w1 hx
  obtain ⟨rfl, hext⟩ := hx
  clear HN
  obtain ⟨h1, h2⟩ := bp _ hext
  have hE := (((Ext.refl w).alloc _).alloc _).trans hext
  have c0 := h1.av 0 rfl
  have c1 := h2.av 0 rfl
  have c2 := h1.av 1 rfl
  have c3 := h2.av 1 rfl
  have HP : ∀ w1, Hid (Calls Tryd.prog 19 #[.agg #[.int .i64 pc, .bool false], .agg #[.int .i64 tc, .bool true]] w1 fun e w' => e = .returned (.tuple #[.agg #[.int .i64 pc, .bool false], .agg #[.int .i64 (pc + tc), .bool (true || false)]]) ∧ Ext w1 w') := fun w1 => hid (by rw [Int.add_comm pc tc]; exact rpass_any pc tc false true w1 (by omega) (by omega) (by omega) (by omega))
  simp only [Bool.or_false, Bool.or_true, Bool.false_or, Bool.true_or] at HP
  have HO := fun w1 => hid (over_any pc tc false true w1 (by omega) (by omega) (by omega) (by omega))
  have HS := fun w1 => hid (sent_any pc false w1 (by omega) (by omega))
  have HG := fun w1 => hid (got_any pc false w1 (by omega) (by omega))
  go_wp2_with fail
  refine (HP _).out.mono ?_
  intro e w2 hx
  obtain ⟨rfl, hx2⟩ := hx
  have h1 := h1.ext hx2
  have h2 := h2.ext hx2
  have hE := hE.trans hx2
  clear HP c0 c1 c2 c3 hx2
  have c0 := h1.av 0 rfl
  have c1 := h2.av 0 rfl
  have c2 := h1.av 1 rfl
  have c3 := h2.av 1 rfl
  have l1 := h1.lt
  have l2 := h2.lt
  have z2 : Ext w2 ((w2.alloc (.cells #[.int .i64 pc, .bool false] 45)).alloc (.cells #[.int .i64 (pc + tc), .bool (true || false)] 46)) := ((Ext.refl w2).alloc _).alloc _
  simp only [Bool.or_false, Bool.or_true, Bool.false_or, Bool.true_or] at z2
  have h1 := h1.ext z2
  have h2 := h2.ext z2
  have hE := hE.trans z2
  go_wp2
  generalize ((w2.alloc (.cells #[.int .i64 pc, .bool false] 45)).alloc (.cells #[.int .i64 (pc + tc), .bool _] 46)) = W at *
  have q0 := h1.kc (X := fun _ => False) (fun e => e) 0 rfl
  have q1 := h1.kc (X := fun _ => False) (fun e => e) 1 rfl
  have q2 := h2.kc (X := fun _ => False) (fun e => e) 0 rfl
  have q3 := h2.kc (X := fun _ => False) (fun e => e) 1 rfl
  clear c0 c1 c2 c3 l1 l2 z2 h1 h2
  refine wp_flowT (fun _ => False) (by kernel_rfl) (by kernel_rfl) ?_
  repeat (apply FlowT.d; (intro w1 hk; unfold does; go_simp; (try go_ints); (first | exact DetR.mk | (simp only [↓IntWalk.iteOmega, Oper.doesUpon_value]; exact DetR.mk) | (simp only [↓IntWalk.iteOmega]; go_simp; (try go_ints); exact DetR.mk))); simp only [Act.put, List.setIfInBounds_toArray, List.set_cons_zero, List.set_cons_succ])
  apply FlowT.d
  · intro w1 hk
    unfold does
    go_simp
    exact CallR.det ((HO w1).out)
  simp only [Act.put, List.setIfInBounds_toArray, List.set_cons_zero, List.set_cons_succ]
  repeat (apply FlowT.d; (intro w1 hk; unfold does; go_simp; (try go_ints); (first | exact DetR.mk | (simp only [↓IntWalk.iteOmega, Oper.doesUpon_value]; exact DetR.mk) | (simp only [↓IntWalk.iteOmega]; go_simp; (try go_ints); exact DetR.mk))); simp only [Act.put, List.setIfInBounds_toArray, List.set_cons_zero, List.set_cons_succ])
  apply FlowT.d
  · intro w1 hk
    unfold does
    go_simp
    exact CallR.det ((HS w1).out)
  simp only [Act.put, List.setIfInBounds_toArray, List.set_cons_zero, List.set_cons_succ]
  repeat (apply FlowT.d; (intro w1 hk; unfold does; go_simp; (try go_ints); (first | exact DetR.mk | (simp only [↓IntWalk.iteOmega, Oper.doesUpon_value]; exact DetR.mk) | (simp only [↓IntWalk.iteOmega]; go_simp; (try go_ints); exact DetR.mk))); simp only [Act.put, List.setIfInBounds_toArray, List.set_cons_zero, List.set_cons_succ])
  apply FlowT.d
  · intro w1 hk
    unfold does
    go_simp
    exact CallR.det ((HG w1).out)
  simp only [Act.put, List.setIfInBounds_toArray, List.set_cons_zero, List.set_cons_succ]
  repeat (apply FlowT.d; (intro w1 hk; unfold does; go_simp; (try go_ints); (first | exact DetR.mk | (simp only [↓IntWalk.iteOmega, Oper.doesUpon_value]; exact DetR.mk) | (simp only [↓IntWalk.iteOmega]; go_simp; (try go_ints); exact DetR.mk))); simp only [Act.put, List.setIfInBounds_toArray, List.set_cons_zero, List.set_cons_succ])
  refine FlowT.fin fun w5 hx5 hk5 => ?_
  have hE := hE.trans hx5
  clear q0 q1 q2 q3 hk5 hx5 HO HS HG
  go_wp2_with fail
  refine (HB _ hE).out.mono ?_
  intro e w6 hx
  obtain ⟨rfl, hx6⟩ := hx
  have hE := hE.trans hx6
  by_cases h2 : n < 2
  · go_wp2_with fail
    refine (HC _ hE).out.mono ?_
    intro e w7 hx
    obtain ⟨rfl, hx7⟩ := hx
    have hE := hE.trans hx7
    go_wp2
    go_ret
    exact ⟨rfl, hE⟩
  · have h6 := Hn.out.resolve_left h2
    go_wp2_with fail
    refine (HC _ hE).out.mono ?_
    intro e w7 hx
    obtain ⟨rfl, hx7⟩ := hx
    have hE := hE.trans hx7
    go_wp2
    go_ret
    exact ⟨rfl, hE⟩

set_option maxRecDepth 100000 in
set_option maxHeartbeats 6400000 in
theorem rpF_ok (n : Nat) (a : Option Addr) (len cap : Nat) (vs : List Int) (pc tc : Int) (w : World) (hr : Ints w a len vs) (hl : len ≤ 300)
    (p0 : pc ≤ 1152921504606846976) (p1 : -1152921504606846976 ≤ pc) (t0 : tc ≤ 1152921504606846976) (t1 : -1152921504606846976 ≤ tc) (hn1 : 2 ≤ n) (hn2 : n ≤ 6) :
    Calls Tryd.prog 5 (rpArgs (n : Int) a len cap pc tc false true) w fun e w' => e = .returned (.bool true) ∧ Ext w w' := by
  have HN := fun w1 => hid (new_any n hn1 hn2 w1)
  have HM := fun w1 => hid (refring_any n hn1 hn2 w1)
  have Hr := hid hr
  clear hr
  unfold rpArgs
  have bp : ∀ w1, Ext ((w.alloc (.cells #[.int .i64 pc, .bool false] 45)).alloc (.cells #[.int .i64 tc, .bool true] 46)) w1 → Blk w1 w.heap.size #[.int .i64 pc, .bool false] 45 ∧ Blk w1 (w.heap.size + 1) #[.int .i64 tc, .bool true] 46 := fun w1 x => by
    refine ⟨((Blk.new w #[.int .i64 pc, .bool false] 45).alloc _).ext x, ?_⟩
    have := (Blk.new (w.alloc (.cells #[.int .i64 pc, .bool false] 45)) #[.int .i64 tc, .bool true] 46).ext x
    simpa using this
  have HR := fun w1 => hid (ringed_any w1)
  go_enter Tryd.func5, Tryd.ntmps5
  go_wp2_with fail
  refine (HR _).out.mono ?_
  intro e w1 hx
  obtain ⟨rfl, hext⟩ := hx
  clear HR
  obtain ⟨h1, h2⟩ := bp _ hext
  have hE := (((Ext.refl w).alloc _).alloc _).trans hext
  have c0 := h1.av 0 rfl
  have c1 := h2.av 0 rfl
  have c2 := h1.av 1 rfl
  have c3 := h2.av 1 rfl
  have HP : ∀ w1, Hid (Calls Tryd.prog 19 #[.agg #[.int .i64 pc, .bool false], .agg #[.int .i64 tc, .bool true]] w1 fun e w' => e = .returned (.tuple #[.agg #[.int .i64 pc, .bool false], .agg #[.int .i64 (pc + tc), .bool (true || false)]]) ∧ Ext w1 w') := fun w1 => hid (by rw [Int.add_comm pc tc]; exact rpass_any pc tc false true w1 (by omega) (by omega) (by omega) (by omega))
  simp only [Bool.or_false, Bool.or_true, Bool.false_or, Bool.true_or] at HP
  have HO := fun w1 => hid (over_any pc tc false true w1 (by omega) (by omega) (by omega) (by omega))
  have HS := fun w1 => hid (sent_any pc false w1 (by omega) (by omega))
  have HG := fun w1 => hid (got_any pc false w1 (by omega) (by omega))
  go_wp2_with fail
  refine (HP _).out.mono ?_
  intro e w2 hx
  obtain ⟨rfl, hx2⟩ := hx
  have h1 := h1.ext hx2
  have h2 := h2.ext hx2
  have hE := hE.trans hx2
  clear HP c0 c1 c2 c3 hx2
  have c0 := h1.av 0 rfl
  have c1 := h2.av 0 rfl
  have c2 := h1.av 1 rfl
  have c3 := h2.av 1 rfl
  have l1 := h1.lt
  have l2 := h2.lt
  have z2 : Ext w2 ((w2.alloc (.cells #[.int .i64 pc, .bool false] 45)).alloc (.cells #[.int .i64 (pc + tc), .bool (true || false)] 46)) := ((Ext.refl w2).alloc _).alloc _
  simp only [Bool.or_false, Bool.or_true, Bool.false_or, Bool.true_or] at z2
  have h1 := h1.ext z2
  have h2 := h2.ext z2
  have hE := hE.trans z2
  go_wp2
  generalize ((w2.alloc (.cells #[.int .i64 pc, .bool false] 45)).alloc (.cells #[.int .i64 (pc + tc), .bool _] 46)) = W at *
  have q0 := h1.kc (X := fun _ => False) (fun e => e) 0 rfl
  have q1 := h1.kc (X := fun _ => False) (fun e => e) 1 rfl
  have q2 := h2.kc (X := fun _ => False) (fun e => e) 0 rfl
  have q3 := h2.kc (X := fun _ => False) (fun e => e) 1 rfl
  clear c0 c1 c2 c3 l1 l2 z2 h1 h2
  refine wp_flowT (fun _ => False) (by kernel_rfl) (by kernel_rfl) ?_
  repeat (apply FlowT.d; (intro w1 hk; unfold does; go_simp; (try go_ints); (first | exact DetR.mk | (simp only [↓IntWalk.iteOmega, Oper.doesUpon_value]; exact DetR.mk) | (simp only [↓IntWalk.iteOmega]; go_simp; (try go_ints); exact DetR.mk))); simp only [Act.put, List.setIfInBounds_toArray, List.set_cons_zero, List.set_cons_succ])
  apply FlowT.d
  · intro w1 hk
    unfold does
    go_simp
    exact CallR.det ((HO w1).out)
  simp only [Act.put, List.setIfInBounds_toArray, List.set_cons_zero, List.set_cons_succ]
  repeat (apply FlowT.d; (intro w1 hk; unfold does; go_simp; (try go_ints); (first | exact DetR.mk | (simp only [↓IntWalk.iteOmega, Oper.doesUpon_value]; exact DetR.mk) | (simp only [↓IntWalk.iteOmega]; go_simp; (try go_ints); exact DetR.mk))); simp only [Act.put, List.setIfInBounds_toArray, List.set_cons_zero, List.set_cons_succ])
  apply FlowT.d
  · intro w1 hk
    unfold does
    go_simp
    exact CallR.det ((HS w1).out)
  simp only [Act.put, List.setIfInBounds_toArray, List.set_cons_zero, List.set_cons_succ]
  repeat (apply FlowT.d; (intro w1 hk; unfold does; go_simp; (try go_ints); (first | exact DetR.mk | (simp only [↓IntWalk.iteOmega, Oper.doesUpon_value]; exact DetR.mk) | (simp only [↓IntWalk.iteOmega]; go_simp; (try go_ints); exact DetR.mk))); simp only [Act.put, List.setIfInBounds_toArray, List.set_cons_zero, List.set_cons_succ])
  apply FlowT.d
  · intro w1 hk
    unfold does
    go_simp
    exact CallR.det ((HG w1).out)
  simp only [Act.put, List.setIfInBounds_toArray, List.set_cons_zero, List.set_cons_succ]
  repeat (apply FlowT.d; (intro w1 hk; unfold does; go_simp; (try go_ints); (first | exact DetR.mk | (simp only [↓IntWalk.iteOmega, Oper.doesUpon_value]; exact DetR.mk) | (simp only [↓IntWalk.iteOmega]; go_simp; (try go_ints); exact DetR.mk))); simp only [Act.put, List.setIfInBounds_toArray, List.set_cons_zero, List.set_cons_succ])
  refine FlowT.fin fun w5 hx5 hk5 => ?_
  have hE := hE.trans hx5
  clear q0 q1 q2 q3 hk5 hx5 HO HS HG
  go_wp2_with fail
  refine (HN _).out.mono ?_
  intro e w6 hx
  obtain ⟨p, b1, b2, su, rfl, hra, hext2, hp, hb1, hb2, hsu⟩ := hx
  have Hra := hid hra
  have Hsu := hid hsu
  clear hra hsu HN
  go_wp2_with fail
  refine (HM _).out.mono ?_
  intro e w7 hx
  obtain ⟨c1, c2, c3, k1, k2, k3, rfl, hq, hext3, hc1, hc2, hc3⟩ := hx
  have hT := Two.start Hra.out Hsu.out hext2 hp hb1 hb2 hq hext3 (Nat.le_refl _) (Nat.le_of_lt hc1) (Nat.le_of_lt hc2) (Nat.le_of_lt hc3)
  have hT := hT.mono hE
  have HT := hid hT
  obtain ⟨q, hqd⟩ : ∃ q, q = w6.heap.size := ⟨_, rfl⟩
  rw [← hqd] at HT ⊢
  clear hT Hra Hsu HM hq hext2 hext3 hp hb1 hb2 hc1 hc2 hc3 hE hqd
  have ok0 := RS.Ok.init hn1 hn2
  have hn0 : (RS.init n).n = n := by simp [RS.n, RS.init]
  go_wp2
  go_loopw [15] (fun t15 wr => ∃ (k : Nat) (s : RS), t15 = .int .i64 (k : Int) ∧ k ≤ len ∧ Two w ⟨p, b1, b2, q, c1, c2, c3, k1, k2, k3⟩ s wr ∧ s.Ok k ∧ s.n = n) (fun t15 _ => len - (intOf t15).toNat)
  case atStart => exact ⟨0, _, rfl, by omega, HT.out, ok0, hn0⟩
  case round =>
    obtain ⟨k, s, rfl, hk, hi, ok, hsn⟩ := hrel
    clear ok0 hn0 HT
    by_cases hlt : k < len
    · obtain ⟨x, rfl⟩ := Hr.out.sm (by omega)
      have hcw := hi.ext.cellx (Hr.out.cl x rfl k hlt)
      have C1 := hid (Half.one hi ok (by omega) (vs.getD k 0) (Hr.out.hi k))
      have ok' := ok.does (vs.getD k 0)
      have hn' := (RS.n_does s (vs.getD k 0)).trans hsn
      have C2 := fun w1 (h : Half w ⟨p, b1, b2, q, c1, c2, c3, k1, k2, k3⟩ s (s.does (vs.getD k 0)) w1) => hid (h.other ok (by omega) (vs.getD k 0) (Hr.out.hi k) rfl)
      have hcx : ∀ w1, Ext w w1 → w1.cell? (x.add k) = some (.int .i64 (vs.getD k 0)) := fun w1 hx => hx.cellx (Hr.out.cl x rfl k hlt)
      generalize vs.getD k 0 = v at *
      generalize s.does v = s' at *
      clear ok hsn
      go_wp2_with fail
      refine C1.out.mono ?_
      intro e w2 hx
      obtain ⟨rfl, hh⟩ := hx
      have C2' := C2 _ hh
      have hcw := hcx _ hh.ext
      clear C1 C2 hi hcx hh
      go_wp2_with fail
      refine C2'.out.mono ?_
      intro e w3 hx
      obtain ⟨rfl, hT⟩ := hx
      have HT := hid hT
      obtain ⟨r3, ra, ⟨a4, n4, r4⟩, r5, r9⟩ := hT.reads ok'
      have hla := ok'.la
      rw [hn'] at hla r3 ra
      have Hra := hid ra
      have Hok := hid ok'
      have Hn' := hid hn'
      have hul := ok'.ul
      have hpo := ok'.pos
      have hac := count_le s'.ac n (by omega)
      have hlive : (s'.ac.take n).countP id = s'.live := by rw [List.take_of_length_le (by omega)]; rfl
      rw [hn'] at hpo
      have Hlive := hid hlive
      clear C2' hT hcw ra ok' hn' hlive
      go_wp2
      go_loop [16, 17] (fun t16 t17 => ∃ j : Nat, j ≤ n ∧ t17 = .int .i64 (j : Int) ∧ t16 = .int .i64 ((s'.ac.take j).countP id : Int)) (fun _ t17 => n - (intOf t17).toNat)
      case atStart => exact ⟨0, Nat.zero_le _, rfl, rfl⟩
      case round =>
        obtain ⟨j, hj, rfl, rfl⟩ := hrel
        have hb : (s'.ac.take j).countP id ≤ 6 := count_le s'.ac j (by omega)
        by_cases hjn : j < n
        · have hc := Hra.out j hjn
          have hs := countP_take_succ s'.ac j (by omega)
          have hgd : s'.ac.getD j false = s'.ac[j]'(by omega) := by simp [show j < s'.ac.length by omega]
          rw [hgd] at hc
          cases hv : s'.ac[j]'(by omega) with
          | true =>
            rw [hv] at hc hs
            have Hs := hid hs
            clear hs hgd hv
            go_wp2
            go_round
            case rel => exact ⟨j + 1, by omega, by go_num, by rw [Hs.out]; simp⟩
            case measure => simp [intOf]; omega
          | false =>
            rw [hv] at hc hs
            have Hs := hid hs
            clear hs hgd hv
            go_wp2
            go_round
            case rel => exact ⟨j + 1, by omega, by go_num, by rw [Hs.out]; simp⟩
            case measure => simp [intOf]; omega
        · obtain rfl : j = n := by omega
          have H1 := fun w1 (x : Ext w3 w1) => hid (HT.out.on x).told
          have H2 := fun w1 (x : Ext w3 w1) => hid ((HT.out.on x).active Hok.out)
          have H3 := fun w1 (x : Ext w3 w1) => hid (HT.out.on x).under
          have H4 := fun w1 (x : Ext w3 w1) => hid (HT.out.on x).at_
          have g4 : ∀ w1, Keep (fun _ => False) w3 w1 → w1.cell? ⟨q, 4, none⟩ = some (.slice a4 s'.un.length n4) := fun w1 hk => hk.cellx r4 (fun h => h)
          have g5 : ∀ w1, Keep (fun _ => False) w3 w1 → w1.cell? ⟨q, 5, none⟩ = some (.int .i64 (s'.pos : Int)) := fun w1 hk => hk.cellx r5 (fun h => h)
          have g9 : ∀ w1, Keep (fun _ => False) w3 w1 → w1.cell? ⟨q, 9, none⟩ = some (.bool s'.told) := fun w1 hk => hk.cellx r9 (fun h => h)
          rw [Hlive.out] at hac
          rw [Hlive.out]
          clear r3 r4 r5 r9 Hra hb hjn Hlive
          generalize s'.told = to at *
          generalize s'.live = lv at *
          generalize s'.pos = po at *
          generalize s'.un.length = ul at *
          go_wp2
          refine wp_flowT (fun _ => False) (by kernel_rfl) (by kernel_rfl) ?_
          repeat (apply FlowT.d; (intro w1 hk; unfold does; go_simp; (try go_ints); (first | exact DetR.mk | (simp only [↓IntWalk.iteOmega, Oper.doesUpon_value]; exact DetR.mk) | (simp only [↓IntWalk.iteOmega]; go_simp; (try go_ints); exact DetR.mk))); simp only [Act.put, List.setIfInBounds_toArray, List.set_cons_zero, List.set_cons_succ])
          apply FlowT.d
          · intro w1 hk
            unfold does
            go_simp
            exact CallR.det ((H1 w1 hk.ext).out.mono fun e w' ⟨h1, h2⟩ => ⟨h1, h2 ▸ Ext.refl _⟩)
          simp only [Act.put, List.setIfInBounds_toArray, List.set_cons_zero, List.set_cons_succ]
          repeat (apply FlowT.d; (intro w1 hk; unfold does; go_simp; (try go_ints); (first | exact DetR.mk | (simp only [↓IntWalk.iteOmega, Oper.doesUpon_value]; exact DetR.mk) | (simp only [↓IntWalk.iteOmega]; go_simp; (try go_ints); exact DetR.mk))); simp only [Act.put, List.setIfInBounds_toArray, List.set_cons_zero, List.set_cons_succ])
          apply FlowT.d
          · intro w1 hk
            unfold does
            go_simp
            exact CallR.det ((H3 w1 hk.ext).out.mono fun e w' ⟨h1, h2⟩ => ⟨h1, h2 ▸ Ext.refl _⟩)
          simp only [Act.put, List.setIfInBounds_toArray, List.set_cons_zero, List.set_cons_succ]
          repeat (apply FlowT.d; (intro w1 hk; unfold does; go_simp; (try go_ints); (first | exact DetR.mk | (simp only [↓IntWalk.iteOmega, Oper.doesUpon_value]; exact DetR.mk) | (simp only [↓IntWalk.iteOmega]; go_simp; (try go_ints); exact DetR.mk))); simp only [Act.put, List.setIfInBounds_toArray, List.set_cons_zero, List.set_cons_succ])
          apply FlowT.d
          · intro w1 hk
            unfold does
            go_simp
            exact CallR.det ((H4 w1 hk.ext).out.mono fun e w' ⟨h1, h2⟩ => ⟨h1, h2 ▸ Ext.refl _⟩)
          simp only [Act.put, List.setIfInBounds_toArray, List.set_cons_zero, List.set_cons_succ]
          repeat (apply FlowT.d; (intro w1 hk; unfold does; go_simp; (try go_ints); (first | exact DetR.mk | (simp only [↓IntWalk.iteOmega, Oper.doesUpon_value]; exact DetR.mk) | (simp only [↓IntWalk.iteOmega]; go_simp; (try go_ints); exact DetR.mk))); simp only [Act.put, List.setIfInBounds_toArray, List.set_cons_zero, List.set_cons_succ])
          apply FlowT.d
          · intro w1 hk
            unfold does
            go_simp
            exact CallR.det ((H2 w1 hk.ext).out.mono fun e w' ⟨h1, h2⟩ => ⟨h1, h2 ▸ Ext.refl _⟩)
          simp only [Act.put, List.setIfInBounds_toArray, List.set_cons_zero, List.set_cons_succ]
          repeat (apply FlowT.d; (intro w1 hk; unfold does; go_simp; (try go_ints); (first | exact DetR.mk | (simp only [↓IntWalk.iteOmega, Oper.doesUpon_value]; exact DetR.mk) | (simp only [↓IntWalk.iteOmega]; go_simp; (try go_ints); exact DetR.mk))); simp only [Act.put, List.setIfInBounds_toArray, List.set_cons_zero, List.set_cons_succ])
          refine FlowT.fin fun w4 hx4 hk4 => ?_
          clear g4 g5 g9 H1 H2 H3 H4 hk4
          have HT4 := hid (HT.out.on hx4)
          go_wp2
          go_roundw
          case rel => exact ⟨k + 1, s', by go_num, by omega, HT4.out, Hok.out, Hn'.out⟩
          case measure => simp [intOf]; omega
    · obtain rfl : k = len := by omega
      have hE := hid hi.ext
      clear hi ok hsn Hr
      go_wp2
      go_ret
      exact ⟨rfl, hE.out⟩
end Go.Proofs.YtcfopaopcbjkeaaDoor
