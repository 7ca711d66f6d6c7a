/- Texts of one proof, put together: L9 LA. -/
import Derived.Test.YtkabgmohgjljkaaDoorMB08

/- Links: a frame is taken: refused, or old. -/
namespace Go.Proofs.YtkabgmohgjljkaaDoor
set_option linter.unusedSimpArgs false
set_option linter.unusedVariables false
open Go Go.RowKit

/-- The map's find is the plain one. -/
theorem mfind_find (k : Int) : ∀ (ms : List FV) (i : Nat), mfind (ms.map fun x => (x.f.seq, x.val)) k i = match Rcv.find (ms.map FV.f) k with
    | none => none
    | some j => (ms[j]?).map fun x => (i + j, x.val)
  | [], i => rfl
  | x :: l, i => by
    have ih := mfind_find k l (i + 1)
    simp only [List.map_cons]
    unfold mfind
    simp only [Rcv.find, List.findIdx?_cons] at ih ⊢
    by_cases h : x.f.seq = k
    · simp [h]
    · rw [if_neg (by simp; exact fun e => h e.symm)]
      simp only [h, decide_false, Bool.false_eq_true, if_false]
      rw [ih]
      cases List.findIdx? (fun f => decide (f.seq = k)) (l.map FV.f) with
      | none => rfl
      | some j =>
        simp only [Option.map_some, List.getElem?_cons_succ]
        rw [show i + 1 + j = i + (j + 1) by omega]
theorem mval_none {ms : List FV} {k : Int} (h : Rcv.find (ms.map FV.f) k = none) : mval (ms.map fun x => (x.f.seq, x.val)) k = none := by
  unfold mval
  rw [mfind_find, h]
  rfl
theorem mval_some {ms : List FV} {k : Int} {j : Nat} (h : Rcv.find (ms.map FV.f) k = some j) : ∃ x, ms[j]? = some x ∧ x.f.seq = k ∧ mfind (ms.map fun x => (x.f.seq, x.val)) k 0 = some (j, x.val) ∧ mval (ms.map fun x => (x.f.seq, x.val)) k = some x.val := by
  obtain ⟨f, hf, hs⟩ := Rcv.find_get h
  rw [List.getElem?_map] at hf
  cases hx : ms[j]? with
  | none => rw [hx] at hf; cases hf
  | some x =>
    rw [hx] at hf
    obtain rfl := Option.some.inj hf
    have h1 : mfind (ms.map fun x => (x.f.seq, x.val)) k 0 = some (j, x.val) := by rw [mfind_find, h]; simp [hx]
    exact ⟨x, rfl, hs, h1, by unfold mval; rw [h1]; rfl⟩
theorem frame_zero (w : World) : (zeroValue 48).run Tryd.prog w = .ok fr0 w := by kernel_rfl
section
variable {P : Program} {ops : Array Oper} {w : World} {o : Oper} {a : Act} {R : Value → World → Prop}
theorem does_map_new (hg : o.guard = none) (mo x vo : Operand) (t kt et : TypeId) (hop : o.op = Op.mapUpdate t mo x vo) (ht : P.underlying t = some (.map kt et)) (hk : P.underlying kt = some (.int .i64)) (b : Nat) (m : List (Int × Value)) (h : MapAt w b m)
    (hm : a.eval mo = .map (some b)) (k : Int) (hx : a.eval x = .int .i64 k) (v : Value) (hv : a.eval vo = v) (hn : mval m k = none)
    (hK : ∀ w', MapAt w' b (m ++ [(k, v)]) → Keep (fun k => k = b) w w' → R undef w') : does P ops o a w R := by
  obtain ⟨w', hrun, r1, r2⟩ := run_map_new ht hk h k v hn
  unfold does
  rw [if_pos (by simp [Region.wanted, hg])]
  simp [execOp, hop, hm, hx, hv, hrun, Result.andThen]
  exact hK w' r1 r2
theorem does_map_del (hg : o.guard = none) (mo x : Operand) (t kt et : TypeId) (hop : o.op = Op.call { callee := Callee.builtin Builtin.delete, args := #[mo, x], argTypes := #[t, kt] }) (ht : P.underlying t = some (.map kt et)) (hk : P.underlying kt = some (.int .i64)) (b : Nat) (m : List (Int × Value)) (h : MapAt w b m)
    (hm : a.eval mo = .map (some b)) (k : Int) (hx : a.eval x = .int .i64 k) (j : Nat) (v : Value) (hj : mfind m k 0 = some (j, v))
    (hK : ∀ w', MapAt w' b (m.eraseIdx j) → Keep (fun k => k = b) w w' → R (.tuple #[]) w') : does P ops o a w R := by
  obtain ⟨w', hrun, r1, r2⟩ := run_map_del ht hk h k j v hj o.type
  unfold does
  rw [if_pos (by simp [Region.wanted, hg])]
  simp [execOp, hop, resolve, invoke, builtin, hm, hx, hrun, Result.andThen]
  exact hK w' r1 r2
end

set_option maxRecDepth 100000 in
set_option maxHeartbeats 3200000 in
theorem take_code (r : Rcv) (f : Fr) (a : Option Addr) (cap : Nat) (w : World) (n0 : Nat) (t : Option Nat) (q b : Nat) (ms : List FV) (h : RcvAt w n0 t q b r ms) (hr : Ints w a f.nums.length f.nums) (hl : f.nums.length ≤ 1000)
    (ev : Nat → Value) (he : ErrsC w ev)
    (c : Nat) (hc : f.code = c) (h0 : c ≠ 0) (hev : ∃ t v, ev c = .iface t v) :
    Calls Tryd.prog 22 #[.pointer (some ⟨q, 0, none⟩), frv f a cap] w fun e w' => e = .returned (.tuple #[.slice none 0 0, ev c]) ∧ Ext w w' := by
  obtain ⟨ti, vi, hev⟩ := hev
  have hE : errv ev c = .iface ti vi := by unfold errv; rw [if_neg h0, hev]
  rw [hev]
  clear hev h0
  have HK := hid (fcheck_any f a cap _ ev (hr.ext ((Ext.refl w).alloc (.cells #[.int .u8 (f.kind.toNat : Int), .int .i64 f.fr, .int .i64 f.to, .int .i64 f.seq, .slice a f.nums.length cap] 48))) (by omega) (he.ext ((Ext.refl w).alloc _)))
  have hB := Blk.new w #[.int .u8 (f.kind.toNat : Int), .int .i64 f.fr, .int .i64 f.to, .int .i64 f.seq, .slice a f.nums.length cap] 48
  have hx0 := (Ext.refl w).alloc (.cells #[.int .u8 (f.kind.toNat : Int), .int .i64 f.fr, .int .i64 f.to, .int .i64 f.seq, .slice a f.nums.length cap] 48)
  simp only [hc, hE] at HK
  unfold frv at HK ⊢
  have Hr := hid hr
  have H := hid h
  have HB := hid hB
  have Hx0 := hid hx0
  clear hc hE hr h hB hx0
  go_enter Tryd.func22, Tryd.ntmps22
  go_wp2_with fail
  refine HK.out.mono ?_
  intro e w1 hx
  obtain ⟨rfl, hx1⟩ := hx
  have Hx1 := hid (Hx0.out.trans hx1)
  have HB1 := hid (HB.out.ext hx1)
  clear HK hx1 HB Hx0
  go_wp2
  go_ret2
  exact ⟨rfl, Hx1.out⟩

set_option maxRecDepth 100000 in
set_option maxHeartbeats 3200000 in
theorem take_shape (r : Rcv) (f : Fr) (a : Option Addr) (cap : Nat) (w : World) (n0 : Nat) (t : Option Nat) (q b : Nat) (ms : List FV) (h : RcvAt w n0 t q b r ms) (hr : Ints w a f.nums.length f.nums) (hl : f.nums.length ≤ 1000)
    (ev : Nat → Value) (he : ErrsC w ev)
    (hc : f.code = 0) (hs : f.fr ≠ r.fr ∨ f.to ≠ r.to ∨ f.kind = 97) :
    Calls Tryd.prog 22 #[.pointer (some ⟨q, 0, none⟩), frv f a cap] w fun e w' => e = .returned (.tuple #[.slice none 0 0, ev 3]) ∧ Ext w w' := by
  have hE : errv ev 0 = .nilIface := rfl
  have Hg := hid he.shape
  by_cases s1 : f.fr = r.fr
  · by_cases s2 : f.to = r.to
    · have s3 : (f.kind.toNat : Int) = 97 := by rw [(hs.resolve_left (fun e => e s1)).resolve_left (fun e => e s2)]; rfl
      have S1 := hid s1
      have S2 := hid s2
      have S3 := hid s3
      clear s1 s2 s3 hs
      have HK := hid (fcheck_any f a cap _ ev (hr.ext ((Ext.refl w).alloc (.cells #[.int .u8 (f.kind.toNat : Int), .int .i64 f.fr, .int .i64 f.to, .int .i64 f.seq, .slice a f.nums.length cap] 48))) (by omega) (he.ext ((Ext.refl w).alloc _)))
      have hB := Blk.new w #[.int .u8 (f.kind.toNat : Int), .int .i64 f.fr, .int .i64 f.to, .int .i64 f.seq, .slice a f.nums.length cap] 48
      have hx0 := (Ext.refl w).alloc (.cells #[.int .u8 (f.kind.toNat : Int), .int .i64 f.fr, .int .i64 f.to, .int .i64 f.seq, .slice a f.nums.length cap] 48)
      simp only [hc, hE] at HK
      unfold frv at HK ⊢
      have Hr := hid hr
      have H := hid h
      have HB := hid hB
      have Hx0 := hid hx0
      clear hc hE hr h hB hx0
      go_enter Tryd.func22, Tryd.ntmps22
      go_wp2_with fail
      refine HK.out.mono ?_
      intro e w1 hx
      obtain ⟨rfl, hx1⟩ := hx
      have Hx1 := hid (Hx0.out.trans hx1)
      have HB1 := hid (HB.out.ext hx1)
      clear HK hx1 HB Hx0
      have s1 : (f.fr != r.fr) = false := by simp [S1.out]
      have s2 : (f.to != r.to) = false := by simp [S2.out]
      have s3 : ((f.kind.toNat : Int) == 97) = true := by rw [S3.out]; rfl
      have h1 := H.out.ext Hx1.out
      generalize hN : w.heap.size = N at *
      have HN := hid hN
      clear hN
      go_wp2
      have d0 := HB1.out.kc (X := fun _ => False) (fun e => e) 0 rfl
      have d1 := HB1.out.kc (X := fun _ => False) (fun e => e) 1 rfl
      have d2 := HB1.out.kc (X := fun _ => False) (fun e => e) 2 rfl
      have g0 := h1.hp.kc (X := fun _ => False) (fun e => e) 0 rfl
      have g1 := h1.hp.kc (X := fun _ => False) (fun e => e) 1 rfl
      simp only [List.getElem_toArray, List.getElem_cons_zero, List.getElem_cons_succ] at d0 d1 d2 g0 g1
      refine wp_flowT (fun _ => False) (by kernel_rfl) (by kernel_rfl) ?_
      repeat (apply FlowT.d; (intro w1 hk; unfold does; go_simp; (try go_ints); (first | exact DetR.mk | (simp only [↓IntWalk.iteOmega, Oper.doesUpon_value]; exact DetR.mk) | (simp only [↓IntWalk.iteOmega]; go_simp; (try go_ints); exact DetR.mk))); simp only [Act.put, List.setIfInBounds_toArray, List.set_cons_zero, List.set_cons_succ])
      refine FlowT.fin fun w2 hx2 hk2 => ?_
      have Hx2 := hid (Hx1.out.trans hx2)
      have HB2 := hid (HB1.out.ext hx2)
      clear d0 d1 d2 g0 g1 hx2 hk2 HB1 Hx1 h1
      clear s1 s2 s3
      have gz : ∀ wa, Keep (fun _ => False) w2 wa → wa.cell? ⟨2, 0, none⟩ = some (ev 3) := fun wa hk => hk.cellx (Hx2.out.cellx Hg.out) (fun e => e)
      go_wp2
      refine wp_flowT (fun _ => False) (by kernel_rfl) (by kernel_rfl) ?_
      repeat (apply FlowT.d; (intro w1 hk; unfold does; go_simp; (try go_ints); (first | exact DetR.mk | (simp only [↓IntWalk.iteOmega, Oper.doesUpon_value]; exact DetR.mk) | (simp only [↓IntWalk.iteOmega]; go_simp; (try go_ints); exact DetR.mk))); simp only [Act.put, List.setIfInBounds_toArray, List.set_cons_zero, List.set_cons_succ])
      refine FlowT.fin fun w3 hx3 hk3 => ?_
      have Hx3 := hid (Hx2.out.trans hx3)
      clear gz hx3 hk3
      go_wp2
      go_ret2
      exact ⟨rfl, Hx3.out⟩
    · have S1 := hid s1
      clear s1 hs
      have HK := hid (fcheck_any f a cap _ ev (hr.ext ((Ext.refl w).alloc (.cells #[.int .u8 (f.kind.toNat : Int), .int .i64 f.fr, .int .i64 f.to, .int .i64 f.seq, .slice a f.nums.length cap] 48))) (by omega) (he.ext ((Ext.refl w).alloc _)))
      have hB := Blk.new w #[.int .u8 (f.kind.toNat : Int), .int .i64 f.fr, .int .i64 f.to, .int .i64 f.seq, .slice a f.nums.length cap] 48
      have hx0 := (Ext.refl w).alloc (.cells #[.int .u8 (f.kind.toNat : Int), .int .i64 f.fr, .int .i64 f.to, .int .i64 f.seq, .slice a f.nums.length cap] 48)
      simp only [hc, hE] at HK
      unfold frv at HK ⊢
      have Hr := hid hr
      have H := hid h
      have HB := hid hB
      have Hx0 := hid hx0
      clear hc hE hr h hB hx0
      go_enter Tryd.func22, Tryd.ntmps22
      go_wp2_with fail
      refine HK.out.mono ?_
      intro e w1 hx
      obtain ⟨rfl, hx1⟩ := hx
      have Hx1 := hid (Hx0.out.trans hx1)
      have HB1 := hid (HB.out.ext hx1)
      clear HK hx1 HB Hx0
      have s1' : (f.fr != r.fr) = false := by simp [S1.out]
      have s2' : (f.to != r.to) = true := by simp [s2]
      clear s2
      have h1 := H.out.ext Hx1.out
      generalize hN : w.heap.size = N at *
      have HN := hid hN
      clear hN
      go_wp2
      have d0 := HB1.out.kc (X := fun _ => False) (fun e => e) 0 rfl
      have d1 := HB1.out.kc (X := fun _ => False) (fun e => e) 1 rfl
      have d2 := HB1.out.kc (X := fun _ => False) (fun e => e) 2 rfl
      have g0 := h1.hp.kc (X := fun _ => False) (fun e => e) 0 rfl
      have g1 := h1.hp.kc (X := fun _ => False) (fun e => e) 1 rfl
      simp only [List.getElem_toArray, List.getElem_cons_zero, List.getElem_cons_succ] at d0 d1 d2 g0 g1
      refine wp_flowT (fun _ => False) (by kernel_rfl) (by kernel_rfl) ?_
      repeat (apply FlowT.d; (intro w1 hk; unfold does; go_simp; (try go_ints); (first | exact DetR.mk | (simp only [↓IntWalk.iteOmega, Oper.doesUpon_value]; exact DetR.mk) | (simp only [↓IntWalk.iteOmega]; go_simp; (try go_ints); exact DetR.mk))); simp only [Act.put, List.setIfInBounds_toArray, List.set_cons_zero, List.set_cons_succ])
      refine FlowT.fin fun w2 hx2 hk2 => ?_
      have Hx2 := hid (Hx1.out.trans hx2)
      have HB2 := hid (HB1.out.ext hx2)
      clear d0 d1 d2 g0 g1 hx2 hk2 HB1 Hx1 h1
      clear s1' s2'
      have gz : ∀ wa, Keep (fun _ => False) w2 wa → wa.cell? ⟨2, 0, none⟩ = some (ev 3) := fun wa hk => hk.cellx (Hx2.out.cellx Hg.out) (fun e => e)
      go_wp2
      refine wp_flowT (fun _ => False) (by kernel_rfl) (by kernel_rfl) ?_
      repeat (apply FlowT.d; (intro w1 hk; unfold does; go_simp; (try go_ints); (first | exact DetR.mk | (simp only [↓IntWalk.iteOmega, Oper.doesUpon_value]; exact DetR.mk) | (simp only [↓IntWalk.iteOmega]; go_simp; (try go_ints); exact DetR.mk))); simp only [Act.put, List.setIfInBounds_toArray, List.set_cons_zero, List.set_cons_succ])
      refine FlowT.fin fun w3 hx3 hk3 => ?_
      have Hx3 := hid (Hx2.out.trans hx3)
      clear gz hx3 hk3
      go_wp2
      go_ret2
      exact ⟨rfl, Hx3.out⟩
  · clear hs
    have HK := hid (fcheck_any f a cap _ ev (hr.ext ((Ext.refl w).alloc (.cells #[.int .u8 (f.kind.toNat : Int), .int .i64 f.fr, .int .i64 f.to, .int .i64 f.seq, .slice a f.nums.length cap] 48))) (by omega) (he.ext ((Ext.refl w).alloc _)))
    have hB := Blk.new w #[.int .u8 (f.kind.toNat : Int), .int .i64 f.fr, .int .i64 f.to, .int .i64 f.seq, .slice a f.nums.length cap] 48
    have hx0 := (Ext.refl w).alloc (.cells #[.int .u8 (f.kind.toNat : Int), .int .i64 f.fr, .int .i64 f.to, .int .i64 f.seq, .slice a f.nums.length cap] 48)
    simp only [hc, hE] at HK
    unfold frv at HK ⊢
    have Hr := hid hr
    have H := hid h
    have HB := hid hB
    have Hx0 := hid hx0
    clear hc hE hr h hB hx0
    go_enter Tryd.func22, Tryd.ntmps22
    go_wp2_with fail
    refine HK.out.mono ?_
    intro e w1 hx
    obtain ⟨rfl, hx1⟩ := hx
    have Hx1 := hid (Hx0.out.trans hx1)
    have HB1 := hid (HB.out.ext hx1)
    clear HK hx1 HB Hx0
    have s1' : (f.fr != r.fr) = true := by simp [s1]
    clear s1
    have h1 := H.out.ext Hx1.out
    generalize hN : w.heap.size = N at *
    have HN := hid hN
    clear hN
    go_wp2
    have d0 := HB1.out.kc (X := fun _ => False) (fun e => e) 0 rfl
    have d1 := HB1.out.kc (X := fun _ => False) (fun e => e) 1 rfl
    have d2 := HB1.out.kc (X := fun _ => False) (fun e => e) 2 rfl
    have g0 := h1.hp.kc (X := fun _ => False) (fun e => e) 0 rfl
    have g1 := h1.hp.kc (X := fun _ => False) (fun e => e) 1 rfl
    simp only [List.getElem_toArray, List.getElem_cons_zero, List.getElem_cons_succ] at d0 d1 d2 g0 g1
    refine wp_flowT (fun _ => False) (by kernel_rfl) (by kernel_rfl) ?_
    repeat (apply FlowT.d; (intro w1 hk; unfold does; go_simp; (try go_ints); (first | exact DetR.mk | (simp only [↓IntWalk.iteOmega, Oper.doesUpon_value]; exact DetR.mk) | (simp only [↓IntWalk.iteOmega]; go_simp; (try go_ints); exact DetR.mk))); simp only [Act.put, List.setIfInBounds_toArray, List.set_cons_zero, List.set_cons_succ])
    refine FlowT.fin fun w2 hx2 hk2 => ?_
    have Hx2 := hid (Hx1.out.trans hx2)
    have HB2 := hid (HB1.out.ext hx2)
    clear d0 d1 d2 g0 g1 hx2 hk2 HB1 Hx1 h1
    clear s1'
    have gz : ∀ wa, Keep (fun _ => False) w2 wa → wa.cell? ⟨2, 0, none⟩ = some (ev 3) := fun wa hk => hk.cellx (Hx2.out.cellx Hg.out) (fun e => e)
    go_wp2
    refine wp_flowT (fun _ => False) (by kernel_rfl) (by kernel_rfl) ?_
    repeat (apply FlowT.d; (intro w1 hk; unfold does; go_simp; (try go_ints); (first | exact DetR.mk | (simp only [↓IntWalk.iteOmega, Oper.doesUpon_value]; exact DetR.mk) | (simp only [↓IntWalk.iteOmega]; go_simp; (try go_ints); exact DetR.mk))); simp only [Act.put, List.setIfInBounds_toArray, List.set_cons_zero, List.set_cons_succ])
    refine FlowT.fin fun w3 hx3 hk3 => ?_
    have Hx3 := hid (Hx2.out.trans hx3)
    clear gz hx3 hk3
    go_wp2
    go_ret2
    exact ⟨rfl, Hx3.out⟩
end Go.Proofs.YtkabgmohgjljkaaDoor


/- Links: a frame is taken: an old one, or one that comes too early. -/
namespace Go.Proofs.YtkabgmohgjljkaaDoor
set_option linter.unusedSimpArgs false
set_option linter.unusedVariables false
open Go Go.RowKit

set_option maxRecDepth 100000 in
set_option maxHeartbeats 3200000 in
theorem take_old (r : Rcv) (f : Fr) (a : Option Addr) (cap : Nat) (w : World) (n0 : Nat) (t : Option Nat) (q b : Nat) (ms : List FV) (h : RcvAt w n0 t q b r ms) (hr : Ints w a f.nums.length f.nums) (hl : f.nums.length ≤ 1000)
    (ev : Nat → Value) (he : ErrsC w ev)
    (hc : f.code = 0) (hs1 : f.fr = r.fr) (hs2 : f.to = r.to) (hs3 : f.kind ≠ 97) (ho : f.seq < r.due ∨ (Rcv.find r.wait f.seq).isSome = true) :
    Calls Tryd.prog 22 #[.pointer (some ⟨q, 0, none⟩), frv f a cap] w fun e w' => e = .returned (.tuple #[.slice none 0 0, .nilIface]) ∧ Ext w w' := by
  have hE : errv ev 0 = .nilIface := rfl
  have S1 := hid hs1
  have S2 := hid hs2
  have S3 : Hid (¬ (f.kind.toNat : Int) = 97) := hid fun e => hs3 (UInt8.toNat_inj.1 (by rw [show (97 : UInt8).toNat = 97 from rfl]; omega))
  cases hfd : Rcv.find r.wait f.seq with
  | some j =>
    have hfd' := hfd
    rw [h.eq] at hfd'
    obtain ⟨x, hxj, _, _, hmv⟩ := mval_some hfd'
    obtain ⟨ax, cx, _, hxv, _⟩ := (h.hn x (List.mem_of_getElem? hxj)).form
    have Hmv := hid hmv
    have Hxv := hid hxv
    clear ho hfd hfd' hxj hmv hxv
    clear hs1 hs2 hs3
    have HK := hid (fcheck_any f a cap _ ev (hr.ext ((Ext.refl w).alloc (.cells #[.int .u8 (f.kind.toNat : Int), .int .i64 f.fr, .int .i64 f.to, .int .i64 f.seq, .slice a f.nums.length cap] 48))) (by omega) (he.ext ((Ext.refl w).alloc _)))
    have hB := Blk.new w #[.int .u8 (f.kind.toNat : Int), .int .i64 f.fr, .int .i64 f.to, .int .i64 f.seq, .slice a f.nums.length cap] 48
    have hx0 := (Ext.refl w).alloc (.cells #[.int .u8 (f.kind.toNat : Int), .int .i64 f.fr, .int .i64 f.to, .int .i64 f.seq, .slice a f.nums.length cap] 48)
    simp only [hc, hE] at HK
    unfold frv at HK ⊢
    have Hr := hid hr
    have H := hid h
    have HB := hid hB
    have Hx0 := hid hx0
    clear hc hE hr h hB hx0
    go_enter Tryd.func22, Tryd.ntmps22
    go_wp2_with fail
    refine HK.out.mono ?_
    intro e w1 hx
    obtain ⟨rfl, hx1⟩ := hx
    have Hx1 := hid (Hx0.out.trans hx1)
    have HB1 := hid (HB.out.ext hx1)
    clear HK hx1 HB Hx0
    have s1 : (f.fr != r.fr) = false := by simp [S1.out]
    have s2 : (f.to != r.to) = false := by simp [S2.out]
    have s3 : ((f.kind.toNat : Int) == 97) = false := beq_eq_false_iff_ne.2 S3.out
    have h1 := H.out.ext Hx1.out
    generalize hN : w.heap.size = N at *
    have HN := hid hN
    clear hN
    go_wp2
    have d0 := HB1.out.kc (X := fun _ => False) (fun e => e) 0 rfl
    have d1 := HB1.out.kc (X := fun _ => False) (fun e => e) 1 rfl
    have d2 := HB1.out.kc (X := fun _ => False) (fun e => e) 2 rfl
    have g0 := h1.hp.kc (X := fun _ => False) (fun e => e) 0 rfl
    have g1 := h1.hp.kc (X := fun _ => False) (fun e => e) 1 rfl
    simp only [List.getElem_toArray, List.getElem_cons_zero, List.getElem_cons_succ] at d0 d1 d2 g0 g1
    refine wp_flowT (fun _ => False) (by kernel_rfl) (by kernel_rfl) ?_
    repeat (apply FlowT.d; (intro w1 hk; unfold does; go_simp; (try go_ints); (first | exact DetR.mk | (simp only [↓IntWalk.iteOmega, Oper.doesUpon_value]; exact DetR.mk) | (simp only [↓IntWalk.iteOmega]; go_simp; (try go_ints); exact DetR.mk))); simp only [Act.put, List.setIfInBounds_toArray, List.set_cons_zero, List.set_cons_succ])
    refine FlowT.fin fun w2 hx2 hk2 => ?_
    have Hx2 := hid (Hx1.out.trans hx2)
    have HB2 := hid (HB1.out.ext hx2)
    clear d0 d1 d2 g0 g1 hx2 hk2 HB1 Hx1 h1
    clear s1 s2 s3
    have h2 := H.out.ext Hx2.out
    have hlk : ∀ wa, Keep (fun g => w2.heap.size ≤ g) w2 wa → (Instr.lookup 89 (.map (some b)) (.int .i64 f.seq) true).run Tryd.prog wa = .ok (.tuple #[.agg #[.int .u8 (x.f.kind.toNat : Int), .int .i64 x.f.fr, .int .i64 x.f.to, .int .i64 x.f.seq, .slice ax x.f.nums.length cx], .bool true]) wa := fun wa hk => by
      have := run_map_lookup (P := Tryd.prog) Tryd.underlying89 Tryd.underlying3 (h2.hm.keep hk (by have := h2.hm.lt; omega)) f.seq (frame_zero wa)
      rw [Hmv.out] at this
      simpa [FV.val, Hxv.out] using this
    have g3 := h2.hp.kc (X := fun g => w2.heap.size ≤ g) (by have := h2.hp.lt; omega) 3 rfl
    have d3 := HB2.out.kc (X := fun g => w2.heap.size ≤ g) (by have := HB2.out.lt; omega) 3 rfl
    simp only [List.getElem_toArray, List.getElem_cons_zero, List.getElem_cons_succ] at g3 d3
    go_wp2
    refine wp_flowT (fun g => w2.heap.size ≤ g) (by kernel_rfl) (by kernel_rfl) ?_
    repeat (apply FlowT.d; (intro w1 hk; unfold does; go_simp; (try go_ints); (first | exact DetR.mk | (simp only [↓IntWalk.iteOmega, Oper.doesUpon_value]; exact DetR.mk) | (simp only [↓IntWalk.iteOmega]; go_simp; (try go_ints); exact DetR.mk))); simp only [Act.put, List.setIfInBounds_toArray, List.set_cons_zero, List.set_cons_succ])
    refine FlowT.s (fun v w' => ∃ b7, v = .pointer (some ⟨b7, 0, none⟩) ∧ Blk w' b7 frz 48 ∧ w2.heap.size ≤ b7 ∧ Ext w2 w') 10 rfl (by kernel_rfl) (fun _ _ _ ⟨b7, e1, e2, e3, e4⟩ x => ⟨b7, e1, e2.ext x, e3, e4.trans x⟩) (fun wa hC hk => ?_) ?_
    · unfold does
      go_simp
      exact ⟨hk.alloc _, _, rfl, Blk.new _ _ _, hC.size, hC.alloc _⟩
    rintro _ ⟨_, b7, rfl, _, hb7, _⟩
    have Hb7 := hid hb7
    clear hb7
    simp only [Act.put, List.setIfInBounds_toArray, List.set_cons_zero, List.set_cons_succ]
    refine FlowT.s (fun _ w' => Blk w' b7 #[.int .u8 (x.f.kind.toNat : Int), .int .i64 x.f.fr, .int .i64 x.f.to, .int .i64 x.f.seq, .slice ax x.f.nums.length cx] 48 ∧ Ext w2 w') 11 rfl (by kernel_rfl) (fun _ _ _ ⟨e1, e2⟩ x => ⟨e1.ext x, e2.trans x⟩) (fun wa hC hk => ?_) ?_
    · obtain ⟨b', e, hB, _, hx⟩ := hC
      obtain rfl : b7 = b' := by simpa using e
      have c0 := hB.av 0 rfl
      have c1 := hB.av 1 rfl
      have c2 := hB.av 2 rfl
      have c3 := hB.av 3 rfl
      have c4 := hB.av 4 rfl
      have f0 := hB.free
      unfold does
      go_simp
      exact ⟨hk.trans ((store5_keep _ _ _ _ _ _ _).mono fun b _ e => by subst e; exact Hb7.out), store5 hB, Keep.new hx (store5_keep _ _ _ _ _ _ _) (fun b e => by subst e; exact Hb7.out)⟩
    rintro _ ⟨_, _⟩
    simp only [Act.put, List.setIfInBounds_toArray, List.set_cons_zero, List.set_cons_succ]
    repeat (apply FlowT.d; (intro w1 hk; unfold does; go_simp; (try go_ints); (first | exact DetR.mk | (simp only [↓IntWalk.iteOmega, Oper.doesUpon_value]; exact DetR.mk) | (simp only [↓IntWalk.iteOmega]; go_simp; (try go_ints); exact DetR.mk))); simp only [Act.put, List.setIfInBounds_toArray, List.set_cons_zero, List.set_cons_succ])
    refine FlowT.fin fun w3 hC hk3 => ?_
    obtain ⟨hB7, hx3⟩ := hC
    have Hx3 := hid hx3
    have HB7 := hid hB7
    clear g3 d3 hlk hB7 hx3 hk3
    go_wp2
    refine wp_flowT (fun _ => False) (by kernel_rfl) (by kernel_rfl) ?_
    repeat (apply FlowT.d; (intro w1 hk; unfold does; go_simp; (try go_ints); (first | exact DetR.mk | (simp only [↓IntWalk.iteOmega, Oper.doesUpon_value]; exact DetR.mk) | (simp only [↓IntWalk.iteOmega]; go_simp; (try go_ints); exact DetR.mk))); simp only [Act.put, List.setIfInBounds_toArray, List.set_cons_zero, List.set_cons_succ])
    refine FlowT.fin fun w4 hx4 hk4 => ?_
    have Hx4 := hid (Hx2.out.trans (Hx3.out.trans hx4))
    clear hx4 hk4
    go_wp2
    go_ret2
    exact ⟨rfl, Hx4.out⟩
  | none =>
    have hlt : f.seq < r.due := by
      rcases ho with h1 | h1
      · exact h1
      · rw [hfd] at h1; cases h1
    have hmv := mval_none (ms := ms) (k := f.seq) (by rw [← h.eq]; exact hfd)
    have Hmv := hid hmv
    have Hlt := hid hlt
    clear ho hfd hmv hlt
    clear hs1 hs2 hs3
    have HK := hid (fcheck_any f a cap _ ev (hr.ext ((Ext.refl w).alloc (.cells #[.int .u8 (f.kind.toNat : Int), .int .i64 f.fr, .int .i64 f.to, .int .i64 f.seq, .slice a f.nums.length cap] 48))) (by omega) (he.ext ((Ext.refl w).alloc _)))
    have hB := Blk.new w #[.int .u8 (f.kind.toNat : Int), .int .i64 f.fr, .int .i64 f.to, .int .i64 f.seq, .slice a f.nums.length cap] 48
    have hx0 := (Ext.refl w).alloc (.cells #[.int .u8 (f.kind.toNat : Int), .int .i64 f.fr, .int .i64 f.to, .int .i64 f.seq, .slice a f.nums.length cap] 48)
    simp only [hc, hE] at HK
    unfold frv at HK ⊢
    have Hr := hid hr
    have H := hid h
    have HB := hid hB
    have Hx0 := hid hx0
    clear hc hE hr h hB hx0
    go_enter Tryd.func22, Tryd.ntmps22
    go_wp2_with fail
    refine HK.out.mono ?_
    intro e w1 hx
    obtain ⟨rfl, hx1⟩ := hx
    have Hx1 := hid (Hx0.out.trans hx1)
    have HB1 := hid (HB.out.ext hx1)
    clear HK hx1 HB Hx0
    have s1 : (f.fr != r.fr) = false := by simp [S1.out]
    have s2 : (f.to != r.to) = false := by simp [S2.out]
    have s3 : ((f.kind.toNat : Int) == 97) = false := beq_eq_false_iff_ne.2 S3.out
    have h1 := H.out.ext Hx1.out
    generalize hN : w.heap.size = N at *
    have HN := hid hN
    clear hN
    go_wp2
    have d0 := HB1.out.kc (X := fun _ => False) (fun e => e) 0 rfl
    have d1 := HB1.out.kc (X := fun _ => False) (fun e => e) 1 rfl
    have d2 := HB1.out.kc (X := fun _ => False) (fun e => e) 2 rfl
    have g0 := h1.hp.kc (X := fun _ => False) (fun e => e) 0 rfl
    have g1 := h1.hp.kc (X := fun _ => False) (fun e => e) 1 rfl
    simp only [List.getElem_toArray, List.getElem_cons_zero, List.getElem_cons_succ] at d0 d1 d2 g0 g1
    refine wp_flowT (fun _ => False) (by kernel_rfl) (by kernel_rfl) ?_
    repeat (apply FlowT.d; (intro w1 hk; unfold does; go_simp; (try go_ints); (first | exact DetR.mk | (simp only [↓IntWalk.iteOmega, Oper.doesUpon_value]; exact DetR.mk) | (simp only [↓IntWalk.iteOmega]; go_simp; (try go_ints); exact DetR.mk))); simp only [Act.put, List.setIfInBounds_toArray, List.set_cons_zero, List.set_cons_succ])
    refine FlowT.fin fun w2 hx2 hk2 => ?_
    have Hx2 := hid (Hx1.out.trans hx2)
    have HB2 := hid (HB1.out.ext hx2)
    clear d0 d1 d2 g0 g1 hx2 hk2 HB1 Hx1 h1
    clear s1 s2 s3
    have h2 := H.out.ext Hx2.out
    have hlk : ∀ wa, Keep (fun g => w2.heap.size ≤ g) w2 wa → (Instr.lookup 89 (.map (some b)) (.int .i64 f.seq) true).run Tryd.prog wa = .ok (.tuple #[.agg #[.int .u8 0, .int .i64 0, .int .i64 0, .int .i64 0, .slice none 0 0], .bool false]) wa := fun wa hk => by
      have := run_map_lookup (P := Tryd.prog) Tryd.underlying89 Tryd.underlying3 (h2.hm.keep hk (by have := h2.hm.lt; omega)) f.seq (frame_zero wa)
      rw [Hmv.out] at this
      simpa [fr0] using this
    have g3 := h2.hp.kc (X := fun g => w2.heap.size ≤ g) (by have := h2.hp.lt; omega) 3 rfl
    have d3 := HB2.out.kc (X := fun g => w2.heap.size ≤ g) (by have := HB2.out.lt; omega) 3 rfl
    simp only [List.getElem_toArray, List.getElem_cons_zero, List.getElem_cons_succ] at g3 d3
    go_wp2
    refine wp_flowT (fun g => w2.heap.size ≤ g) (by kernel_rfl) (by kernel_rfl) ?_
    repeat (apply FlowT.d; (intro w1 hk; unfold does; go_simp; (try go_ints); (first | exact DetR.mk | (simp only [↓IntWalk.iteOmega, Oper.doesUpon_value]; exact DetR.mk) | (simp only [↓IntWalk.iteOmega]; go_simp; (try go_ints); exact DetR.mk))); simp only [Act.put, List.setIfInBounds_toArray, List.set_cons_zero, List.set_cons_succ])
    refine FlowT.s (fun v w' => ∃ b7, v = .pointer (some ⟨b7, 0, none⟩) ∧ Blk w' b7 frz 48 ∧ w2.heap.size ≤ b7 ∧ Ext w2 w') 10 rfl (by kernel_rfl) (fun _ _ _ ⟨b7, e1, e2, e3, e4⟩ x => ⟨b7, e1, e2.ext x, e3, e4.trans x⟩) (fun wa hC hk => ?_) ?_
    · unfold does
      go_simp
      exact ⟨hk.alloc _, _, rfl, Blk.new _ _ _, hC.size, hC.alloc _⟩
    rintro _ ⟨_, b7, rfl, _, hb7, _⟩
    have Hb7 := hid hb7
    clear hb7
    simp only [Act.put, List.setIfInBounds_toArray, List.set_cons_zero, List.set_cons_succ]
    refine FlowT.s (fun _ w' => Blk w' b7 #[.int .u8 0, .int .i64 0, .int .i64 0, .int .i64 0, .slice none 0 0] 48 ∧ Ext w2 w') 11 rfl (by kernel_rfl) (fun _ _ _ ⟨e1, e2⟩ x => ⟨e1.ext x, e2.trans x⟩) (fun wa hC hk => ?_) ?_
    · obtain ⟨b', e, hB, _, hx⟩ := hC
      obtain rfl : b7 = b' := by simpa using e
      have c0 := hB.av 0 rfl
      have c1 := hB.av 1 rfl
      have c2 := hB.av 2 rfl
      have c3 := hB.av 3 rfl
      have c4 := hB.av 4 rfl
      have f0 := hB.free
      unfold does
      go_simp
      exact ⟨hk.trans ((store5_keep _ _ _ _ _ _ _).mono fun b _ e => by subst e; exact Hb7.out), store5 hB, Keep.new hx (store5_keep _ _ _ _ _ _ _) (fun b e => by subst e; exact Hb7.out)⟩
    rintro _ ⟨_, _⟩
    simp only [Act.put, List.setIfInBounds_toArray, List.set_cons_zero, List.set_cons_succ]
    repeat (apply FlowT.d; (intro w1 hk; unfold does; go_simp; (try go_ints); (first | exact DetR.mk | (simp only [↓IntWalk.iteOmega, Oper.doesUpon_value]; exact DetR.mk) | (simp only [↓IntWalk.iteOmega]; go_simp; (try go_ints); exact DetR.mk))); simp only [Act.put, List.setIfInBounds_toArray, List.set_cons_zero, List.set_cons_succ])
    refine FlowT.fin fun w3 hC hk3 => ?_
    obtain ⟨hB7, hx3⟩ := hC
    have Hx3 := hid hx3
    have HB7 := hid hB7
    clear g3 d3 hlk hB7 hx3 hk3
    have hlt := Hlt.out
    have g2 := (h2.hp.ext Hx3.out).kc (X := fun _ => False) (fun e => e) 2 rfl
    have d3 := (HB2.out.ext Hx3.out).kc (X := fun _ => False) (fun e => e) 3 rfl
    simp only [List.getElem_toArray, List.getElem_cons_zero, List.getElem_cons_succ] at g2 d3
    go_wp2
    refine wp_flowT (fun _ => False) (by kernel_rfl) (by kernel_rfl) ?_
    repeat (apply FlowT.d; (intro w1 hk; unfold does; go_simp; (try go_ints); (first | exact DetR.mk | (simp only [↓IntWalk.iteOmega, Oper.doesUpon_value]; exact DetR.mk) | (simp only [↓IntWalk.iteOmega]; go_simp; (try go_ints); exact DetR.mk))); simp only [Act.put, List.setIfInBounds_toArray, List.set_cons_zero, List.set_cons_succ])
    refine FlowT.fin fun w4 hx4 hk4 => ?_
    have Hx4 := hid (Hx2.out.trans (Hx3.out.trans hx4))
    clear hx4 hk4
    go_wp2
    go_ret2
    exact ⟨rfl, Hx4.out⟩
end Go.Proofs.YtkabgmohgjljkaaDoor
