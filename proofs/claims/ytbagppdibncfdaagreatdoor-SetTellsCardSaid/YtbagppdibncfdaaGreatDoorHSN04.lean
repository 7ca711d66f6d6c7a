/- Texts of one proof, put together: ZZZH ZZZD S5 S6 W6 W1 W2 W3 W4 W7 W8 W9. -/
import Derived.Test.YtbagppdibncfdaaGreatDoorHSN01
import Derived.Test.YtbagppdibncfdaaGreatDoorHSN02
import Derived.Test.YtbagppdibncfdaaGreatDoorHSN03
import Derived.RangeFuncCalls
set_option linter.unusedSimpArgs false
set_option linter.unusedVariables false
namespace Go.Proofs.YtbagppdibncfdaaGreatDoor
open Go Go.RowKit Go.Shelf Go.Maps Go.Sort
abbrev SrK : Type := Nat × ByteArray
def SrI (w : World) (u : ByteArray) (x : SrK) (W : World) : Prop := ∃ vs, numsV ((cutc 44 u.data.toList).take x.1) = some vs ∧ x.1 ≤ (cutc 44 u.data.toList).length ∧ SrAt w vs x.2 W
def SrX (w : World) (u : ByteArray) (ad : Nat → Addr) (W : World) : Prop := numsV (cutc 44 u.data.toList) = none ∧ Ext w W ∧ Blk W w.heap.size #[.slice none 0 0] 45 ∧ Blk W (w.heap.size + 1) #[evOf ad 1] 35
def SrStep (u : ByteArray) (x : SrK) (v : Value) (y : SrK) : Prop := ∃ p : ByteArray, (cutc 44 u.data.toList)[x.1]? = some p.data.toList ∧ v = .string p ∧ y = (x.1 + 1, x.2)
theorem SrI.put {w : World} {u : ByteArray} {x : SrK} {W : World} (h : SrI w u x W) {l : Nat} {o : Obj} (o' : Obj) (hl : W.heap[l]? = some o) (ho : o.isCells = false) (hb : w.heap.size + 6 ≤ l) : SrI w u x (W.putObj l o') := by
  obtain ⟨vs, h1, h2, h3⟩ := h
  exact ⟨vs, h1, h2, h3.put o' hl ho hb⟩
theorem SrX.put {w : World} {u : ByteArray} {ad : Nat → Addr} {W : World} (h : SrX w u ad W) {l : Nat} (o' : Obj) (hb : w.heap.size + 6 ≤ l) : SrX w u ad (W.putObj l o') := by
  obtain ⟨h1, h2, h3, h4⟩ := h
  have k := keep_put W l o'
  exact ⟨h1, Keep.new h2 k fun n hn => by omega, h3.keep k (by omega), h4.keep k (by omega)⟩
theorem rd_good {u : ByteArray} {k : Nat} {p : List UInt8} {vs : List Int} {v : Int} (hk : (cutc 44 u.data.toList)[k]? = some p) (h : numsV ((cutc 44 u.data.toList).take k) = some vs) (hv : numV p = some v) : numsV ((cutc 44 u.data.toList).take (k + 1)) = some (vs ++ [v]) ∧ k + 1 ≤ (cutc 44 u.data.toList).length := by
  refine ⟨?_, (List.getElem?_eq_some_iff.1 hk).1⟩
  rw [List.take_add_one, hk]
  show numsV (_ ++ [p]) = _
  rw [numsV_snoc, h, hv]
set_option maxRecDepth 100000 in
set_option maxHeartbeats 4000000 in
theorem setread_bad (s s1 s2 : ByteArray) (a b : Bool) (w : World) (ad : Nat → Addr) (he1 : w.cell? ⟨4, 0, none⟩ = some (evOf ad 1))
    (HP : ∀ w1, Hid (Calls Tryz.prog 91 #[.string s, .string ⟨#[123]⟩] w1 fun e w' => e = .returned (.tuple #[.string s1, .bool a]) ∧ w' = w1))
    (HS : ∀ w1, Hid (Calls Tryz.prog 92 #[.string s1, .string ⟨#[125]⟩] w1 fun e w' => e = .returned (.tuple #[.string s2, .bool b]) ∧ w' = w1)) (hab : ¬ (a = true ∧ b = true)) :
    Calls Tryz.prog 39 #[.string s] w fun e w' => e = .returned (.tuple #[.slice none 0 0, evOf ad 1]) ∧ Ext w w' := by
  refine (callsIn_wide (n := 3)).1 ?_
  have hro : Fence.wide.round = none := rfl
  have mixed : Tryz.prog.follows .mixedOrders = true := by kernel_rfl
  have hev : evOf ad 1 = .iface 282 (.pointer (some (ad 1))) := rfl
  have g1 : (((w.alloc (.cells #[.slice none 0 0] 45)).alloc (.cells #[.nilIface] 35))).cell? ⟨4, 0, none⟩ = some (.iface 282 (.pointer (some (ad 1)))) := (((Ext.refl w).alloc _).alloc _).cellx he1
  refine callsIn_of_wp_marks Tryz.func39 rfl trivial ?_ hro
  simp only [Tryz.ntmps39, List.size_toArray, List.length_cons, List.length_nil, Nat.reduceAdd, Nat.reduceSub, Array.replicate_succ, Array.replicate_zero, List.push_toArray, List.append_toArray, List.nil_append, List.cons_append]
  have hor : (!a || !b) = true := by cases a <;> cases b <;> simp_all
  cases a <;> cases b
  case true.true => exact absurd ⟨rfl, rfl⟩ hab
  all_goals
    clear hab hor
    gi_wp2_with (
      (first
        | (refine ⟨trivial, ?_⟩; gi_at_call 91; refine (callsIn_wide.2 (HP _).out).mono ?_; rintro e w' ⟨rfl, rfl⟩)
        | (refine ⟨trivial, ?_⟩; gi_at_call 92; refine (callsIn_wide.2 (HS _).out).mono ?_; rintro e w' ⟨rfl, rfl⟩))
    )
    gi_region
    gi_wp2
    refine ⟨.tuple #[.slice none 0 0, .iface 282 (.pointer (some (ad 1)))], ?_, rfl, (((Ext.refl w).alloc _).alloc _).drew⟩
    simp [results, Tryz.results39, go_sem]
set_option maxRecDepth 100000 in
set_option maxHeartbeats 4000000 in
theorem setread_empty (s s1 u : ByteArray) (hu : u = ⟨#[]⟩) (w : World)
    (HP : ∀ w1, Hid (Calls Tryz.prog 91 #[.string s, .string ⟨#[123]⟩] w1 fun e w' => e = .returned (.tuple #[.string s1, .bool true]) ∧ w' = w1))
    (HS : ∀ w1, Hid (Calls Tryz.prog 92 #[.string s1, .string ⟨#[125]⟩] w1 fun e w' => e = .returned (.tuple #[.string u, .bool true]) ∧ w' = w1)) :
    Calls Tryz.prog 39 #[.string s] w fun e w' => e = .returned (.tuple #[.slice none 0 0, .nilIface]) ∧ Ext w w' := by
  refine (callsIn_wide (n := 3)).1 ?_
  have hro : Fence.wide.round = none := rfl
  subst hu
  refine callsIn_of_wp_marks Tryz.func39 rfl trivial ?_ hro
  simp only [Tryz.ntmps39, List.size_toArray, List.length_cons, List.length_nil, Nat.reduceAdd, Nat.reduceSub, Array.replicate_succ, Array.replicate_zero, List.push_toArray, List.append_toArray, List.nil_append, List.cons_append]
  gi_wp2_with (
    (first
      | (refine ⟨trivial, ?_⟩; gi_at_call 91; refine (callsIn_wide.2 (HP _).out).mono ?_; rintro e w' ⟨rfl, rfl⟩)
      | (refine ⟨trivial, ?_⟩; gi_at_call 92; refine (callsIn_wide.2 (HS _).out).mono ?_; rintro e w' ⟨rfl, rfl⟩))
  )
  refine ⟨.tuple #[.slice none 0 0, .nilIface], ?_, rfl, ((Ext.refl w).alloc _).alloc _⟩
  simp [results, Tryz.results39, go_sem]
def toldV (u : List UInt8) : Nat × List Int := match numsV (cutc 44 u) with | none => (1, []) | some l => if chkE l = 0 then (0, l) else (chkE l, [])
section
attribute [local go_sem] Oper.semAt_some
set_option maxRecDepth 100000 in
set_option maxHeartbeats 8000000 in
theorem setread_some (s s1 u : ByteArray) (hu : (u.toList == []) = false) (hus : u.size ≤ 1000000) (w : World) (ad : Nat → Addr) (he1 : w.cell? ⟨4, 0, none⟩ = some (evOf ad 1)) (hE : ErrS w ad) (hT : ∀ w1, Ext w w1 → Lib.TabIs Tryz.prog w1 "internal/strconv.uint64pow10" .u64 Lib.pow10Tab) (hV : AtoiOk w)
    (HP : ∀ w1, Hid (Calls Tryz.prog 91 #[.string s, .string ⟨#[123]⟩] w1 fun e w' => e = .returned (.tuple #[.string s1, .bool true]) ∧ w' = w1))
    (HS : ∀ w1, Hid (Calls Tryz.prog 92 #[.string s1, .string ⟨#[125]⟩] w1 fun e w' => e = .returned (.tuple #[.string u, .bool true]) ∧ w' = w1)) :
    Calls Tryz.prog 39 #[.string s] w fun e w' => ∃ v c l, e = .returned (.tuple #[v, errv (evOf ad) c]) ∧ toldV u.data.toList = (c, l) ∧ IRow w.heap.size w' v l ∧ Ext w w' := by
  refine (callsIn_wide (n := 3)).1 ?_
  have hro : Fence.wide.round = none := rfl
  have mixed : Tryz.prog.follows .mixedOrders = true := by kernel_rfl
  have HQ := fun w1 => hid (splitseq_any u ⟨#[44]⟩ w1)
  have HV := hid hV
  have HT := hid hT
  have HE := hid hE
  have HE1 := hid he1
  clear hV hT hE he1
  refine callsIn_of_wp_marks Tryz.func39 rfl trivial ?_ hro
  simp only [Tryz.ntmps39, List.size_toArray, List.length_cons, List.length_nil, Nat.reduceAdd, Nat.reduceSub, Array.replicate_succ, Array.replicate_zero, List.push_toArray, List.append_toArray, List.nil_append, List.cons_append]
  gi_wp2_with (first
    | (refine ⟨trivial, ?_⟩; gi_at_call 93; refine (callsIn_wide.2 (HQ _).out).mono ?_; rintro e w' ⟨rfl, rfl⟩)
    |
    (first
      | (refine ⟨trivial, ?_⟩; gi_at_call 91; refine (callsIn_wide.2 (HP _).out).mono ?_; rintro e w' ⟨rfl, rfl⟩)
      | (refine ⟨trivial, ?_⟩; gi_at_call 92; refine (callsIn_wide.2 (HS _).out).mono ?_; rintro e w' ⟨rfl, rfl⟩))
  )
  obtain ⟨W0, hW0⟩ : ∃ W0, W0 = (((((w.alloc (.cells #[.slice none 0 0] 45)).alloc (.cells #[.nilIface] 35)).alloc (.cells #[.slice none 0 0] 45)).alloc (.cells #[.string u] 9)).alloc (.cells #[.string ⟨#[44]⟩] 9)).alloc (.cells #[.int .i64 0] 3) := ⟨_, rfl⟩
  have hs0 : W0.heap.size = w.heap.size + 6 := by rw [hW0]; simp only [heap_size_alloc]
  have hx0 : Ext w W0 := by rw [hW0]; exact ((((((Ext.refl w).alloc _).alloc _).alloc _).alloc _).alloc _).alloc _
  have hR0 : SrAt w [] u W0 := by
    have bb : ∀ (W : World) (c : Array Value) (e : TypeId) (n : Nat), W.heap.size = n → Blk (W.alloc (.cells c e)) n c e := fun W c e n h => h ▸ Blk.new W c e
    rw [hW0]
    refine ⟨hW0 ▸ hx0, ?_, ?_, ⟨.slice none 0 0, ?_, IRow.nil _ _⟩, ?_, ?_, ?_⟩
    · exact (((((bb w _ _ _ rfl).alloc _).alloc _).alloc _).alloc _).alloc _
    · exact ((((bb _ _ _ (w.heap.size + 1) (by simp only [heap_size_alloc])).alloc _).alloc _).alloc _).alloc _
    · exact (((bb _ _ _ (w.heap.size + 2) (by simp only [heap_size_alloc])).alloc _).alloc _).alloc _
    · exact ((bb _ _ _ (w.heap.size + 3) (by simp only [heap_size_alloc])).alloc _).alloc _
    · exact (bb _ _ _ (w.heap.size + 4) (by simp only [heap_size_alloc])).alloc _
    · exact bb _ _ _ (w.heap.size + 5) (by simp only [heap_size_alloc])
  rw [← hW0]
  clear hW0 HQ HP HS
  refine range_mine (n := 3) (gf := 177) (lb := #[.pointer (some ⟨w.heap.size + 4, 0, none⟩), .pointer (some ⟨w.heap.size + 3, 0, none⟩), .pointer (some ⟨w.heap.size + 5, 0, none⟩)]) (by omega) rfl (enters_of Tryz.func177 (by kernel_rfl) rfl) rfl (SrI w u) (SrX w u ad) (SrStep u) (fun z => z.1 = (cutc 44 u.data.toList).length) (0, u) ?hI ?hIa ?hIx ?h0 ?seq ?round ?done ?stop
  case hI => exact fun x W l o o' h hl ho hb => h.put o' hl ho (by omega)
  case hIa => exact fun x W o ⟨vs, a1, a2, a3⟩ => ⟨vs, a1, a2, a3.ext ((Ext.refl _).alloc o)⟩
  case hIx => exact fun W l o o' h hl ho hb => h.put o' (by omega)
  case h0 => exact ⟨[], rfl, Nat.zero_le _, hR0⟩
  case seq =>
    intro l J Jx W hJI hset hY h0
    refine (splitc_in 2 (by omega) l (w.heap.size + 3) (w.heap.size + 4) (w.heap.size + 5) 44 u hus (fun k t V => J (k, t) V) Jx ?_ ?_ ?_ W h0).mono ?_
    · intro k t V h
      obtain ⟨vs, _, _, h3⟩ := hJI _ _ h
      exact ⟨h3.s.av 0 rfl, h3.s.free 0, h3.p.av 0 rfl, h3.z.av 0 rfl⟩
    · intro k t t' V h
      obtain ⟨vs, a1, a2, h3⟩ := hJI _ _ h
      exact hset (k, t) (k, t') V _ _ h ⟨vs, a1, a2, h3.setS t'⟩
    · intro k t p V hj hk
      exact hY (k, t) (.string p) (k + 1, t) V ⟨p, hk, rfl, rfl⟩ hj
    · rintro e W' ⟨h1, ⟨t, h2⟩ | h2⟩
      · exact ⟨h1, .inl ⟨_, rfl, h2⟩⟩
      · exact ⟨h1, .inr h2⟩
  case stop =>
    rintro D W hDs ⟨hn, hx, hb0, hb1⟩ hD
    have k := keep_put W D (.deferred none)
    have c0 := (hb0.keep k (by omega)).av 0 rfl
    have c1 := (hb1.keep k (by omega)).av 0 rfl
    have hxe : Ext w (W.putObj D (.deferred none)) := Keep.new hx k fun n hn => by omega
    unfold evOf at c1
    simp only [qA0, qA1] at c0 c1
    gi_wp2
    refine ⟨by simp, .inl ⟨_, _, rfl, run_takeDeferred hD, ?_⟩⟩
    refine ⟨.tuple #[.slice none 0 0, .iface 282 (.pointer (some (ad 1)))], ?_, ⟨.slice none 0 0, 1, [], rfl, ?_, IRow.nil _ _, hxe⟩⟩
    · simp [results, Tryz.results39, go_sem, c0, c1]
    · unfold toldV
      rw [hn]
  case done =>
    rintro D ⟨k, t⟩ W hDs hk ⟨vs, hvs, hle, hrd⟩ hD
    obtain rfl : k = (cutc 44 u.data.toList).length := hk
    rw [List.take_of_length_le (Nat.le_refl _)] at hvs
    obtain ⟨v, hv, hrow⟩ := hrd.out
    obtain ⟨a, c, rfl⟩ := hrow.form
    have HK := hid (setcheck_any _ vs W W.heap.size ad (HE.out.ext hrd.x) (IntsR.own hrow (Nat.le_refl _)))
    have c2 := hv.av 0 rfl
    simp only [qA0, qA1] at c2
    have Hrow := hid hrow
    have Hrd := hid hrd
    have Hv := hid hv
    have HD := hid hD
    clear hrow hrd hv hD
    have hDne : D ≠ w.heap.size ∧ D ≠ w.heap.size + 1 := ⟨by omega, by omega⟩
    have Hne := hid hDne
    have Hvs := hid hvs
    clear hvs
    gi_wp2_with fail
    refine ⟨trivial, (callsIn_wide.2 HK.out).mono ?_⟩
    rintro e W2 ⟨rfl, hx2⟩
    have Hrd2 := hid (Hrd.out.ext hx2)
    have Hrow2 := hid (Hrow.out.ext hx2)
    have HD2 : Hid (W2.heap[D]? = some (.deferred (some []))) := hid (hx2.get HD.out)
    have c0 := Hrd2.out.b0.av 0 rfl
    have f0 := Hrd2.out.b0.free 0
    have c1 := Hrd2.out.b1.av 0 rfl
    have f1 := Hrd2.out.b1.free 0
    have c2 := (Hv.out.ext hx2).av 0 rfl
    simp only [qA0, qA1] at c0 c1 c2
    clear HK hx2
    by_cases hc : chkE vs = 0
    · rw [errv_no hc]
      have Hc := hid hc
      clear hc
      gi_wp2
      have k1 : Keep (fun b => b = w.heap.size ∨ b = w.heap.size + 1) W2 ((W2.setCell ⟨w.heap.size, 0, none⟩ (.slice a vs.length c)).setCell ⟨w.heap.size + 1, 0, none⟩ .nilIface) := Keep.set (X := fun b => b = w.heap.size ∨ b = w.heap.size + 1) (Keep.set (X := fun b => b = w.heap.size ∨ b = w.heap.size + 1) (Keep.refl _ _) (.inl rfl) _) (.inr rfl) _
      have z0 : Blk ((W2.setCell ⟨w.heap.size, 0, none⟩ (.slice a vs.length c)).setCell ⟨w.heap.size + 1, 0, none⟩ .nilIface) w.heap.size #[(.slice a vs.length c)] 45 := (Hrd2.out.b0.set 0 (.slice a vs.length c)).set_ne (by show w.heap.size + 1 ≠ _; omega) _
      have z1 : Blk ((W2.setCell ⟨w.heap.size, 0, none⟩ (.slice a vs.length c)).setCell ⟨w.heap.size + 1, 0, none⟩ .nilIface) (w.heap.size + 1) #[.nilIface] 35 := (Hrd2.out.b1.set_ne (by show w.heap.size ≠ _; omega) _).set 0 .nilIface
      have zD : ((W2.setCell ⟨w.heap.size, 0, none⟩ (.slice a vs.length c)).setCell ⟨w.heap.size + 1, 0, none⟩ .nilIface).heap[D]? = some (.deferred (some [])) := k1.get HD2.out (by omega)
      have zr : IRow (w.heap.size + 6) ((W2.setCell ⟨w.heap.size, 0, none⟩ (.slice a vs.length c)).setCell ⟨w.heap.size + 1, 0, none⟩ .nilIface) (.slice a vs.length c) vs := Hrow2.out.keep k1 fun b hb hx => by have := (Hrow2.out.lt hb).1; omega
      obtain ⟨W3, hW3⟩ : ∃ W3, W3 = (W2.setCell ⟨w.heap.size, 0, none⟩ (.slice a vs.length c)).setCell ⟨w.heap.size + 1, 0, none⟩ .nilIface := ⟨_, rfl⟩
      rw [← hW3] at k1 z0 z1 zD zr ⊢
      have kp := keep_put W3 D (.deferred none)
      have y0 := (z0.keep kp (by omega)).av 0 rfl
      have y1 := (z1.keep kp (by omega)).av 0 rfl
      simp only [qA0, qA1] at y0 y1
      have hxe : Ext w (W3.putObj D (.deferred none)) := Keep.new (Keep.new Hrd2.out.x k1 fun n hn => by omega) kp fun n hn => by omega
      have zr2 := zr.keep kp fun b hb hx => by
        subst hx
        obtain ⟨cc, hcc⟩ := own_ty zr hb
        have := (show W3.heap[b]? = _ from hcc).symm.trans zD
        cases this
      clear hW3
      refine ⟨by simp, .inl ⟨_, _, rfl, run_takeDeferred zD, ?_⟩⟩
      refine ⟨.tuple #[(.slice a vs.length c), .nilIface], ?_, ⟨(.slice a vs.length c), 0, vs, ?_, ?_, zr2.base (by omega), hxe⟩⟩
      · simp [results, Tryz.results39, go_sem, y0, y1]
      · rfl
      · unfold toldV
        rw [Hvs.out]
        simp only
        rw [if_pos Hc.out]
    · rw [errv_yes hc]
      have Hc := hid hc
      clear hc
      gi_wp2
      have k1 : Keep (fun b => b = w.heap.size ∨ b = w.heap.size + 1) W2 ((W2.setCell ⟨w.heap.size, 0, none⟩ (.slice none 0 0)).setCell ⟨w.heap.size + 1, 0, none⟩ (.iface 282 (.pointer (some (ad (chkE vs)))))) := Keep.set (X := fun b => b = w.heap.size ∨ b = w.heap.size + 1) (Keep.set (X := fun b => b = w.heap.size ∨ b = w.heap.size + 1) (Keep.refl _ _) (.inl rfl) _) (.inr rfl) _
      have z0 : Blk ((W2.setCell ⟨w.heap.size, 0, none⟩ (.slice none 0 0)).setCell ⟨w.heap.size + 1, 0, none⟩ (.iface 282 (.pointer (some (ad (chkE vs)))))) w.heap.size #[(.slice none 0 0)] 45 := (Hrd2.out.b0.set 0 (.slice none 0 0)).set_ne (by show w.heap.size + 1 ≠ _; omega) _
      have z1 : Blk ((W2.setCell ⟨w.heap.size, 0, none⟩ (.slice none 0 0)).setCell ⟨w.heap.size + 1, 0, none⟩ (.iface 282 (.pointer (some (ad (chkE vs)))))) (w.heap.size + 1) #[(.iface 282 (.pointer (some (ad (chkE vs)))))] 35 := (Hrd2.out.b1.set_ne (by show w.heap.size ≠ _; omega) _).set 0 (.iface 282 (.pointer (some (ad (chkE vs)))))
      have zD : ((W2.setCell ⟨w.heap.size, 0, none⟩ (.slice none 0 0)).setCell ⟨w.heap.size + 1, 0, none⟩ (.iface 282 (.pointer (some (ad (chkE vs)))))).heap[D]? = some (.deferred (some [])) := k1.get HD2.out (by omega)
      have zr : IRow (w.heap.size + 6) ((W2.setCell ⟨w.heap.size, 0, none⟩ (.slice none 0 0)).setCell ⟨w.heap.size + 1, 0, none⟩ (.iface 282 (.pointer (some (ad (chkE vs)))))) (.slice a vs.length c) vs := Hrow2.out.keep k1 fun b hb hx => by have := (Hrow2.out.lt hb).1; omega
      obtain ⟨W3, hW3⟩ : ∃ W3, W3 = (W2.setCell ⟨w.heap.size, 0, none⟩ (.slice none 0 0)).setCell ⟨w.heap.size + 1, 0, none⟩ (.iface 282 (.pointer (some (ad (chkE vs))))) := ⟨_, rfl⟩
      rw [← hW3] at k1 z0 z1 zD zr ⊢
      have kp := keep_put W3 D (.deferred none)
      have y0 := (z0.keep kp (by omega)).av 0 rfl
      have y1 := (z1.keep kp (by omega)).av 0 rfl
      simp only [qA0, qA1] at y0 y1
      have hxe : Ext w (W3.putObj D (.deferred none)) := Keep.new (Keep.new Hrd2.out.x k1 fun n hn => by omega) kp fun n hn => by omega
      have zr2 := zr.keep kp fun b hb hx => by
        subst hx
        obtain ⟨cc, hcc⟩ := own_ty zr hb
        have := (show W3.heap[b]? = _ from hcc).symm.trans zD
        cases this
      clear hW3
      refine ⟨by simp, .inl ⟨_, _, rfl, run_takeDeferred zD, ?_⟩⟩
      refine ⟨.tuple #[(.slice none 0 0), (.iface 282 (.pointer (some (ad (chkE vs)))))], ?_, ⟨(.slice none 0 0), (chkE vs), [], ?_, ?_, IRow.nil _ _, hxe⟩⟩
      · simp [results, Tryz.results39, go_sem, y0, y1]
      · rw [errv_yes Hc.out]
      · unfold toldV
        rw [Hvs.out]
        simp only
        rw [if_neg Hc.out]
  case round =>
    rintro l ⟨k, t⟩ v y W ⟨p, hp, rfl, rfl⟩ ⟨_, _, _, _⟩
    have hps : p.size ≤ 1000000 := by
      have := (cutc_len 44 u.data.toList).2 _ (List.mem_of_getElem? hp)
      rw [bs_list, bs_list] at this
      omega
    have Hp := hid hp
    clear hp
    gi_wp2_with (
      (rw [Oper.semAt_eq _ _ _ (fun c h => by cases h)]; go_simp; try go_bits)
    )
    intro Wb hb
    obtain ⟨vs, hvs, hle, hrd⟩ := hb
    have Hvs := hid hvs
    have Hrd := hid hrd
    have HAt := hid (atoi_any p hps Wb (HV.out.ext hrd.x))
    clear hvs hrd
    gi_wp2_with (
      (rw [Oper.semAt_eq _ _ _ (fun c h => by cases h)]; go_simp; try go_bits)
    )
    refine ⟨trivial, (CallsIn.inRound l (callsIn_wide.2 HAt.out)).mono ?_⟩
    rintro e W1 ⟨n, ev, rfl, hx1, hcase⟩
    have Hrd1 := hid (Hrd.out.ext hx1)
    have Hk1 := hid (ext_others hx1)
    clear HAt hx1
    rcases hcase with ⟨hok, rfl⟩ | ⟨hno, te, pe, rfl⟩
    · obtain ⟨nb0, nb1⟩ := Lib.atoiAll_bounds hok
      have Hok := hid hok
      clear hok
      by_cases h9 : (9 : Int) < (p.size : Int)
      · have Hb : Hid (numV p.data.toList = none) := hid (by
          unfold numV
          rw [Hok.out]
          simp only
          rw [if_neg fun h => by have := h.1; rw [bs_list] at this; omega])
        have c0 := Hrd1.out.b0.av 0 rfl
        have f0 := Hrd1.out.b0.free 0
        have c1 := Hrd1.out.b1.av 0 rfl
        have f1 := Hrd1.out.b1.free 0
        have g1 : W1.cell? ⟨4, 0, none⟩ = some (.iface 282 (.pointer (some (ad 1)))) := Hrd1.out.x.cellx HE1.out
        have k0 : Keep (fun b => b = w.heap.size) W1 (W1.setCell ⟨w.heap.size, 0, none⟩ (.slice none 0 0)) := Keep.set (X := fun b => b = w.heap.size) (Keep.refl _ _) rfl _
        have g2 : (W1.setCell ⟨w.heap.size, 0, none⟩ (.slice none 0 0)).cell? ⟨4, 0, none⟩ = some (.iface 282 (.pointer (some (ad 1)))) := k0.cellx g1 (by have := cell_lt HE1.out; exact Nat.ne_of_lt this)
        have kx : Keep (fun b => b = w.heap.size ∨ b = w.heap.size + 1) W1 ((W1.setCell ⟨w.heap.size, 0, none⟩ (.slice none 0 0)).setCell ⟨w.heap.size + 1, 0, none⟩ (.iface 282 (.pointer (some (ad 1))))) := Keep.set (X := fun b => b = w.heap.size ∨ b = w.heap.size + 1) (Keep.set (X := fun b => b = w.heap.size ∨ b = w.heap.size + 1) (Keep.refl _ _) (.inl rfl) _) (.inr rfl) _
        have hfin : Hid (KeepsOthers Wb ((W1.setCell ⟨w.heap.size, 0, none⟩ (.slice none 0 0)).setCell ⟨w.heap.size + 1, 0, none⟩ (.iface 282 (.pointer (some (ad 1))))).drew ∧ SrX w u ad ((W1.setCell ⟨w.heap.size, 0, none⟩ (.slice none 0 0)).setCell ⟨w.heap.size + 1, 0, none⟩ (.iface 282 (.pointer (some (ad 1))))).drew) := hid
          ⟨Hk1.out.trans (((KeepsOthers.setCell _ _ _).trans (KeepsOthers.setCell _ _ _)).trans (KeepsOthers.drew _)), numsV_bad Hp.out Hb.out, (Keep.new Hrd1.out.x kx fun n hn => by omega).drew, ((Hrd1.out.b0.set 0 _).set_ne (by show w.heap.size + 1 ≠ _; omega) _).drew, ((Hrd1.out.b1.set_ne (by show w.heap.size ≠ _; omega) _).set 0 _).drew⟩
        simp only [qA0, qA1] at c0 c1
        clear k0 kx
        gi_wp2_with (
          (refine ⟨trivial, ?_⟩)
        )
        refine region3 mixed rfl (by kernel_rfl) (by kernel_rfl) (by kernel_rfl) (by kernel_rfl) (by kernel_rfl) ?_ ?_
        all_goals
          unfold wpOpIn
          go_simp
          gi_wp2
          exact hfin.out
      · by_cases hn0 : n < 0
        · have Hb : Hid (numV p.data.toList = none) := hid (by
            unfold numV
            rw [Hok.out]
            simp only
            rw [if_neg fun h => by have := h.2.1; omega])
          have c0 := Hrd1.out.b0.av 0 rfl
          have f0 := Hrd1.out.b0.free 0
          have c1 := Hrd1.out.b1.av 0 rfl
          have f1 := Hrd1.out.b1.free 0
          have g1 : W1.cell? ⟨4, 0, none⟩ = some (.iface 282 (.pointer (some (ad 1)))) := Hrd1.out.x.cellx HE1.out
          have k0 : Keep (fun b => b = w.heap.size) W1 (W1.setCell ⟨w.heap.size, 0, none⟩ (.slice none 0 0)) := Keep.set (X := fun b => b = w.heap.size) (Keep.refl _ _) rfl _
          have g2 : (W1.setCell ⟨w.heap.size, 0, none⟩ (.slice none 0 0)).cell? ⟨4, 0, none⟩ = some (.iface 282 (.pointer (some (ad 1)))) := k0.cellx g1 (by have := cell_lt HE1.out; exact Nat.ne_of_lt this)
          have kx : Keep (fun b => b = w.heap.size ∨ b = w.heap.size + 1) W1 ((W1.setCell ⟨w.heap.size, 0, none⟩ (.slice none 0 0)).setCell ⟨w.heap.size + 1, 0, none⟩ (.iface 282 (.pointer (some (ad 1))))) := Keep.set (X := fun b => b = w.heap.size ∨ b = w.heap.size + 1) (Keep.set (X := fun b => b = w.heap.size ∨ b = w.heap.size + 1) (Keep.refl _ _) (.inl rfl) _) (.inr rfl) _
          have hfin : Hid (KeepsOthers Wb ((W1.setCell ⟨w.heap.size, 0, none⟩ (.slice none 0 0)).setCell ⟨w.heap.size + 1, 0, none⟩ (.iface 282 (.pointer (some (ad 1))))).drew ∧ SrX w u ad ((W1.setCell ⟨w.heap.size, 0, none⟩ (.slice none 0 0)).setCell ⟨w.heap.size + 1, 0, none⟩ (.iface 282 (.pointer (some (ad 1))))).drew) := hid
            ⟨Hk1.out.trans (((KeepsOthers.setCell _ _ _).trans (KeepsOthers.setCell _ _ _)).trans (KeepsOthers.drew _)), numsV_bad Hp.out Hb.out, (Keep.new Hrd1.out.x kx fun n hn => by omega).drew, ((Hrd1.out.b0.set 0 _).set_ne (by show w.heap.size + 1 ≠ _; omega) _).drew, ((Hrd1.out.b1.set_ne (by show w.heap.size ≠ _; omega) _).set 0 _).drew⟩
          simp only [qA0, qA1] at c0 c1
          clear k0 kx
          gi_wp2_with (
            (refine ⟨trivial, ?_⟩)
          )
          refine region3 mixed rfl (by kernel_rfl) (by kernel_rfl) (by kernel_rfl) (by kernel_rfl) (by kernel_rfl) ?_ ?_
          all_goals
            unfold wpOpIn
            go_simp
            gi_wp2
            exact hfin.out
        · have HI := hid (Tryz.strconv_Itoa n (by omega) (by omega) W1 (HT.out W1 Hrd1.out.x))
          gi_wp2_with fail
          refine ⟨trivial, (CallsIn.inRound l (callsIn_wide.2 HI.out)).mono ?_⟩
          rintro e W2 ⟨rfl, dk, os, hw2⟩
          have hx2 : Ext W1 W2 := by rw [hw2]; exact Lib.below_grow _ W1 (Nat.le_refl _) dk os
          have Hrd2 := hid (Hrd1.out.ext hx2)
          have Hk2 := hid (Hk1.out.trans (ext_others hx2))
          obtain ⟨d, hd⟩ : ∃ d : ByteArray, d = ⟨(Lib.itoa n).toArray⟩ := ⟨_, rfl⟩
          rw [← hd]
          have Hd : Hid (d.toList = Lib.itoa n) := hid (by rw [hd, Lib.toList_data])
          clear HI hw2 hx2 hd
          by_cases hq : (d.toList == p.toList) = true
          · have Hg : Hid (numV p.data.toList = some n) := hid (by
              have := eq_of_beq hq
              rw [Hd.out, Lib.toList_data] at this
              unfold numV
              rw [Hok.out]
              simp only
              rw [if_pos ⟨by rw [bs_list]; omega, by omega, this⟩])
            obtain ⟨v, hv, hrow⟩ := Hrd2.out.out
            obtain ⟨a, c, rfl⟩ := hrow.form
            have hlen : vs.length ≤ 1000001 := by
              rw [numsV_len Hvs.out, List.length_take]
              have := (cutc_len 44 u.data.toList).1
              rw [bs_list] at this
              omega
            obtain ⟨i0, hi, hz0, hz1, hz2⟩ := info_parts ints_info
            have c2 := hv.av 0 rfl
            have f2 := hv.free 0
            have Hv := hid hv
            have Hrow := hid hrow
            have hb6 : w.heap.size + 6 ≤ W2.heap.size := by have := Hrd2.out.z.lt; omega
            simp only [qA0, qA1] at c2
            clear hv hrow
            gi_wp2_with (first
              | (gi_at_builtin; refine wpListIn_append_own _ rfl _ _ 45 rfl (w.heap.size + 6) 3 i0 (.int .i64 0) 1 8 Tryz.underlying45 hi hz0 hz1 hz2 rfl (by decide) _ _ _ rfl (own_ext Hrow.out ((Ext.refl _).alloc _)) ⟨W2.heap.size, 0, none⟩ 1 1 [.int .i64 n] rfl rfl (cell_one_new _ _ _) (by simp [Value.oneCell']) (by simp only [maxLen]; omega) (by omega) (by rw [heap_size_alloc]; omega) ?_
                 intro v' w3 hown' hg3 hnil3
                 obtain ⟨a', c', rfl⟩ := row_form hown'
                 have g3 : (W2.alloc (.cells #[.int .i64 n] 3)).grownBy w3 (Value.slice a vs.length c).ownBlock := hg3
                 have k3 : Keep (fun k => (Value.slice a vs.length c).ownBlock = some k) (W2.alloc (.cells #[.int .i64 n] 3)) w3 := grown_keep g3
                 have hv3 := (Hv.out.alloc (.cells #[.int .i64 n] 3)).keep k3 (fun e => by have := (Hrow.out.lt e).1; omega)
                 have c3 := hv3.av 0 rfl
                 have f3 := hv3.free 0
                 simp only [qA0, qA1] at c3
                 have H3 := hid hown'
                 have G3 := hid g3
                 have V3 := hid hv3
                 have K3 := hid k3
                 clear hown' hg3 hnil3 hv3 k3 g3)
              | (refine ⟨trivial, ?_⟩))
            have hgood := rd_good Hp.out Hvs.out Hg.out
            have hot : KeepsOthers (W2.alloc (.cells #[.int .i64 n] 3)) w3 := KeepsOthers.of_grownBy G3.out fun j o hj ho => by
              obtain ⟨cc, hcc⟩ := own_ty (own_ext Hrow.out ((Ext.refl W2).alloc (.cells #[.int .i64 n] 3))) hj
              rw [Option.some.inj (ho.symm.trans hcc)]
              rfl
            have KX : Keep (fun b => (Value.slice a vs.length c).ownBlock = some b ∨ b = w.heap.size + 2) (W2.alloc (.cells #[.int .i64 n] 3)) (w3.setCell ⟨w.heap.size + 2, 0, none⟩ (.slice a' (vs.length + 1) c')) :=
              Keep.set (X := fun b => (Value.slice a vs.length c).ownBlock = some b ∨ b = w.heap.size + 2) (K3.out.mono fun _ _ h => .inl h) (.inr rfl) _
            have ne : ∀ b, b < w.heap.size + 6 → b ≠ w.heap.size + 2 → ¬ ((Value.slice a vs.length c).ownBlock = some b ∨ b = w.heap.size + 2) := fun b h1 h2 h => h.elim (fun e => by have := (Hrow.out.lt e).1; omega) h2
            have ha := Hrd2.out.ext ((Ext.refl W2).alloc (.cells #[.int .i64 n] 3))
            refine ⟨Hk2.out.trans (((KeepsOthers.alloc _ _).trans hot).trans (KeepsOthers.setCell _ _ _)), vs ++ [n], hgood.1, hgood.2, Keep.new ha.x KX fun b hb => hb.elim (fun e => by have := (Hrow.out.lt e).1; omega) fun e => by omega, ha.b0.keep KX (ne _ (by omega) (by omega)), ha.b1.keep KX (ne _ (by omega) (by omega)), ⟨_, V3.out.set 0 _, ?_⟩, ha.s.keep KX (ne _ (by omega) (by omega)), ha.p.keep KX (ne _ (by omega) (by omega)), ha.z.keep KX (ne _ (by omega) (by omega))⟩
            have hI3 : IRow (w.heap.size + 6) w3 (.slice a' (vs.length + 1) c') (vs ++ [n]) := by
              unfold IRow
              rw [icells_append, List.length_append]
              exact H3.out
            exact hI3.keep (Keep.set (X := fun b => b = w.heap.size + 2) (Keep.refl _ _) rfl _) fun b hb e => by have := (hI3.lt hb).1; omega
          · have hq' : (d.toList == p.toList) = false := by simpa using hq
            have Hb : Hid (numV p.data.toList = none) := hid (by
              unfold numV
              rw [Hok.out]
              simp only
              rw [if_neg fun h => hq (by rw [Hd.out, Lib.toList_data]; exact beq_iff_eq.2 h.2.2)])
            clear hq
            have c0 := Hrd2.out.b0.av 0 rfl
            have f0 := Hrd2.out.b0.free 0
            have c1 := Hrd2.out.b1.av 0 rfl
            have f1 := Hrd2.out.b1.free 0
            have g1 : W2.cell? ⟨4, 0, none⟩ = some (.iface 282 (.pointer (some (ad 1)))) := Hrd2.out.x.cellx HE1.out
            have k0 : Keep (fun b => b = w.heap.size) W2 (W2.setCell ⟨w.heap.size, 0, none⟩ (.slice none 0 0)) := Keep.set (X := fun b => b = w.heap.size) (Keep.refl _ _) rfl _
            have g2 : (W2.setCell ⟨w.heap.size, 0, none⟩ (.slice none 0 0)).cell? ⟨4, 0, none⟩ = some (.iface 282 (.pointer (some (ad 1)))) := k0.cellx g1 (by have := cell_lt HE1.out; exact Nat.ne_of_lt this)
            have kx : Keep (fun b => b = w.heap.size ∨ b = w.heap.size + 1) W2 ((W2.setCell ⟨w.heap.size, 0, none⟩ (.slice none 0 0)).setCell ⟨w.heap.size + 1, 0, none⟩ (.iface 282 (.pointer (some (ad 1))))) := Keep.set (X := fun b => b = w.heap.size ∨ b = w.heap.size + 1) (Keep.set (X := fun b => b = w.heap.size ∨ b = w.heap.size + 1) (Keep.refl _ _) (.inl rfl) _) (.inr rfl) _
            have hfin : Hid (KeepsOthers Wb ((W2.setCell ⟨w.heap.size, 0, none⟩ (.slice none 0 0)).setCell ⟨w.heap.size + 1, 0, none⟩ (.iface 282 (.pointer (some (ad 1))))).drew ∧ SrX w u ad ((W2.setCell ⟨w.heap.size, 0, none⟩ (.slice none 0 0)).setCell ⟨w.heap.size + 1, 0, none⟩ (.iface 282 (.pointer (some (ad 1))))).drew) := hid
              ⟨Hk2.out.trans (((KeepsOthers.setCell _ _ _).trans (KeepsOthers.setCell _ _ _)).trans (KeepsOthers.drew _)), numsV_bad Hp.out Hb.out, (Keep.new Hrd2.out.x kx fun n hn => by omega).drew, ((Hrd2.out.b0.set 0 _).set_ne (by show w.heap.size + 1 ≠ _; omega) _).drew, ((Hrd2.out.b1.set_ne (by show w.heap.size ≠ _; omega) _).set 0 _).drew⟩
            simp only [qA0, qA1] at c0 c1
            clear k0 kx
            gi_wp2_with (
              (refine ⟨trivial, ?_⟩)
            )
            refine region3 mixed rfl (by kernel_rfl) (by kernel_rfl) (by kernel_rfl) (by kernel_rfl) (by kernel_rfl) ?_ ?_
            all_goals
              unfold wpOpIn
              go_simp
              gi_wp2
              exact hfin.out
    · have Hb : Hid (numV p.data.toList = none) := hid (by
        unfold numV
        cases h : Lib.atoiAll p.data.toList with
        | ok v => exact absurd h (hno v)
        | «syntax» => rfl
        | range => rfl)
      clear hno
      have c0 := Hrd1.out.b0.av 0 rfl
      have f0 := Hrd1.out.b0.free 0
      have c1 := Hrd1.out.b1.av 0 rfl
      have f1 := Hrd1.out.b1.free 0
      have g1 : W1.cell? ⟨4, 0, none⟩ = some (.iface 282 (.pointer (some (ad 1)))) := Hrd1.out.x.cellx HE1.out
      have k0 : Keep (fun b => b = w.heap.size) W1 (W1.setCell ⟨w.heap.size, 0, none⟩ (.slice none 0 0)) := Keep.set (X := fun b => b = w.heap.size) (Keep.refl _ _) rfl _
      have g2 : (W1.setCell ⟨w.heap.size, 0, none⟩ (.slice none 0 0)).cell? ⟨4, 0, none⟩ = some (.iface 282 (.pointer (some (ad 1)))) := k0.cellx g1 (by have := cell_lt HE1.out; exact Nat.ne_of_lt this)
      have kx : Keep (fun b => b = w.heap.size ∨ b = w.heap.size + 1) W1 ((W1.setCell ⟨w.heap.size, 0, none⟩ (.slice none 0 0)).setCell ⟨w.heap.size + 1, 0, none⟩ (.iface 282 (.pointer (some (ad 1))))) := Keep.set (X := fun b => b = w.heap.size ∨ b = w.heap.size + 1) (Keep.set (X := fun b => b = w.heap.size ∨ b = w.heap.size + 1) (Keep.refl _ _) (.inl rfl) _) (.inr rfl) _
      have hfin : Hid (KeepsOthers Wb ((W1.setCell ⟨w.heap.size, 0, none⟩ (.slice none 0 0)).setCell ⟨w.heap.size + 1, 0, none⟩ (.iface 282 (.pointer (some (ad 1))))).drew ∧ SrX w u ad ((W1.setCell ⟨w.heap.size, 0, none⟩ (.slice none 0 0)).setCell ⟨w.heap.size + 1, 0, none⟩ (.iface 282 (.pointer (some (ad 1))))).drew) := hid
        ⟨Hk1.out.trans (((KeepsOthers.setCell _ _ _).trans (KeepsOthers.setCell _ _ _)).trans (KeepsOthers.drew _)), numsV_bad Hp.out Hb.out, (Keep.new Hrd1.out.x kx fun n hn => by omega).drew, ((Hrd1.out.b0.set 0 _).set_ne (by show w.heap.size + 1 ≠ _; omega) _).drew, ((Hrd1.out.b1.set_ne (by show w.heap.size ≠ _; omega) _).set 0 _).drew⟩
      simp only [qA0, qA1] at c0 c1
      clear k0 kx
      gi_wp2_with (
        (refine ⟨trivial, ?_⟩)
      )
      refine region3 mixed rfl (by kernel_rfl) (by kernel_rfl) (by kernel_rfl) (by kernel_rfl) (by kernel_rfl) ?_ ?_
      all_goals
        unfold wpOpIn
        go_simp
        gi_wp2
        exact hfin.out
end
theorem setread_any (s : ByteArray) (w : World) (ad : Nat → Addr) (he1 : w.cell? ⟨4, 0, none⟩ = some (evOf ad 1)) (hE : ErrS w ad) (hs : s.size ≤ 1000002) (hT : ∀ w1, Ext w w1 → Lib.TabIs Tryz.prog w1 "internal/strconv.uint64pow10" .u64 Lib.pow10Tab) (hV : AtoiOk w) :
    Calls Tryz.prog 39 #[.string s] w fun e w' => ∃ v c l, e = .returned (.tuple #[v, errv (evOf ad) c]) ∧ readV s.data.toList = (c, l) ∧ IRow w.heap.size w' v l ∧ Ext w w' := by
  obtain ⟨s1, hs1⟩ : ∃ s1 : ByteArray, s1 = ⟨(Lib.trimPrefix s.data.toList [123]).toArray⟩ := ⟨_, rfl⟩
  obtain ⟨s2, hs2⟩ : ∃ s2 : ByteArray, s2 = ⟨(Lib.trimSuffix s1.data.toList [125]).toArray⟩ := ⟨_, rfl⟩
  have e1 : s1.data.toList = Lib.trimPrefix s.data.toList [123] := by rw [hs1]
  have e2 : s2.data.toList = Lib.trimSuffix s1.data.toList [125] := by rw [hs2]
  have z1 : s1.size ≤ 1000002 := by
    rw [← bs_list, e1]
    unfold Lib.trimPrefix
    split
    · rw [List.length_drop, bs_list]; omega
    · rw [bs_list]; omega
  have hSx : ∀ w1, Calls Tryz.prog 92 #[.string s1, .string ⟨#[125]⟩] w1 fun e w' => e = .returned (.tuple #[.string s2, .bool (Lib.hasSuffix s1.data.toList [125])]) ∧ w' = w1 := fun w1 => by
    rw [hs2]; exact Tryz.strings_CutSuffix s1 ⟨#[125]⟩ w1 (by omega)
  have hPx : ∀ w1, Calls Tryz.prog 91 #[.string s, .string ⟨#[123]⟩] w1 fun e w' => e = .returned (.tuple #[.string s1, .bool (Lib.hasPrefix s.data.toList [123])]) ∧ w' = w1 := fun w1 => by
    rw [hs1]; exact Tryz.strings_CutPrefix s ⟨#[123]⟩ w1
  have hr : readV s.data.toList = if Lib.hasPrefix s.data.toList [123] = true ∧ Lib.hasSuffix s1.data.toList [125] = true then (if s2.data.toList = [] then (0, []) else toldV s2.data.toList) else (1, []) := by
    unfold readV innerV toldV
    rw [← e1, ← e2]
    by_cases h : Lib.hasPrefix s.data.toList [123] = true ∧ Lib.hasSuffix s1.data.toList [125] = true
    · rw [if_pos h, if_pos h]
      rfl
    · rw [if_neg h, if_neg h]
  rw [hr]
  by_cases h : Lib.hasPrefix s.data.toList [123] = true ∧ Lib.hasSuffix s1.data.toList [125] = true
  · rw [if_pos h]
    have z2 : s2.size + 1 ≤ s1.size := by
      rw [← bs_list, e2]
      unfold Lib.trimSuffix
      rw [if_pos h.2, List.length_take]
      have : 1 ≤ s1.data.toList.length := by
        cases h0 : s1.data.toList with
        | nil => rw [h0] at h; exact absurd h.2 (by decide)
        | cons x r => simp
      rw [bs_list] at this ⊢
      simp only [List.length_singleton]
      omega
    have z3 : s1.size + 1 ≤ s.size := by
      rw [← bs_list, e1]
      unfold Lib.trimPrefix
      rw [if_pos h.1, List.length_drop]
      have : 1 ≤ s.data.toList.length := by
        cases h0 : s.data.toList with
        | nil => rw [h0] at h; exact absurd h.1 (by decide)
        | cons x r => simp
      rw [bs_list] at this ⊢
      simp only [List.length_singleton]
      omega
    rw [h.2] at hSx
    rw [h.1] at hPx
    by_cases h0 : s2.data.toList = []
    · rw [if_pos h0]
      have h0' : s2 = ⟨#[]⟩ := by
        rcases s2 with ⟨⟨l⟩⟩
        have h0 : l = [] := h0
        rw [h0]
      exact (setread_empty s s1 s2 h0' w (fun w1 => hid (hPx w1)) (fun w1 => hid (hSx w1))).mono fun e w' ⟨h1, h2⟩ => ⟨_, 0, [], h1, rfl, IRow.nil _ _, h2⟩
    · rw [if_neg h0]
      exact setread_some s s1 s2 (by rw [Lib.toList_data]; simpa using h0) (by omega) w ad he1 hE hT hV (fun w1 => hid (hPx w1)) fun w1 => hid (hSx w1)
  · rw [if_neg h]
    exact (setread_bad s s1 s2 _ _ w ad he1 (fun w1 => hid (hPx w1)) (fun w1 => hid (hSx w1)) h).mono fun e w' ⟨h1, h2⟩ => ⟨_, 1, [], h1, rfl, IRow.nil _ _, h2⟩
end Go.Proofs.YtbagppdibncfdaaGreatDoor
namespace Go.Proofs.YtbagppdibncfdaaGreatDoor
open Go.Lib
theorem snoc_ind {α : Type} {motive : List α → Prop} (nil : motive []) (snoc : ∀ l b, motive l → motive (l ++ [b])) (l : List α) : motive l := by
  have h : ∀ r : List α, motive r.reverse := by
    intro r
    induction r with
    | nil => exact nil
    | cons b r ih => rw [List.reverse_cons]; exact snoc _ _ ih
  rw [← List.reverse_reverse l]
  exact h _
theorem numV_some {p : List UInt8} {v : Int} (h : numV p = some v) : ∃ n : Nat, v = n ∧ p = decDigits n ∧ p.length ≤ 9 := by
  unfold numV at h
  split at h
  · split at h
    · rename_i u _ hc
      obtain ⟨h1, h2, h3⟩ := hc
      obtain rfl : u = v := by injection h
      refine ⟨u.toNat, by omega, ?_, h1⟩
      rw [← itoa_nonneg, show ((u.toNat : Nat) : Int) = u from by omega]
      exact h3.symm
    · exact absurd h (by simp)
  · exact absurd h (by simp)
theorem dec_lt {n k : Nat} (h : (decDigits n).length ≤ k) : n < 10 ^ k := by
  rw [decDigits_length] at h
  exact Nat.lt_of_lt_of_le (lt_pow_nDigits n) (Nat.pow_le_pow_right (by decide) h)
theorem numV_dec9 {n : Nat} (h : (decDigits n).length ≤ 9) : numV (decDigits n) = some (n : Int) := numV_dec n (by have := dec_lt h; simpa using this)
def valR (l : List UInt8) : Nat := l.foldl (fun a b => 10 * a + (b.toNat - 48)) 0
def digs (l : List UInt8) : Bool := l.all fun b => decide (48 ≤ b.toNat ∧ b.toNat ≤ 57)
theorem valR_snoc (l : List UInt8) (b : UInt8) : valR (l ++ [b]) = 10 * valR l + (b.toNat - 48) := by unfold valR; rw [List.foldl_append]; rfl
theorem digs_snoc (l : List UInt8) (b : UInt8) : digs (l ++ [b]) = (digs l && decide (48 ≤ b.toNat ∧ b.toNat ≤ 57)) := by unfold digs; rw [List.all_append]; simp
theorem valR_lt : ∀ (l : List UInt8), digs l = true → valR l < 10 ^ l.length := by
  intro l
  induction l using snoc_ind with
  | nil => intro _; decide
  | snoc l b ih =>
    intro h
    rw [digs_snoc, Bool.and_eq_true, decide_eq_true_eq] at h
    rw [valR_snoc, List.length_append, List.length_singleton, Nat.pow_succ]
    have := ih h.1
    omega
theorem valR_dec (n : Nat) : valR (decDigits n) = n := by
  induction n using Nat.strongRecOn with
  | _ n ih =>
    by_cases h : n < 10
    · rw [decDigits, dif_pos h]
      unfold valR
      simp only [List.foldl_cons, List.foldl_nil, UInt8.toNat_ofNat']
      omega
    · rw [decDigits, dif_neg h, valR_snoc, ih (n / 10) (by omega), UInt8.toNat_ofNat']
      omega
theorem digs_dec (n : Nat) : digs (decDigits n) = true := List.all_eq_true.2 fun b hb => decide_eq_true (dec_digit n b hb)
theorem byte_of {b : UInt8} (h : 48 ≤ b.toNat ∧ b.toNat ≤ 57) : UInt8.ofNat (48 + (b.toNat - 48)) = b := by
  apply UInt8.toNat_inj.1
  rw [UInt8.toNat_ofNat']
  omega
theorem valR_pos : ∀ (b : UInt8) (l : List UInt8), digs (b :: l) = true → b ≠ 48 → 1 ≤ valR (b :: l) := by
  intro b l
  induction l using snoc_ind with
  | nil =>
    intro h hb
    unfold digs at h
    have h1 := of_decide_eq_true (List.all_eq_true.1 h b (List.mem_singleton.2 rfl))
    have : b.toNat ≠ 48 := fun e => hb (UInt8.toNat_inj.1 (by rw [e]; rfl))
    unfold valR
    simp only [List.foldl_cons, List.foldl_nil]
    omega
  | snoc l c ih =>
    intro h hb
    rw [← List.cons_append, digs_snoc, Bool.and_eq_true] at h
    rw [← List.cons_append, valR_snoc]
    have := ih h.1 hb
    omega
theorem dec_val : ∀ (l : List UInt8), digs l = true → l ≠ [] → (1 < l.length → l.head? ≠ some 48) → decDigits (valR l) = l := by
  intro l
  induction l using snoc_ind with
  | nil => intro _ h _; exact absurd rfl h
  | snoc l b ih =>
    intro hd _ h0
    rw [digs_snoc, Bool.and_eq_true, decide_eq_true_eq] at hd
    rw [valR_snoc]
    cases l with
    | nil =>
      unfold valR
      simp only [List.foldl_nil, Nat.mul_zero, Nat.zero_add, List.nil_append]
      rw [decDigits, dif_pos (by omega), byte_of hd.2]
    | cons c l =>
      have hc : c ≠ 48 := fun e => h0 (by simp) (by rw [e]; rfl)
      have h1 := valR_pos c l hd.1 hc
      rw [decDigits, dif_neg (by omega), show (10 * valR (c :: l) + (b.toNat - 48)) / 10 = valR (c :: l) from by omega, show (10 * valR (c :: l) + (b.toNat - 48)) % 10 = b.toNat - 48 from by omega, byte_of hd.2, ih hd.1 (by simp) fun _ e => hc (by simpa using e)]
def numR (p : List UInt8) : Option Nat := if p.length < 1 ∨ 9 < p.length ∨ (1 < p.length ∧ p.head? = some 48) then none else if digs p then some (valR p) else none
theorem dec_head {n : Nat} (h : 1 < (decDigits n).length) : (decDigits n).head? ≠ some 48 := by
  induction n using Nat.strongRecOn with
  | _ n ih =>
    by_cases hn : n < 10
    · rw [decDigits, dif_pos hn] at h; simp at h
    · rw [decDigits, dif_neg hn]
      by_cases h2 : n / 10 < 10
      · rw [decDigits, dif_pos h2]
        simp only [List.singleton_append, List.head?_cons, ne_eq, Option.some.injEq]
        intro e
        have := congrArg UInt8.toNat e
        rw [UInt8.toNat_ofNat'] at this
        have h48 : (48 : UInt8).toNat = 48 := rfl
        omega
      · have h3 : 1 < (decDigits (n / 10)).length := by
          rw [decDigits_length, nDigits_big h2]
          have := nDigits_pos (n / 10 / 10)
          omega
        have := ih (n / 10) (by omega) h3
        cases hd : decDigits (n / 10) with
        | nil => exact absurd hd (dec_ne _)
        | cons c r => rw [hd] at this; simpa using this
theorem numR_eq (p : List UInt8) : numV p = (numR p).map fun n : Nat => (n : Int) := by
  cases h : numV p with
  | some v =>
    obtain ⟨n, rfl, rfl, h9⟩ := numV_some h
    unfold numR
    rw [if_neg, if_pos (digs_dec n), valR_dec]
    · rfl
    · rintro (g | g | g)
      · have := List.length_pos_iff.2 (dec_ne n); omega
      · omega
      · exact dec_head g.1 g.2
  | none =>
    unfold numR
    split
    · rfl
    · rename_i hc
      split
      · rename_i hd
        have hc1 : ¬ p.length < 1 := fun e => hc (.inl e)
        have hc2 : ¬ 9 < p.length := fun e => hc (.inr (.inl e))
        have e := dec_val p hd (fun e => hc1 (by rw [e]; exact Nat.zero_lt_one)) fun h1 h2 => hc (.inr (.inr ⟨h1, h2⟩))
        have := numV_dec9 (n := valR p) (by rw [e]; omega)
        rw [e, h] at this
        exact absurd this (by simp)
      · rfl
end Go.Proofs.YtbagppdibncfdaaGreatDoor
namespace Go.Proofs.YtbagppdibncfdaaGreatDoor
open Go Go.RowKit
theorem take_filter {p : Int → Bool} {l : List Int} {k : Nat} {q : Int} (h : l[k]? = some q) : (l.take (k + 1)).filter p = (l.take k).filter p ++ (if p q then [q] else []) := by
  rw [List.take_add_one, h]
  simp only [Option.toList, List.filter_append, List.filter_cons, List.filter_nil]
set_option maxRecDepth 100000 in
set_option maxHeartbeats 1600000 in
theorem setsome_and (b : Value) (p : Int → Bool) (v : Value) (l : List Int) (w : World) (n0 : Nat) (h : IntsR w n0 v l) (hF : ∀ n w1, Ext w w1 → Calls Tryz.prog 90 #[.int .i64 n, b] w1 fun e w' => e = .returned (.bool (p n)) ∧ Ext w1 w') (hl : l.length ≤ 100000) :
    Calls Tryz.prog 88 #[v, .func (.func 90) #[] #[b]] w fun e w' => ∃ v', e = .returned v' ∧ Ext w w' ∧ IRow w.heap.size w' v' (l.filter p) := by
  have HS := hid h
  have HF := hid hF
  obtain ⟨a, cap, rfl, h2, h3, h4, _⟩ := h
  have H4 := hid h4
  have hml : (l.length : Int) ≤ 9223372036854775807 := by omega
  clear h2 h3 h4 hF
  go_enter Tryz.func88, Tryz.ntmps88
  go_wp2
  go_loopw [5, 10] (fun t5 t10 wr => ∃ k : Nat, t10 = .int .i64 (k : Int) ∧ k ≤ l.length ∧ IRow w.heap.size wr t5 ((l.take k).filter p) ∧ Ext w wr) (fun _ t10 _ => l.length - (intOf t10).toNat)
  case atStart => exact ⟨0, rfl, Nat.zero_le _, IRow.nil _ _, Ext.refl _⟩
  case round =>
    obtain ⟨k, rfl, hk, hr, hx⟩ := hrel
    obtain ⟨m, hm⟩ : ∃ m, m = (l.take k).filter p := ⟨_, rfl⟩
    rw [← hm] at hr
    have hml2 : m.length ≤ 100000 := by rw [hm]; have := List.length_filter_le p (l.take k); rw [List.length_take] at this; omega
    have Hm := hid hm
    obtain ⟨a5, c5, rfl⟩ := hr.form
    have Hr := hid hr
    have Hx := hid hx
    clear hm hr
    by_cases hlt : k < l.length
    · obtain ⟨y, rfl⟩ := H4.out (by omega)
      obtain ⟨q, hq⟩ : ∃ q, l[k]? = some q := ⟨_, List.getElem?_eq_getElem hlt⟩
      obtain ⟨a', cap', h1, _, _, _, h5⟩ := HS.out.old (hx.old n0)
      obtain ⟨rfl, rfl⟩ : some y = a' ∧ cap = cap' := by simpa using h1
      have hc := (h5 y rfl (by omega)).2 k hlt q hq
      have HN := hid (HF.out q wr hx)
      have Hf := hid (take_filter (p := p) hq)
      clear hq h1 h5 hx
      go_wp2_with fail
      refine HN.out.mono ?_
      intro e w1 hx1
      obtain ⟨rfl, hx1⟩ := hx1
      have Hx1 := hid (Hx.out.trans hx1)
      have Hr1 := hid (Hr.out.ext hx1)
      clear HN hx1 Hx Hr hc
      cases he : p q with
      | true =>
        have Hn : Hid ((l.take (k + 1)).filter p = m ++ [q]) := hid (by rw [Hf.out, he, Hm.out]; rfl)
        clear he
        have hxa : Hid (Ext w (w1.alloc (.cells #[.int .i64 q] 3))) := hid (Hx1.out.alloc _)
        have Hra : Hid (IRow w.heap.size (w1.alloc (.cells #[.int .i64 q] 3)) (.slice a5 m.length c5) m) := hid (Hr1.out.ext ((Ext.refl _).alloc _))
        go_wp2_with (at_builtin; refine wpList_append_el w.heap.size hxa.out.size 45 3 (.int .i64 0) 1 8 Tryz.underlying45 ints_info rfl (by omega) (by omega) rfl _ _ rfl (.slice a5 m.length c5) m.length (icells m) rfl Hra.out w1.heap.size [.int .i64 q] rfl (by simp [Value.oneCell']) rfl (Blk.new _ _ _) (by omega) ?_; intro v' w' h1 h2 h4; obtain ⟨a', c', rfl⟩ := row_form h1; have h3 := hid (Keep.new hxa.out h2 (fun k hk => (Hra.out.lt hk).1)); have h1 := hid h1; clear h2 h4)
        go_roundw
        case rel => exact ⟨k + 1, by go_num, by omega, by rw [Hn.out]; have := h1.out; unfold IRow; rw [icells_append, List.length_append]; exact this, h3.out⟩
        case measure => simp [intOf]; omega
      | false =>
        have Hn : Hid ((l.take (k + 1)).filter p = m) := hid (by rw [Hf.out, he, Hm.out]; simp)
        clear he
        go_wp2
        go_roundw
        case rel => exact ⟨k + 1, by go_num, by omega, by rw [Hn.out]; exact Hr1.out, Hx1.out⟩
        case measure => simp [intOf]; omega
    · obtain rfl : k = l.length := by omega
      have Hn : Hid (m = l.filter p) := hid (by rw [Hm.out, List.take_of_length_le (Nat.le_refl _)])
      clear hx
      go_wp2
      go_ret
      exact ⟨_, rfl, Hx.out, by rw [← Hn.out]; exact Hr.out⟩
theorem sethas_any (v : Value) (l : List Int) (s : Int) (w : World) (n0 : Nat) (h : IntsR w n0 v l) : Calls Tryz.prog 43 #[v, .int .i64 s] w fun e w' => e = .returned (.bool (decide (s ∈ l))) ∧ w = w' := by
  have H := hid (containsi_any v l s w n0 h)
  obtain ⟨a, cap, rfl, _⟩ := h
  go_enter Tryz.func43, Tryz.ntmps43
  go_wp2_with fail
  refine H.out.mono ?_
  intro e w1 hx
  obtain ⟨rfl, rfl⟩ := hx
  clear H
  go_wp2
  go_ret
  exact ⟨rfl, rfl⟩
theorem setandc_any (g : Nat) (vb : Value) (b : List Int) (n : Int) (w : World) (n0 : Nat) (hB : Blk w g #[vb] 45) (hb : IntsR w n0 vb b) :
    Calls Tryz.prog 90 #[.int .i64 n, .pointer (some ⟨g, 0, none⟩)] w fun e w' => e = .returned (.bool (decide (n ∈ b))) ∧ Ext w w' := by
  have H := hid (sethas_any vb b n w n0 hb)
  obtain ⟨a, cap, rfl, _⟩ := hb
  have c0 := hB.av 0 rfl
  simp only [qA0, qA1] at c0
  clear hB
  go_enter Tryz.func90, Tryz.ntmps90
  go_wp2_with fail
  refine H.out.mono ?_
  intro e w1 hx
  obtain ⟨rfl, rfl⟩ := hx
  clear H c0
  go_wp2
  go_ret
  exact ⟨rfl, Ext.refl _⟩
set_option maxRecDepth 100000 in
set_option maxHeartbeats 1600000 in
theorem setand_any (va vb : Value) (a b : List Int) (w : World) (n0 : Nat) (ad : Nat → Addr) (hE : ErrS w ad) (ha : IntsR w n0 va a) (hb : IntsR w n0 vb b) (hla : a.length ≤ 10000) :
    Calls Tryz.prog 38 #[va, vb] w fun e w' => ∃ t, e = .returned t ∧ TwoR ad a b (a.filter fun n => decide (n ∈ b)) w.heap.size w' t ∧ Ext w w' := by
  obtain ⟨W, hW⟩ : ∃ W, W = w.alloc (.cells #[vb] 45) := ⟨_, rfl⟩
  have hxW : Ext w W := by rw [hW]; exact (Ext.refl _).alloc _
  have HBl : Hid (Blk W w.heap.size #[vb] 45) := hid (by rw [hW]; exact Blk.new _ _ _)
  have HK := hid (setboth_any va vb a b W n0 ad (hE.ext hxW) (ha.old (hxW.old n0)) (hb.old (hxW.old n0)))
  have HC := fun w1 (x : Ext W w1) => hid (setsome_and (.pointer (some ⟨w.heap.size, 0, none⟩)) (fun n => decide (n ∈ b)) va a w1 n0 (ha.old ((hxW.trans x).old n0)) (fun n w2 x2 => setandc_any w.heap.size vb b n w2 n0 (HBl.out.ext (x.trans x2)) (hb.old ((hxW.trans (x.trans x2)).old n0))) (by omega))
  have HxW := hid hxW
  obtain ⟨aa, ca, rfl, _⟩ := ha
  obtain ⟨ab, cb, rfl, _⟩ := hb
  have HWe := hid hW
  have c0 := HBl.out.av 0 rfl
  simp only [qA0, qA1] at c0
  clear hE hxW hW
  by_cases h0 : bothE a b = 0
  · rw [errv_no h0] at HK
    have H0 := hid h0
    clear h0
    go_enter Tryz.func38, Tryz.ntmps38
    go_wp2_with fail
    rw [← HWe.out]
    refine HK.out.mono ?_
    intro e w1 hx
    obtain ⟨rfl, hx1⟩ := hx
    have HC1 := HC w1 hx1
    have Hx1 := hid (HxW.out.trans hx1)
    clear HK HC hx1 c0
    go_wp2_with fail
    refine HC1.out.mono ?_
    intro e w2 hx
    obtain ⟨v2, rfl, hx2, hr2⟩ := hx
    obtain ⟨a2, p2, rfl⟩ := hr2.form
    have Hr2 := hid (hr2.base Hx1.out.size)
    have Hx2 := hid (Hx1.out.trans hx2)
    clear HC1 hx2 hr2
    go_wp2
    go_ret2
    exact ⟨_, rfl, .inl ⟨H0.out, _, rfl, Hr2.out⟩, Hx2.out⟩
  · rw [errv_yes h0] at HK
    have H0 := hid h0
    clear h0
    go_enter Tryz.func38, Tryz.ntmps38
    go_wp2_with fail
    rw [← HWe.out]
    refine HK.out.mono ?_
    intro e w1 hx
    obtain ⟨rfl, hx1⟩ := hx
    have Hx1 := hid (HxW.out.trans hx1)
    clear HK HC hx1 c0
    go_wp2
    go_ret2
    exact ⟨_, rfl, .inr ⟨H0.out, rfl⟩, Hx1.out⟩
theorem bools_info : (Tryz.prog.info? 4).map (fun i => (i.zero, i.size, i.bytes)) = some (some (.bool false), 1, 1) := by kernel_rfl
def seen (l : List Int) : List Value := (List.range 1000).map fun n : Nat => Value.bool (decide ((n : Int) ∈ l))
theorem seen_len (l : List Int) : (seen l).length = 1000 := by simp [seen]
theorem seen_at (l : List Int) {n : Nat} (h : n < 1000) : (seen l)[n]? = some (.bool (decide ((n : Int) ∈ l))) := by
  unfold seen
  rw [List.getElem?_map, List.getElem?_range h]
  rfl
theorem seen_snoc (l : List Int) (q : Nat) : (seen l).toArray.setIfInBounds q (.bool true) = (seen (l ++ [(q : Int)])).toArray := by
  apply Array.ext_getElem?
  intro i
  rw [Array.getElem?_setIfInBounds]
  simp only [List.getElem?_toArray, List.size_toArray, seen_len]
  by_cases hi : i < 1000
  · rw [seen_at _ hi, seen_at _ hi]
    by_cases hq : q = i
    · subst hq
      rw [if_pos rfl, if_pos hi, decide_eq_true (by simp)]
    · rw [if_neg hq]
      congr 2
      exact decide_eq_decide.2 ⟨fun h => List.mem_append_left _ h, fun h => (List.mem_append.1 h).elim id fun g => absurd (List.mem_singleton.1 g) (by omega)⟩
  · have hn : ∀ m : List Int, (seen m)[i]? = none := fun m => List.getElem?_eq_none (by rw [seen_len]; omega)
    rw [hn, hn]
    by_cases hq : q = i
    · subst hq; rw [if_pos rfl, if_neg hi]
    · rw [if_neg hq]
theorem made_seen : (madeCells (Value.bool false).cells (1000 * 1)).toList = seen [] := by
  rw [show (Value.bool false).cells = #[Value.bool false] from rfl, toList_madeCells_one]
  apply List.ext_getElem?
  intro i
  by_cases hi : i < 1000
  · rw [seen_at _ hi, List.getElem?_replicate, if_pos (by omega), decide_eq_false (by simp)]
  · rw [List.getElem?_eq_none (by rw [List.length_replicate]; omega), List.getElem?_eq_none (by rw [seen_len]; omega)]
def setUp (l : List Int) (n : Nat) : List Int := ((List.range n).filter fun k : Nat => decide ((k : Int) ∈ l)).map fun k : Nat => (k : Int)
theorem setUp_full (l : List Int) : setUp l 1000 = sset l := rfl
theorem setUp_succ (l : List Int) (n : Nat) : setUp l (n + 1) = setUp l n ++ (if decide ((n : Int) ∈ l) then [(n : Int)] else []) := by
  unfold setUp
  rw [List.range_succ, List.filter_append, List.map_append]
  congr 1
  by_cases h : decide ((n : Int) ∈ l) = true
  · rw [if_pos h]; simp [h]
  · rw [if_neg h]; simp [h]
theorem setUp_len (l : List Int) (n : Nat) : (setUp l n).length ≤ n := by
  unfold setUp
  rw [List.length_map]
  have := List.length_filter_le (fun k : Nat => decide ((k : Int) ∈ l)) (List.range n)
  rw [List.length_range] at this
  exact this
set_option maxRecDepth 100000 in
set_option maxHeartbeats 1600000 in
theorem rsetof_any (v : Value) (l : List Int) (w : World) (n0 : Nat) (h : IntsR w n0 v l) (hin : InR l) :
    Calls Tryz.prog 48 #[v] w fun e w' => ∃ v', e = .returned v' ∧ Ext w w' ∧ IRow w.heap.size w' v' (sset l) := by
  have HS := hid h
  obtain ⟨a, cap, rfl, h2, h3, h4, _⟩ := h
  have H4 := hid h4
  have Hin := hid hin
  have hml : (l.length : Int) ≤ 9223372036854775807 := by omega
  clear h2 h3 h4 hin
  go_enter Tryz.func48, Tryz.ntmps48
  obtain ⟨bi, hbi, hbz, hbs, hbb⟩ := info_parts bools_info
  go_wp2_with (at_make; refine wpList_make_full w rfl _ _ _ rfl w.heap.size 4 bi (.bool false) 1 Tryz.underlying146 hbi hbz hbs .i64 .i64 1000 1000 1000 rfl rfl rfl rfl (by rw [hbb]; omega) (by unfold maxLen; omega) (Nat.le_refl _) ?_; intro w1 hrow hgr)
  have hx1 : Ext w w1 := Keep.new (Ext.refl w) (grown_keep hgr) (fun k hk => by cases hk)
  have Hx1 := hid hx1
  have HB1 : Hid (Blk w1 w.heap.size (seen []).toArray 4) := hid (by
    rcases hrow.2 with ⟨h1, _⟩ | ⟨g', cap', cur, h1, h2, h3, h4, h5, h6, h7⟩
    · simp at h1
    · simp only [Value.slice.injEq, Option.some.injEq, Addr.mk.injEq, and_true] at h1
      obtain ⟨rfl, _, rfl⟩ := h1
      have e : cur = (seen []).toArray := by
        have e1 : cur.toList = seen [] := by
          rw [← made_seen, ← h7, List.take_of_length_le (by rw [Array.length_toList]; omega)]
        rw [← e1]
      rw [← e]; exact h3)
  clear hx1 hrow hgr hbi hbz hbs hbb
  go_wp2
  go_loopw [4] (fun t4 wr => ∃ k : Nat, t4 = .int .i64 (k : Int) ∧ k ≤ l.length ∧ Blk wr w.heap.size (seen (l.take k)).toArray 4 ∧ Ext w wr) (fun t4 _ => l.length - (intOf t4).toNat)
  case atStart => exact ⟨0, rfl, Nat.zero_le _, HB1.out, Hx1.out⟩
  case round =>
    obtain ⟨k, rfl, hk, hB, hx⟩ := hrel
    have HB := hid hB
    have Hx := hid hx
    clear hB
    by_cases hlt : k < l.length
    · obtain ⟨y, rfl⟩ := H4.out (by omega)
      obtain ⟨q, hq⟩ : ∃ q, l[k]? = some q := ⟨_, List.getElem?_eq_getElem hlt⟩
      have hq01 := Hin.out q (List.mem_of_getElem? hq)
      obtain ⟨Q, rfl⟩ := Int.eq_ofNat_of_zero_le hq01.1
      have hQ : Q < 1000 := by omega
      obtain ⟨a', cap', h1, _, _, _, h5⟩ := HS.out.old (hx.old n0)
      obtain ⟨rfl, rfl⟩ : some y = a' ∧ cap = cap' := by simpa using h1
      have hc := (h5 y rfl (by omega)).2 k hlt _ hq
      have z0 := HB.out.av Q (by rw [List.getElem?_toArray]; exact seen_at _ hQ)
      have f0 := HB.out.free Q
      have Hn : Hid (seen (l.take (k + 1)) = seen (l.take k ++ [(Q : Int)])) := hid (by rw [List.take_add_one, hq]; rfl)
      have hB2 := HB.out.set Q (.bool true)
      rw [seen_snoc, ← Hn.out] at hB2
      have HB2 := hid hB2
      have HX2 := hid (Keep.new Hx.out (Keep.set (X := fun b => b = w.heap.size) (Keep.refl _ wr) rfl (.bool true) : Keep (fun b => b = w.heap.size) wr (wr.setCell ⟨w.heap.size, Q, none⟩ (.bool true))) fun b e => by subst e; exact Nat.le_refl _)
      clear hq hq01 h1 h5 hx hB2
      go_wp2
      go_roundw
      case rel => exact ⟨k + 1, by go_num, by omega, HB2.out, HX2.out⟩
      case measure => simp [intOf]; omega
    · obtain rfl : k = l.length := by omega
      rw [List.take_of_length_le (Nat.le_refl _)] at HB
      clear hx
      go_wp2
      go_loopw [5, 6] (fun t5 t6 wr => ∃ n : Nat, t6 = .int .i64 (n : Int) ∧ n ≤ 1000 ∧ IRow w.heap.size wr t5 (setUp l n) ∧ Blk wr w.heap.size (seen l).toArray 4 ∧ Ext w wr) (fun _ t6 _ => 1000 - (intOf t6).toNat)
      case atStart => exact ⟨0, rfl, Nat.zero_le _, IRow.nil _ _, HB.out, Hx.out⟩
      case round =>
        obtain ⟨n, rfl, hn, hr, hB, hx⟩ := hrel
        have hml2 : (setUp l n).length ≤ 1000 := Nat.le_trans (setUp_len l n) hn
        have hsu := setUp_succ l n
        obtain ⟨m, hm⟩ : ∃ m, m = setUp l n := ⟨_, rfl⟩
        rw [← hm] at hr hml2 hsu
        have Hm := hid hm
        have Hsu := hid hsu
        obtain ⟨a5, c5, rfl⟩ := hr.form
        have Hr := hid hr
        have HBs := hid hB
        have Hx3 := hid hx
        clear hm hr hB hx hsu
        by_cases hlt : n < 1000
        · have z0 := HBs.out.av n (by rw [List.getElem?_toArray]; exact seen_at _ hlt)
          obtain ⟨bq, hbq⟩ : ∃ bq, bq = decide ((n : Int) ∈ l) := ⟨_, rfl⟩
          rw [← hbq] at z0 Hsu
          clear hbq
          cases bq with
          | true =>
            have Hn : Hid (setUp l (n + 1) = m ++ [(n : Int)]) := hid (by rw [Hsu.out]; rfl)
            have hxa : Hid (Ext w (wr.alloc (.cells #[.int .i64 (n : Int)] 3))) := hid (Hx3.out.alloc _)
            have Hra : Hid (IRow w.heap.size (wr.alloc (.cells #[.int .i64 (n : Int)] 3)) (.slice a5 m.length c5) m) := hid (Hr.out.ext ((Ext.refl _).alloc _))
            have HBa : Hid (Blk (wr.alloc (.cells #[.int .i64 (n : Int)] 3)) w.heap.size (seen l).toArray 4) := hid (HBs.out.ext ((Ext.refl _).alloc _))
            go_wp2_with (at_builtin; refine wpList_append_el w.heap.size hxa.out.size 45 3 (.int .i64 0) 1 8 Tryz.underlying45 ints_info rfl (by omega) (by omega) rfl _ _ rfl (.slice a5 m.length c5) m.length (icells m) rfl Hra.out wr.heap.size [.int .i64 (n : Int)] rfl (by simp [Value.oneCell']) rfl (Blk.new _ _ _) (by omega) ?_; intro v' w' h1 h2 h4; obtain ⟨a', c', rfl⟩ := row_form h1; have h3 := hid (Keep.new hxa.out h2 (fun k hk => (Hra.out.lt hk).1)); have hb5 := hid (HBa.out.keep h2 (fun e => by obtain ⟨c, hc⟩ := own_ty Hra.out e; exact Blk.ty_ne hc HBa.out (by decide) rfl)); have h1 := hid h1; clear h2 h4)
            go_roundw
            case rel => exact ⟨n + 1, by go_num, by omega, by rw [Hn.out]; have := h1.out; unfold IRow; rw [icells_append, List.length_append]; exact this, hb5.out, h3.out⟩
            case measure => simp [intOf]; omega
          | false =>
            have Hn : Hid (setUp l (n + 1) = m) := hid (by rw [Hsu.out]; simp)
            go_wp2
            go_roundw
            case rel => exact ⟨n + 1, by go_num, by omega, by rw [Hn.out]; exact Hr.out, HBs.out, Hx3.out⟩
            case measure => simp [intOf]; omega
        · obtain rfl : n = 1000 := by omega
          have Hn : Hid (m = sset l) := hid (by rw [Hm.out, setUp_full])
          go_wp2
          go_ret
          exact ⟨_, rfl, Hx3.out, by rw [← Hn.out]; exact Hr.out⟩
set_option maxRecDepth 100000 in
set_option maxHeartbeats 1600000 in
theorem rhas_any (v : Value) (l : List Int) (s : Int) (w : World) (n0 : Nat) (h : IntsR w n0 v l) :
    Calls Tryz.prog 47 #[v, .int .i64 s] w fun e w' => e = .returned (.bool (decide (s ∈ l))) ∧ w = w' := by
  obtain ⟨aa, ca, rfl, h2, h3, h4, h5⟩ := h
  have hml : (l.length : Int) ≤ 9223372036854775807 := by omega
  have H4 := hid h4
  have H5 := hid h5
  clear h2 h3 h4 h5
  go_enter Tryz.func47, Tryz.ntmps47
  go_wp2
  go_loop [5] (fun t5 => ∃ k : Nat, t5 = .int .i64 (k : Int) ∧ k ≤ l.length ∧ ∀ j t, j < k → l[j]? = some t → t ≠ s) (fun t5 => l.length - (intOf t5).toNat)
  case atStart => exact ⟨0, rfl, Nat.zero_le _, fun j t h => by omega⟩
  case round =>
    obtain ⟨k, rfl, hk, hp⟩ := hrel
    have Hp := hid hp
    clear hp
    by_cases hlt : k < l.length
    · obtain ⟨y, rfl⟩ := H4.out (by omega)
      obtain ⟨q, hq⟩ : ∃ q, l[k]? = some q := ⟨_, List.getElem?_eq_getElem hlt⟩
      have hc := (H5.out y rfl (by omega)).2 k hlt q hq
      have Hq := hid hq
      clear hq
      by_cases he : q = s
      · subst he
        have Hin := hid (List.mem_of_getElem? Hq.out)
        go_wp2
        go_ret
        exact ⟨by rw [decide_eq_true Hin.out]; rfl, rfl⟩
      · have He := hid he
        go_wp2
        refine ⟨⟨k + 1, by go_num, by omega, fun j t hj ht => ?_⟩, by simp [intOf]; omega⟩
        by_cases hjk : j = k
        · subst hjk
          obtain rfl := Option.some.inj (Hq.out.symm.trans ht)
          exact He.out
        · exact Hp.out j t (by omega) ht
    · obtain rfl : k = l.length := by omega
      have Hn := hid (show ¬ s ∈ l from fun ht => by
        obtain ⟨j, hj, e⟩ := List.mem_iff_getElem.1 ht
        exact Hp.out j s hj (by rw [List.getElem?_eq_getElem hj, e]) rfl)
      go_wp2
      go_ret
      exact ⟨by rw [decide_eq_false Hn.out]; rfl, rfl⟩
end Go.Proofs.YtbagppdibncfdaaGreatDoor
namespace Go.Proofs.YtbagppdibncfdaaGreatDoor
open Go Go.RowKit Go.Shelf
open Go.Lib (trimS trimLeftS trimRightS toList_data)
def okAt (b k : Nat) : Bool := (decide (97 ≤ b) && decide (b ≤ 122)) || (decide (48 ≤ b) && decide (b ≤ 57) && !decide (k = 0))
end Go.Proofs.YtbagppdibncfdaaGreatDoor
namespace Go.Proofs.YtbagppdibncfdaaGreatDoor
open Go Go.RowKit
def FaultIs (P : PP) (c : Nat) (p : Int) : Prop :=
  (P.err1 ≠ 0 ∧ c = P.err1 ∧ p = -1) ∨ (P.err1 = 0 ∧ P.allWell ∧ c = 0 ∧ p = -1) ∨ (P.err1 = 0 ∧ ∃ i s, P.FirstBad i s ∧ c = P.stmtErr s ∧ p = (i : Int))
theorem two {w : World} {g : Nat} {x0 x1 v0 v1 : Value} {t : TypeId} (h : Blk w g #[x0, x1] t) : Blk ((w.setCell ⟨g, 0, none⟩ v0).setCell ⟨g, 1, none⟩ v1) g #[v0, v1] t := by
  have := (h.set 0 v0).set 1 v1
  simpa using this
def rgv (s : Rn) : Vl → Value
  | .var n => .tuple #[.agg #[.string (s.vars.getD n .none).kind, .int .i64 ((s.vars.getD n .none).num : Int)], .bool true]
  | .thing n => .tuple #[.agg #[.string (s.things.getD n .none).kind, .int .i64 ((s.things.getD n .none).num : Int)], .bool true]
  | _ => .tuple #[.agg #[.string ⟨#[]⟩, .int .i64 0], .bool false]
end Go.Proofs.YtbagppdibncfdaaGreatDoor
