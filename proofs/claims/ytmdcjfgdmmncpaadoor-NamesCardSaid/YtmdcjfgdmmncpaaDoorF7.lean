/- The frame: a right one is written. -/
import Derived.Test.YtmdcjfgdmmncpaaDoorFP
import Derived.Test.YtmdcjfgdmmncpaaDoorOw2
import Derived.Test.YtmdcjfgdmmncpaaDoorPar
namespace Go.Proofs.YtmdcjfgdmmncpaaDoor
set_option linter.unusedSimpArgs false
set_option linter.unusedVariables false
open Go Go.RowKit

/-- A row of bytes of the call's own. -/
def BRow (w0 w : World) (v : Value) (l : List UInt8) : Prop := w.ownsRow w0.heap.size 5 1 v l.length (bcells l)
theorem bcells_len (l : List UInt8) : (bcells l).length = l.length := by simp [bcells]
theorem bcells_append (l m : List UInt8) : bcells (l ++ m) = bcells l ++ bcells m := by simp [bcells]
theorem bcells_one {l : List UInt8} : ∀ u ∈ bcells l, u.oneCell' = true := by
  intro u hu
  simp only [bcells, List.mem_map] at hu
  obtain ⟨b, _, rfl⟩ := hu
  rfl
theorem own_ext {w w' : World} {base : Nat} {e : TypeId} {size : Nat} {v : Value} {n : Nat} {xs : List Value} (h : w.ownsRow base e size v n xs) (x : Ext w w') : w'.ownsRow base e size v n xs := by
  obtain ⟨h1, h2⟩ := h
  refine ⟨h1, h2.imp id ?_⟩
  rintro ⟨g, cap, cur, rfl, hb, hg, h3⟩
  exact ⟨g, cap, cur, rfl, hb, x.get hg, h3⟩
theorem BRow.ext {w0 w w' : World} {v : Value} {l : List UInt8} (h : BRow w0 w v l) (x : Ext w w') : BRow w0 w' v l := own_ext h x
theorem BRow.made (w0 w : World) (h : w0.heap.size ≤ w.heap.size) (l : List UInt8) (hl : l.length ≤ 1000) : BRow w0 (w.alloc (.cells (bcells l).toArray 5)) (.slice (some ⟨w.heap.size, 0, none⟩) l.length l.length) l :=
  ⟨by simp [bcells], .inr ⟨w.heap.size, l.length, _, rfl, h, heap_alloc_new w _, Nat.le_refl _, by simp only [maxLen]; omega, by simp [bcells], by simp [bcells, List.take_of_length_le]⟩⟩

/-- The region's two makers. -/
def HighR (n : Nat) : Value → World → Prop := fun v w => ∃ g, v = .slice (some ⟨g, 0, none⟩) 4 4 ∧ Blk w g (bcells (high4 n)).toArray 5
theorem high_gen (n : Nat) (hn : n ≤ 4294967295) (w : World) : Calls Tryd.prog 60 #[.int .i64 (n : Int)] w fun e w' => ∃ v, e = .returned v ∧ Ext w w' ∧ HighR n v w' :=
  (high_any n hn w).mono fun e w' ⟨he, hw⟩ => ⟨_, he, by rw [hw]; exact (Ext.refl w).alloc _, _, rfl, by rw [hw]; exact Blk.new _ _ _⟩

/-- append of bytes that fill a block. -/
theorem does_bytes {ops : Array Oper} {o : Oper} {a : Act} {w0 w : World} {R : Value → World → Prop} (hx0 : Ext w0 w) (hg : o.guard = none) (s x : Operand)
    (ho : o.op = .call { callee := .builtin .append, args := #[s, x], argTypes := #[73, 73] })
    (v : Value) (l : List UInt8) (hs : a.eval s = v) (hown : BRow w0 w v l) (g c : Nat) (m : List UInt8) (hx : a.eval x = .slice (some ⟨g, 0, none⟩) m.length c) (hb : Blk w g (bcells m).toArray 5)
    (hl : l.length + m.length ≤ 1000000) (h : ∀ v' w', BRow w0 w' v' (l ++ m) → Ext w0 w' → R v' w') : does Tryd.prog ops o a w R := by
  obtain ⟨ti, hi, hz0, hz1, hz2⟩ := info_parts bytes_info
  refine does_append0 hx0 hg s x 73 ho 5 ti (.int .u8 0) 1 1 Tryd.underlying73 hi hz0 hz1 hz2 rfl (by omega) v l.length (bcells l) hs hown ⟨g, 0, none⟩ m.length c (bcells m) hx (by simp [bcells]) (fun j u hu => ?_) bcells_one (by simp only [maxLen]; omega) (by omega) (fun v' w' h1 h2 => h v' w' ?_ h2)
  · rw [show (⟨g, 0, none⟩ : Addr).add j = ⟨g, j, none⟩ from by by_cases h0 : j = 0 <;> simp [Addr.add, h0], hb.cell j]
    simpa using hu
  · unfold BRow
    rw [List.length_append, bcells_append]
    exact h1

theorem Blk.av {w : World} {b : Nat} {c : Array Value} {e : TypeId} (h : Blk w b c e) (i : Nat) {v : Value} (hv : c[i]? = some v) : w.cell? ⟨b, i, none⟩ = some v := (h.cell i).trans hv
theorem byte_val (k : Nat) (h : k < 256) : Value.int .u8 ((UInt8.ofNat k).toNat : Int) = Value.int .u8 (k : Int) := by
  rw [byte_cell]; congr 1; omega
theorem BRow.text {w0 w : World} {v : Value} {l : List UInt8} (h : BRow w0 w v l) (hl : l ≠ []) : ∃ g cap cur, v = .slice (some ⟨g, 0, none⟩) l.length cap ∧ Blk w g cur 5 ∧ ∀ j, j < l.length → cur[j]? = (bcells l)[j]? := by
  rcases h.2 with ⟨_, h0⟩ | ⟨g, cap, cur, hv, _, hg, hnc, _, hcs, htake⟩
  · exact absurd (List.length_eq_zero_iff.1 h0) hl
  · refine ⟨g, cap, cur, hv, hg, fun j hj => ?_⟩
    rw [← htake, List.getElem?_take, if_pos (by omega)]
    simp

/-- append of bytes in a sequence. -/
theorem wpList_bytes {ops : Array Oper} {Q : Exit → Act → World → Prop} {rest : List Oper} {o : Oper} {a : Act} {w0 w : World} (hx0 : Ext w0 w) (hg : o.guard = none) (s x : Operand)
    (ho : o.op = .call { callee := .builtin .append, args := #[s, x], argTypes := #[73, 73] })
    (v : Value) (l : List UInt8) (hs : a.eval s = v) (hown : BRow w0 w v l) (g n c : Nat) (m : List UInt8) (hn : n = m.length) (hx : a.eval x = .slice (some ⟨g, 0, none⟩) n c) (cs : Array Value) (hcs : cs = (bcells m).toArray) (hb : Blk w g cs 5)
    (hl : l.length + m.length ≤ 1000000) (h : ∀ v' w', BRow w0 w' v' (l ++ m) → Ext w0 w' → wpList Tryd.prog ops Q rest (a.put o.dst v') w') : wpList Tryd.prog ops Q (o :: rest) a w := by
  subst hcs hn
  obtain ⟨ti, hi, hz0, hz1, hz2⟩ := info_parts bytes_info
  obtain ⟨v', w', hr, h2, h3, h4⟩ := run_append_own (P := Tryd.prog) w w0.heap.size 73 o.type 5 ti (.int .u8 0) 1 1 Tryd.underlying73 hi hz0 hz1 hz2 rfl (by omega) v l.length (bcells l) hown ⟨g, 0, none⟩ m.length c (bcells m) (by simp [bcells]) (fun j u hu => by
    rw [show (⟨g, 0, none⟩ : Addr).add j = ⟨g, j, none⟩ from by by_cases h0 : j = 0 <;> simp [Addr.add, h0], hb.cell j]
    simpa using hu) bcells_one (by simp only [maxLen]; omega) (by omega) hx0.size
  refine wpList_plain hg fun K hK => ?_
  unfold Oper.wp
  rw [run_exec_append s x 73 ho hs hx hr]
  refine hK _ _ (h v' w' ?_ (grown_ext hx0 hown h3))
  unfold BRow
  rw [List.length_append, bcells_append]
  exact h2

theorem flat_take_succ (nums : List Int) (k : Nat) (h : k < nums.length) : ((nums.take (k + 1)).flatMap fun n => high4 n.toNat) = ((nums.take k).flatMap fun n => high4 n.toNat) ++ high4 (nums.getD k 0).toNat := by
  rw [List.take_succ_eq_append_getElem h, List.flatMap_append, List.getD_eq_getElem?_getD, List.getElem?_eq_getElem h]
  simp


set_option maxRecDepth 100000 in
set_option maxHeartbeats 3200000 in
theorem fencode_ok (f : Fr) (a : Option Addr) (cap : Nat) (w : World) (ev : Nat → Value) (hr : Ints w a f.nums.length f.nums) (hl : (f.nums.length : Int) ≤ 9223372036854775807) (he : Errs w ev) (hc : f.code = 0) :
    Calls Tryd.prog 14 #[frv f a cap] w fun e w' => e = .returned (.tuple #[.string ⟨f.text.toArray⟩, .nilIface]) ∧ Ext w w' := by
  have H := fun w' (x : Ext w w') => hid (fcheck_any f a cap w' ev (hr.ext x) hl (he.ext x))
  have hne : Hid (errv ev f.code = .nilIface) := by refine hid ?_; unfold errv; rw [if_pos hc]
  rw [hne.out] at H
  unfold frv at H ⊢
  have Hr := hid hr
  obtain ⟨z1, ⟨z2, z3⟩, ⟨z4, z5⟩, ⟨z6, z7⟩, z8, z9, z10⟩ := Fr.code_zero hc
  obtain ⟨kind, fr, to, seq, nums⟩ := f
  simp only at *
  obtain ⟨fn, rfl⟩ := Int.eq_ofNat_of_zero_le z2
  obtain ⟨tn, rfl⟩ := Int.eq_ofNat_of_zero_le z4
  obtain ⟨sn, rfl⟩ := Int.eq_ofNat_of_zero_le z6
  have Hfar := hid z8
  clear hr he hc hne z1 z2 z4 z6 z8 z9 hl
  go_enter Tryd.func14, Tryd.ntmps14
  go_wp2_with fail
  refine (H _ ((Ext.refl w).alloc _)).out.mono ?_
  intro e W hx
  obtain ⟨rfl, x2⟩ := hx
  clear H
  have bW := (Blk.new w #[Value.int .u8 (kind.toNat : Int), .int .i64 fn, .int .i64 tn, .int .i64 sn, .slice a nums.length cap] 30).ext x2
  have xW := ((Ext.refl w).alloc _).trans x2
  clear x2
  generalize hN : w.heap.size = N at bW
  have d0 := bW.kc (X := fun _ => False) (fun e => e) 0 rfl
  have d1 := bW.kc (X := fun _ => False) (fun e => e) 1 rfl
  have d2 := bW.kc (X := fun _ => False) (fun e => e) 2 rfl
  have d3 := bW.kc (X := fun _ => False) (fun e => e) 3 rfl
  have HbW := hid bW
  clear bW
  go_wp2
  refine wp_flow (fun _ => False) (by kernel_rfl) (by kernel_rfl) ?_
  apply Flow.d 0 _ rfl (by simp) (by kernel_rfl)
  · intro w1 hk; unfold does; go_simp; (try go_ints); exact DetR.mk
  simp only [List.getElem_toArray, List.getElem_cons_zero, List.getElem_cons_succ, Act.put, List.setIfInBounds_toArray, List.set_cons_zero, List.set_cons_succ]
  apply Flow.d 1 _ rfl (by simp) (by kernel_rfl)
  · intro w1 hk; unfold does; go_simp; (try go_ints); exact DetR.mk
  simp only [List.getElem_toArray, List.getElem_cons_zero, List.getElem_cons_succ, Act.put, List.setIfInBounds_toArray, List.set_cons_zero, List.set_cons_succ]
  apply Flow.d 2 _ rfl (by simp) (by kernel_rfl)
  · intro w1 hk; unfold does; go_simp; (try go_ints); exact DetR.mk
  simp only [List.getElem_toArray, List.getElem_cons_zero, List.getElem_cons_succ, Act.put, List.setIfInBounds_toArray, List.set_cons_zero, List.set_cons_succ]
  apply Flow.d 3 _ rfl (by simp) (by kernel_rfl)
  · intro w1 hk; unfold does; go_simp; (try go_ints); exact DetR.mk
  simp only [List.getElem_toArray, List.getElem_cons_zero, List.getElem_cons_succ, Act.put, List.setIfInBounds_toArray, List.set_cons_zero, List.set_cons_succ]
  apply Flow.d 4 _ rfl (by simp) (by kernel_rfl)
  · intro w1 hk; unfold does; go_simp; (try go_ints); exact DetR.mk
  simp only [List.getElem_toArray, List.getElem_cons_zero, List.getElem_cons_succ, Act.put, List.setIfInBounds_toArray, List.set_cons_zero, List.set_cons_succ]
  apply Flow.d 5 _ rfl (by simp) (by kernel_rfl)
  · intro w1 hk; unfold does; go_simp; (try go_ints); exact DetR.mk
  simp only [List.getElem_toArray, List.getElem_cons_zero, List.getElem_cons_succ, Act.put, List.setIfInBounds_toArray, List.set_cons_zero, List.set_cons_succ]
  apply Flow.d 6 _ rfl (by simp) (by kernel_rfl)
  · intro w1 hk; unfold does; go_simp; (try go_ints); exact DetR.mk
  simp only [List.getElem_toArray, List.getElem_cons_zero, List.getElem_cons_succ, Act.put, List.setIfInBounds_toArray, List.set_cons_zero, List.set_cons_succ]
  apply Flow.d 7 _ rfl (by simp) (by kernel_rfl)
  · intro w1 hk; unfold does; go_simp; (try go_ints); exact DetR.mk
  simp only [List.getElem_toArray, List.getElem_cons_zero, List.getElem_cons_succ, Act.put, List.setIfInBounds_toArray, List.set_cons_zero, List.set_cons_succ]
  apply Flow.d 9 _ rfl (by simp) (by kernel_rfl)
  · intro w1 hk; unfold does; go_simp; (try go_ints); exact DetR.mk
  simp only [List.getElem_toArray, List.getElem_cons_zero, List.getElem_cons_succ, Act.put, List.setIfInBounds_toArray, List.set_cons_zero, List.set_cons_succ]
  apply Flow.d 10 _ rfl (by simp) (by kernel_rfl)
  · intro w1 hk; unfold does; go_simp; (try go_ints); exact DetR.mk
  simp only [List.getElem_toArray, List.getElem_cons_zero, List.getElem_cons_succ, Act.put, List.setIfInBounds_toArray, List.set_cons_zero, List.set_cons_succ]
  have hrow : #[Value.int .u8 (kind.toNat : Int), .int .u8 (fn : Int), .int .u8 (tn : Int)] = (bcells [kind, UInt8.ofNat fn, UInt8.ofNat tn]).toArray := by
    simp only [bcells, List.map_cons, List.map_nil]
    rw [byte_val fn (by omega), byte_val tn (by omega)]
  have Hrow := hid hrow
  clear hrow
  refine Flow.par2 8 11 _ _ rfl rfl (by decide) (fun _ _ h => by cases h) (fun _ _ h => by cases h) (by kernel_rfl) (by kernel_rfl) (by kernel_rfl) (by kernel_rfl)
    (fun v w1 => BRow W w1 v [kind, UInt8.ofNat fn, UInt8.ofNat tn]) (HighR sn) (fun _ _ h x => h.trans x) (fun _ _ _ h x => h.ext x) (fun _ _ _ ⟨g, h1, h2⟩ x => ⟨g, h1, h2.ext x⟩) ?_ ?_ ?_
  · intro w1 hC hk
    unfold does
    go_simp
    refine ⟨(Ext.refl _).alloc _, ?_⟩
    have := BRow.made W w1 hC.size [kind, UInt8.ofNat fn, UInt8.ofNat tn] (by simp)
    rw [← Hrow.out] at this
    exact this
  · intro w1 hC hk
    unfold does
    go_simp
    exact CallR.gen (high_gen sn (by omega) w1)
  rintro v1 _ ⟨_, _⟩ ⟨_, g, rfl, _⟩
  simp only [List.getElem_toArray, List.getElem_cons_zero, List.getElem_cons_succ, Act.put, List.setIfInBounds_toArray, List.set_cons_zero, List.set_cons_succ]
  refine Flow.one 12 _ rfl (by kernel_rfl) (fun v w1 => BRow W w1 v ([kind, UInt8.ofNat fn, UInt8.ofNat tn] ++ high4 sn) ∧ Ext W w1) (fun _ _ _ ⟨h1, h2⟩ x => ⟨h1.ext x, h2.trans x⟩) ?_ ?_
  · rintro w1 ⟨hx, hb, g', e, hg⟩ hk
    obtain rfl : g = g' := by simpa using e
    exact does_bytes (w0 := W) hx rfl _ _ rfl v1 _ rfl hb g 4 (high4 sn) rfl hg (by simp [high4_len]) (fun v' w' h1 h2 => ⟨h2.keep _, h1, h2⟩)
  rintro v2 ⟨_, _, _⟩
  simp only [List.getElem_toArray, List.getElem_cons_zero, List.getElem_cons_succ, Act.put, List.setIfInBounds_toArray, List.set_cons_zero, List.set_cons_succ]
  apply Flow.d 13 _ rfl (by simp) (by kernel_rfl)
  · intro w1 hk; unfold does; go_simp; (try go_ints); exact DetR.mk
  simp only [List.getElem_toArray, List.getElem_cons_zero, List.getElem_cons_succ, Act.put, List.setIfInBounds_toArray, List.set_cons_zero, List.set_cons_succ]
  refine Flow.fin (by kernel_rfl) fun w1 hC hk => ?_
  obtain ⟨hb, hx⟩ := hC
  clear hk d0 d1 d2 d3 hN
  have d4 := (HbW.out.ext hx).av 4 rfl
  obtain ⟨hd, hhd⟩ : ∃ hd, hd = [kind, UInt8.ofNat fn, UInt8.ofNat tn] ++ high4 sn := ⟨_, rfl⟩
  have hhl : hd.length = 7 := by rw [hhd]; rfl
  have Hhd := hid hhd
  rw [← hhd] at hb
  have Hhl := hid hhl
  clear hhd hhl
  have Hone : Hid (#[Value.int .u8 (nums.length : Int)] = (bcells [UInt8.ofNat nums.length]).toArray) := hid (by
    simp only [bcells, List.map_cons, List.map_nil]
    rw [byte_val _ (by omega)])
  have Hlen : Hid (hd.length + [UInt8.ofNat nums.length].length ≤ 1000000) := hid (by rw [Hhl.out]; simp)
  go_wp2_with (at_builtin; refine wpList_bytes (w0 := W) (hx.trans ((Ext.refl _).alloc _)) rfl _ _ rfl v2 hd rfl (hb.ext ((Ext.refl _).alloc _)) w1.heap.size 1 1 [UInt8.ofNat nums.length] rfl rfl _ Hone.out (Blk.new _ _ _) Hlen.out ?_; intro v3 w2 hb2 hx2; have d5 := (HbW.out.ext hx2).av 4 rfl)
  obtain ⟨h8, hh8⟩ : ∃ h8, h8 = hd ++ [UInt8.ofNat nums.length] := ⟨_, rfl⟩
  rw [← hh8] at hb2
  have hl8 : h8.length = 8 := by rw [hh8]; simp [Hhl.out]
  have Hh8 := hid hh8
  have Hl8 := hid hl8
  clear hh8 hl8 hb hx d4 Hlen Hone
  go_loopw [5, 36] (fun t5 t36 wr => ∃ k : Nat, t36 = .int .i64 (k : Int) ∧ k ≤ nums.length ∧ BRow W wr t5 (h8 ++ (nums.take k).flatMap fun n => high4 n.toNat) ∧ Ext W wr) (fun _ t36 _ => nums.length - (intOf t36).toNat)
  case atStart => exact ⟨0, rfl, Nat.zero_le _, by simpa using hb2, hx2⟩
  case round =>
    obtain ⟨k, rfl, hk, hb, hx⟩ := hrel
    clear hb2 hx2 d5
    by_cases hlt : k < nums.length
    · obtain ⟨x, rfl⟩ := Hr.out.sm (by omega)
      have hc := (xW.trans hx).cellx (Hr.out.cl x rfl k hlt)
      have hnear := near_of Hfar.out (nums.getD k 0) (by
        rw [List.getD_eq_getElem?_getD, List.getElem?_eq_getElem hlt]; exact List.getElem_mem _)
      have hts := flat_take_succ nums k hlt
      obtain ⟨n, hn⟩ := Int.eq_ofNat_of_zero_le hnear.1
      have hn2 : n ≤ 2147483648 := by omega
      rw [hn] at hc hts
      simp only [Int.toNat_natCast] at hts
      have Hts := hid hts
      have Hfl : Hid ((h8 ++ (nums.take k).flatMap fun n => high4 n.toNat).length ≤ 1000) := hid (by
        rw [List.length_append, Hl8.out, flat_len]
        have := List.length_take_le k nums
        omega)
      obtain ⟨pre, hpre⟩ : ∃ pre, pre = h8 ++ (nums.take k).flatMap fun n => high4 n.toNat := ⟨_, rfl⟩
      rw [← hpre] at hb Hfl
      have Hpre := hid hpre
      clear hn hts hpre hnear
      have HH := fun w => hid (high_gen n (by omega) w)
      go_wp2_with fail
      refine (HH _).out.mono ?_
      rintro e w3 ⟨_, rfl, hx3, g3, rfl, hg3⟩
      have Hlen : Hid (pre.length + (high4 n).length ≤ 1000000) := hid (by have := Hfl.out; rw [high4_len]; omega)
      go_wp2_with (at_builtin; refine wpList_bytes (w0 := W) (hx.trans hx3) rfl _ _ rfl _ pre rfl (hb.ext hx3) g3 4 4 (high4 n) (high4_len n).symm rfl _ rfl hg3 Hlen.out ?_; intro v4 w4 hb4 hx4)
      go_roundw
      case rel => exact ⟨k + 1, by go_num, by omega, by rw [Hts.out, ← List.append_assoc, ← Hpre.out]; exact hb4, hx4⟩
      case measure => simp [intOf]; omega
    · obtain rfl : k = nums.length := by omega
      rw [List.take_of_length_le (Nat.le_refl _)] at hb
      obtain ⟨body, hbody⟩ : ∃ body, body = h8 ++ nums.flatMap fun n => high4 n.toNat := ⟨_, rfl⟩
      rw [← hbody] at hb
      have hbl : body.length ≤ 1000 ∧ body ≠ [] := by
        have hne : body.length = 8 + 4 * nums.length := by rw [hbody, List.length_append, Hl8.out, flat_len]
        exact ⟨by omega, fun h => by rw [h] at hne; simp at hne; omega⟩
      have Hbody : Hid (body = Fr.body ⟨kind, fn, tn, sn, nums⟩) := hid (by
        rw [hbody, Hh8.out, Hhd.out]; rfl)
      obtain ⟨g, cap', cur, rfl, hg, hcur⟩ := hb.text hbl.2
      have hcv : ∀ w1, Keep (fun _ => False) _ w1 → (convert 73 9 (.slice (some ⟨g, 0, none⟩) body.length cap')).run Tryd.prog w1 = .ok (.string ⟨body.toArray⟩) w1 := fun w1 hk => run_text_of w1 g cap' body cur (hg.keep hk (fun h => h)) hcur
      have hbsz : (⟨body.toArray⟩ : ByteArray).size ≤ 1000000 := by
        show body.toArray.size ≤ _
        simp; omega
      have HS := fun w => hid (sum_any ⟨body.toArray⟩ w hbsz)
      have hcl := crc_lt body
      have HL := fun w => hid (low_any (crc body) (by omega) w)
      clear hbody hcur hg hb hlt hk
      go_wp2
      refine wp_flowT (fun _ => False) (by kernel_rfl) (by kernel_rfl) ?_
      have hl4 : (low4 (crc body)).toArray.size = 4 := rfl
      iterate 4 (apply FlowT.d; (intro w1 hk; unfold does; go_simp; (try go_ints); (first | exact DetR.mk | (simp only [↓IntWalk.iteOmega, Oper.doesUpon_value]; exact DetR.mk) | (simp only [↓IntWalk.iteOmega]; go_simp; (try go_ints); exact DetR.mk))); simp only [Act.put, List.setIfInBounds_toArray, List.set_cons_zero, List.set_cons_succ])
      apply FlowT.d
      · intro w1 hk
        unfold does
        go_simp
        exact CallR.det ((HS w1).out.mono fun e w' ⟨h1, h2⟩ => ⟨h1, h2 ▸ Ext.refl _⟩)
      simp only [Act.put, List.setIfInBounds_toArray, List.set_cons_zero, List.set_cons_succ]
      apply FlowT.d
      · intro w1 hk
        unfold does
        go_simp
        exact CallR.det ((HL w1).out)
      simp only [Act.put, List.setIfInBounds_toArray, List.set_cons_zero, List.set_cons_succ]
      repeat (apply FlowT.d; (intro w1 hk; unfold does; go_simp; (try go_ints); (first | exact DetR.mk | (simp only [↓IntWalk.iteOmega, Oper.doesUpon_value]; exact DetR.mk) | (simp only [↓IntWalk.iteOmega]; go_simp; (try go_ints); exact DetR.mk))); simp only [Act.put, List.setIfInBounds_toArray, List.set_cons_zero, List.set_cons_succ])
      refine FlowT.fin fun w1 hC hk => ?_
      go_wp2
      go_ret2
      refine ⟨?_, xW.trans (hx.trans hC)⟩
      rw [Fr.text, ← Hbody.out, ← ByteArray.mk_append_mk]
      rfl
end Go.Proofs.YtmdcjfgdmmncpaaDoor
