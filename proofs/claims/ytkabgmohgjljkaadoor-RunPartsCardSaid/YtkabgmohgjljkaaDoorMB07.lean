/- Texts of one proof, put together: L3 L5. -/
import Derived.Test.YtkabgmohgjljkaaDoorMB06

/- Links: a frame is sent. -/
namespace Go.Proofs.YtkabgmohgjljkaaDoor
set_option linter.unusedSimpArgs false
set_option linter.unusedVariables false
open Go Go.RowKit

section
variable {w : World} {n0 : Nat} {t : Option Nat}
theorem Wr.blk {b : Nat} {c : Array Value} {e : TypeId} (hb : Blk w b c e) (hne : e ≠ 3) (hl : n0 ≤ b) : Wr w n0 t fun k => k = b :=
  fun k hk _ => ⟨by omega, fun hi => absurd hi (by subst hk; exact IsInt.not hb hne)⟩
theorem Wr.or {X Y : Nat → Prop} (h1 : Wr w n0 t X) (h2 : Wr w n0 t Y) : Wr w n0 t fun b => X b ∨ Y b := fun b hb hl => hb.elim (fun h => h1 b h hl) fun h => h2 b h hl
theorem Wr.row {v : Value} {e : TypeId} {size n : Nat} {xs : List Value} (h : w.ownsRow n0 e size v n xs) (hne : e ≠ 3) : Wr w n0 t fun k => v.ownBlock = some k :=
  fun k hk _ => ⟨(World.ownsRow.lt h k hk).1, fun hi => by
    obtain ⟨c, hc⟩ := own_ty h hk
    exact absurd hi (IsInt.not hc hne)⟩
theorem Wr.sub {X Y : Nat → Prop} (h : Wr w n0 t Y) (hx : ∀ b, X b → b < w.heap.size → Y b) : Wr w n0 t X := fun b hb hl => h b (hx b hb hl) hl
end
theorem own_rebase {w : World} {base b2 : Nat} {e : TypeId} {size n : Nat} {v : Value} {xs : List Value} (h : w.ownsRow base e size v n xs) (hb : ∀ k, v.ownBlock = some k → b2 ≤ k) : w.ownsRow b2 e size v n xs := by
  obtain ⟨h1, h2⟩ := h
  refine ⟨h1, h2.imp id ?_⟩
  rintro ⟨g, cap, cur, rfl, hg, h3⟩
  exact ⟨g, cap, cur, rfl, hb g rfl, h3⟩
theorem kept_info : (Tryd.prog.info? 97).map (fun i => (i.zero, i.size, i.bytes)) = some (some (.agg #[.int .u8 0, .int .i64 0, .int .i64 0, .int .i64 0, .slice none 0 0, .int .i64 0]), 6, 64) := by kernel_rfl



set_option maxRecDepth 100000 in
set_option maxHeartbeats 3200000 in
theorem send_code (s : Snd) (kind : UInt8) (nums : List Int) (a : Option Addr) (cap : Nat) (w : World) (n0 : Nat) (t : Option Nat) (p : Nat) (lv : Value) (ks : List (FV × Int)) (h : SndAt w n0 t p s lv ks) (hr : Ints w a nums.length nums) (hl : nums.length ≤ 1000)
    (ev : Nat → Value) (he : ErrsC w ev)
    (c : Nat) (hc : (s.frame kind nums).code = c) (h0 : c ≠ 0) (hev : ∃ t v, ev c = .iface t v) :
    Calls Tryd.prog 11 #[.pointer (some ⟨p, 0, none⟩), .int .u8 (kind.toNat : Int), .slice a nums.length cap] w fun e w' => e = .returned (.tuple #[fr0, ev c]) ∧ Ext w w' := by
  obtain ⟨ti, vi, hev⟩ := hev
  have hE : errv ev c = .iface ti vi := by unfold errv; rw [if_neg h0, hev]
  rw [hev]
  clear hev h0
  obtain ⟨W0, hW0⟩ : ∃ W0, W0 = w.alloc (.cells frz 48) := ⟨_, rfl⟩
  have xW0 : Ext w W0 := by rw [hW0]; exact (Ext.refl w).alloc _
  have hs0 : W0.heap.size = w.heap.size + 1 := by rw [hW0]; simp
  have b6 : Blk W0 w.heap.size frz 48 := by rw [hW0]; exact Blk.new _ _ _
  have hpl := h.hp.lt
  have hnp : ¬ W0.heap.size ≤ p := by omega
  have g0 := (h.hp.ext xW0).kc (X := fun b => W0.heap.size ≤ b) hnp 0 rfl
  have g1 := (h.hp.ext xW0).kc (X := fun b => W0.heap.size ≤ b) hnp 1 rfl
  have g2 := (h.hp.ext xW0).kc (X := fun b => W0.heap.size ≤ b) hnp 2 rfl
  simp only [List.getElem_toArray, List.getElem_cons_zero, List.getElem_cons_succ] at g0 g1 g2
  have HC := fun w1 (x : Ext w w1) => hid (copied_any (s.frame kind nums) a cap w1 (hr.ext x) hl)
  have HK := fun w1 (x : Ext w w1) a1 c1 (hi : Ints w1 a1 nums.length nums) => hid (fcheck_any (s.frame kind nums) a1 c1 w1 ev hi (by simp only [Snd.frame]; omega) (he.ext x))
  have Hhi : Hid (∀ i, nums.getD i 0 ≤ 9223372036854775807) := hid hr.hi
  unfold frz at hW0
  have HW0 := hid hW0
  have H := hid h
  have Hb6 := hid b6
  have Hs0 := hid hs0
  clear hW0 h hr b6 hs0
  simp only [Snd.frame, frv] at HC HK hc
  simp only [hc, hE] at HK
  clear hc hE
  go_enter Tryd.func11, Tryd.ntmps11
  go_wp2
  rw [← HW0.out]
  refine wp_flow (fun b => W0.heap.size ≤ b) (by kernel_rfl) (by kernel_rfl) ?_
  apply Flow.d 0 _ rfl (by simp) (by kernel_rfl)
  · intro w1 hk; unfold does; go_simp; (try go_ints); exact DetR.mk
  simp only [List.getElem_toArray, List.getElem_cons_zero, List.getElem_cons_succ, Act.put, List.setIfInBounds_toArray, List.set_cons_zero, List.set_cons_succ]
  apply Flow.d 1 _ rfl (by simp) (by kernel_rfl)
  · intro w1 hk; unfold does; go_simp; (try go_ints); exact DetR.mk
  simp only [List.getElem_toArray, List.getElem_cons_zero, List.getElem_cons_succ, Act.put, List.setIfInBounds_toArray, List.set_cons_zero, List.set_cons_succ]
  apply Flow.d 2 _ rfl (by simp) (by kernel_rfl)
  · intro w1 hk; unfold does; go_simp; (try go_ints); exact DetR.mk
  simp only [List.getElem_toArray, List.getElem_cons_zero, List.getElem_cons_succ, Act.put, List.setIfInBounds_toArray, List.set_cons_zero, List.set_cons_succ]
  apply Flow.d 3 _ rfl (by simp) (by kernel_rfl)
  · intro w1 hk; unfold does; go_simp; (try go_ints); exact DetR.mk
  simp only [List.getElem_toArray, List.getElem_cons_zero, List.getElem_cons_succ, Act.put, List.setIfInBounds_toArray, List.set_cons_zero, List.set_cons_succ]
  apply Flow.d 4 _ rfl (by simp) (by kernel_rfl)
  · intro w1 hk; unfold does; go_simp; (try go_ints); exact DetR.mk
  simp only [List.getElem_toArray, List.getElem_cons_zero, List.getElem_cons_succ, Act.put, List.setIfInBounds_toArray, List.set_cons_zero, List.set_cons_succ]
  apply Flow.d 5 _ rfl (by simp) (by kernel_rfl)
  · intro w1 hk; unfold does; go_simp; (try go_ints); exact DetR.mk
  simp only [List.getElem_toArray, List.getElem_cons_zero, List.getElem_cons_succ, Act.put, List.setIfInBounds_toArray, List.set_cons_zero, List.set_cons_succ]
  apply Flow.d 6 _ rfl (by simp) (by kernel_rfl)
  · intro w1 hk; unfold does; go_simp; (try go_ints); exact DetR.mk
  simp only [List.getElem_toArray, List.getElem_cons_zero, List.getElem_cons_succ, Act.put, List.setIfInBounds_toArray, List.set_cons_zero, List.set_cons_succ]
  apply Flow.d 7 _ rfl (by simp) (by kernel_rfl)
  · intro w1 hk; unfold does; go_simp; (try go_ints); exact DetR.mk
  simp only [List.getElem_toArray, List.getElem_cons_zero, List.getElem_cons_succ, Act.put, List.setIfInBounds_toArray, List.set_cons_zero, List.set_cons_succ]
  apply Flow.d 8 _ rfl (by simp) (by kernel_rfl)
  · intro w1 hk; unfold does; go_simp; (try go_ints); exact DetR.mk
  simp only [List.getElem_toArray, List.getElem_cons_zero, List.getElem_cons_succ, Act.put, List.setIfInBounds_toArray, List.set_cons_zero, List.set_cons_succ]
  apply Flow.d 9 _ rfl (by simp) (by kernel_rfl)
  · intro w1 hk; unfold does; go_simp; (try go_ints); exact DetR.mk
  simp only [List.getElem_toArray, List.getElem_cons_zero, List.getElem_cons_succ, Act.put, List.setIfInBounds_toArray, List.set_cons_zero, List.set_cons_succ]
  apply Flow.d 10 _ rfl (by simp) (by kernel_rfl)
  · intro w1 hk; unfold does; go_simp; (try go_ints); exact DetR.mk
  simp only [List.getElem_toArray, List.getElem_cons_zero, List.getElem_cons_succ, Act.put, List.setIfInBounds_toArray, List.set_cons_zero, List.set_cons_succ]
  apply Flow.d 11 _ rfl (by simp) (by kernel_rfl)
  · intro w1 hk; unfold does; go_simp; (try go_ints); exact DetR.mk
  simp only [List.getElem_toArray, List.getElem_cons_zero, List.getElem_cons_succ, Act.put, List.setIfInBounds_toArray, List.set_cons_zero, List.set_cons_succ]
  apply Flow.d 12 _ rfl (by simp) (by kernel_rfl)
  · intro w1 hk; unfold does; go_simp; (try go_ints); exact DetR.mk
  simp only [List.getElem_toArray, List.getElem_cons_zero, List.getElem_cons_succ, Act.put, List.setIfInBounds_toArray, List.set_cons_zero, List.set_cons_succ]
  apply Flow.d 13 _ rfl (by simp) (by kernel_rfl)
  · intro w1 hk; unfold does; go_simp; (try go_ints); exact DetR.mk
  simp only [List.getElem_toArray, List.getElem_cons_zero, List.getElem_cons_succ, Act.put, List.setIfInBounds_toArray, List.set_cons_zero, List.set_cons_succ]
  apply Flow.d 14 _ rfl (by simp) (by kernel_rfl)
  · intro w1 hk; unfold does; go_simp; (try go_ints); exact DetR.mk
  simp only [List.getElem_toArray, List.getElem_cons_zero, List.getElem_cons_succ, Act.put, List.setIfInBounds_toArray, List.set_cons_zero, List.set_cons_succ]
  refine Flow.par2 15 16 _ _ rfl rfl (by decide) (fun _ _ h => by cases h) (fun _ _ h => by cases h) (by kernel_rfl) (by kernel_rfl) (by kernel_rfl) (by kernel_rfl)
    (fun v w1 => ∃ v1, v = (FV.mk ⟨kind, s.fr, s.to, s.next, nums⟩ v1).val ∧ IRow W0.heap.size w1 v1 nums) (fun v w1 => ∃ b, v = .pointer (some ⟨b, 0, none⟩) ∧ Blk w1 b frz 48 ∧ W0.heap.size ≤ b) (fun _ _ h x => h.trans x) (fun _ _ _ ⟨v1, h1, h2⟩ x => ⟨v1, h1, h2.ext x⟩) (fun _ _ _ ⟨g, h1, h2, h3⟩ x => ⟨g, h1, h2.ext x, h3⟩) ?_ ?_ ?_
  · intro w1 hC hk
    unfold does
    go_simp
    refine CallR.gen ((HC w1 (xW0.trans hC)).out.mono ?_)
    rintro e w2 ⟨v, rfl, hx, hI⟩
    exact ⟨_, rfl, hx, v, rfl, hI.base hC.size⟩
  · intro w1 hC hk
    unfold does
    go_simp
    exact ⟨(Ext.refl _).alloc _, _, rfl, Blk.new _ _ _, hC.size⟩
  rintro _ _ ⟨_, v1, rfl, hI0⟩ ⟨_, b8, rfl, _, hb8⟩
  obtain ⟨a1, c1, rfl⟩ := hI0.form
  have Hb8 := hid hb8
  clear hI0 hb8
  simp only [List.getElem_toArray, List.getElem_cons_zero, List.getElem_cons_succ, Act.put, List.setIfInBounds_toArray, List.set_cons_zero, List.set_cons_succ]
  refine Flow.one 17 _ rfl (by kernel_rfl) (fun _ w1 => Blk w1 b8 #[.int .u8 (kind.toNat : Int), .int .i64 s.fr, .int .i64 s.to, .int .i64 s.next, .slice a1 nums.length c1] 48 ∧ IRow W0.heap.size w1 (.slice a1 nums.length c1) nums ∧ Ext W0 w1) (fun _ _ _ ⟨h1, h2, h3⟩ x => ⟨h1.ext x, h2.ext x, h3.trans x⟩) ?_ ?_
  · rintro w1 ⟨hx, ⟨v2, e2, hI⟩, b', eb, hB, _⟩ hk
    obtain rfl : v2 = .slice a1 nums.length c1 := by simpa [FV.val, eq_comm] using e2
    obtain rfl : b8 = b' := by simpa using eb
    have c0 := hB.av 0 rfl
    have c1 := hB.av 1 rfl
    have c2 := hB.av 2 rfl
    have c3 := hB.av 3 rfl
    have c4 := hB.av 4 rfl
    have f0 := hB.free
    unfold does
    unfold FV.val
    go_simp
    refine ⟨(store5_keep _ _ _ _ _ _ _ |>.mono fun b _ e => by subst e; exact Hb8.out) |> hk.trans, store5 hB, hI.keep (store5_keep _ _ _ _ _ _ _) (fun b hb' e => ?_), Keep.new hx (store5_keep _ _ _ _ _ _ _) (fun b e => by subst e; exact Hb8.out)⟩
    obtain ⟨c, hc⟩ := own_ty (show w1.ownsRow W0.heap.size 3 1 _ nums.length (icells nums) from hI) hb'
    exact hB.ty_ne hc (by decide) e.symm
  rintro _ ⟨_, _⟩
  simp only [List.getElem_toArray, List.getElem_cons_zero, List.getElem_cons_succ, Act.put, List.setIfInBounds_toArray, List.set_cons_zero, List.set_cons_succ]
  refine Flow.fin (by kernel_rfl) fun w1 hC hk => ?_
  obtain ⟨hB, hI, hx⟩ := hC
  clear g0 g1 g2 HC hk HW0
  have hx1 := xW0.trans hx
  have Hx1 := hid hx1
  have d0 := hB.av 0 rfl
  have d1 := hB.av 1 rfl
  have d2 := hB.av 2 rfl
  have d3 := hB.av 3 rfl
  have d4 := hB.av 4 rfl
  go_wp2_with fail
  refine (HK _ hx1 _ _ (hI.ints Hhi.out)).out.mono ?_
  intro e w2 hx2
  obtain ⟨rfl, hx2⟩ := hx2
  clear HK d0 d1 d2 d3 d4
  have b6 := Hb6.out.ext (hx.trans hx2)
  have e0 := b6.av 0 rfl
  have e1 := b6.av 1 rfl
  have e2 := b6.av 2 rfl
  have e3 := b6.av 3 rfl
  have e4 := b6.av 4 rfl
  have f6 := b6.free
  have hB6 := hid (store5 (b0 := .int .u8 0) (b1 := .int .i64 0) (b2 := .int .i64 0) (b3 := .int .i64 0) (b4 := .slice none 0 0) b6)
  have hk6 := hid (store5_keep w2 w.heap.size (.int .u8 0) (.int .i64 0) (.int .i64 0) (.int .i64 0) (.slice none 0 0))
  have Hx := hid (hx1.trans hx2)
  clear b6 hB hI hx1 hx hx2 Hb6
  generalize hN : w.heap.size = N at *
  have HN := hid hN
  clear hN
  go_wp2
  have c0 := hB6.out.av 0 rfl
  have c1 := hB6.out.av 1 rfl
  have c2 := hB6.out.av 2 rfl
  have c3 := hB6.out.av 3 rfl
  have c4 := hB6.out.av 4 rfl
  have hE := hid (Keep.new Hx.out hk6.out (fun b hb => Nat.le_of_eq (HN.out.trans hb.symm)))
  generalize (((((w2.setCell ⟨N, 0, none⟩ (.int .u8 0)).setCell ⟨N, 1, none⟩ (.int .i64 0)).setCell ⟨N, 2, none⟩ (.int .i64 0)).setCell ⟨N, 3, none⟩ (.int .i64 0)).setCell ⟨N, 4, none⟩ (.slice none 0 0)) = W9 at *
  exact bodyPost_ret (v := .tuple #[fr0, .iface ti vi]) (by simp [results, Tryd.results11, go_sem, c0, c1, c2, c3, c4]; rfl) rfl ⟨rfl, hE.out⟩

set_option maxRecDepth 100000 in
set_option maxHeartbeats 3200000 in
theorem send_ack (s : Snd) (kind : UInt8) (nums : List Int) (a : Option Addr) (cap : Nat) (w : World) (n0 : Nat) (t : Option Nat) (p : Nat) (lv : Value) (ks : List (FV × Int)) (h : SndAt w n0 t p s lv ks) (hr : Ints w a nums.length nums) (hl : nums.length ≤ 1000)
    (ev : Nat → Value) (he : ErrsC w ev)
    (hc : (s.frame kind nums).code = 0) (hk : kind = 97) :
    Calls Tryd.prog 11 #[.pointer (some ⟨p, 0, none⟩), .int .u8 (kind.toNat : Int), .slice a nums.length cap] w fun e w' => e = .returned (.tuple #[fr0, ev 4]) ∧ Ext w w' := by
  have hE : errv ev 0 = .nilIface := rfl
  have Hg := hid he.kind
  have hkn : (kind.toNat : Int) = 97 := by rw [hk]; rfl
  have Hkn := hid hkn
  clear hk hkn
  obtain ⟨W0, hW0⟩ : ∃ W0, W0 = w.alloc (.cells frz 48) := ⟨_, rfl⟩
  have xW0 : Ext w W0 := by rw [hW0]; exact (Ext.refl w).alloc _
  have hs0 : W0.heap.size = w.heap.size + 1 := by rw [hW0]; simp
  have b6 : Blk W0 w.heap.size frz 48 := by rw [hW0]; exact Blk.new _ _ _
  have hpl := h.hp.lt
  have hnp : ¬ W0.heap.size ≤ p := by omega
  have g0 := (h.hp.ext xW0).kc (X := fun b => W0.heap.size ≤ b) hnp 0 rfl
  have g1 := (h.hp.ext xW0).kc (X := fun b => W0.heap.size ≤ b) hnp 1 rfl
  have g2 := (h.hp.ext xW0).kc (X := fun b => W0.heap.size ≤ b) hnp 2 rfl
  simp only [List.getElem_toArray, List.getElem_cons_zero, List.getElem_cons_succ] at g0 g1 g2
  have HC := fun w1 (x : Ext w w1) => hid (copied_any (s.frame kind nums) a cap w1 (hr.ext x) hl)
  have HK := fun w1 (x : Ext w w1) a1 c1 (hi : Ints w1 a1 nums.length nums) => hid (fcheck_any (s.frame kind nums) a1 c1 w1 ev hi (by simp only [Snd.frame]; omega) (he.ext x))
  have Hhi : Hid (∀ i, nums.getD i 0 ≤ 9223372036854775807) := hid hr.hi
  unfold frz at hW0
  have HW0 := hid hW0
  have H := hid h
  have Hb6 := hid b6
  have Hs0 := hid hs0
  clear hW0 h hr b6 hs0
  simp only [Snd.frame, frv] at HC HK hc
  simp only [hc, hE] at HK
  clear hc hE
  go_enter Tryd.func11, Tryd.ntmps11
  go_wp2
  rw [← HW0.out]
  refine wp_flow (fun b => W0.heap.size ≤ b) (by kernel_rfl) (by kernel_rfl) ?_
  apply Flow.d 0 _ rfl (by simp) (by kernel_rfl)
  · intro w1 hk; unfold does; go_simp; (try go_ints); exact DetR.mk
  simp only [List.getElem_toArray, List.getElem_cons_zero, List.getElem_cons_succ, Act.put, List.setIfInBounds_toArray, List.set_cons_zero, List.set_cons_succ]
  apply Flow.d 1 _ rfl (by simp) (by kernel_rfl)
  · intro w1 hk; unfold does; go_simp; (try go_ints); exact DetR.mk
  simp only [List.getElem_toArray, List.getElem_cons_zero, List.getElem_cons_succ, Act.put, List.setIfInBounds_toArray, List.set_cons_zero, List.set_cons_succ]
  apply Flow.d 2 _ rfl (by simp) (by kernel_rfl)
  · intro w1 hk; unfold does; go_simp; (try go_ints); exact DetR.mk
  simp only [List.getElem_toArray, List.getElem_cons_zero, List.getElem_cons_succ, Act.put, List.setIfInBounds_toArray, List.set_cons_zero, List.set_cons_succ]
  apply Flow.d 3 _ rfl (by simp) (by kernel_rfl)
  · intro w1 hk; unfold does; go_simp; (try go_ints); exact DetR.mk
  simp only [List.getElem_toArray, List.getElem_cons_zero, List.getElem_cons_succ, Act.put, List.setIfInBounds_toArray, List.set_cons_zero, List.set_cons_succ]
  apply Flow.d 4 _ rfl (by simp) (by kernel_rfl)
  · intro w1 hk; unfold does; go_simp; (try go_ints); exact DetR.mk
  simp only [List.getElem_toArray, List.getElem_cons_zero, List.getElem_cons_succ, Act.put, List.setIfInBounds_toArray, List.set_cons_zero, List.set_cons_succ]
  apply Flow.d 5 _ rfl (by simp) (by kernel_rfl)
  · intro w1 hk; unfold does; go_simp; (try go_ints); exact DetR.mk
  simp only [List.getElem_toArray, List.getElem_cons_zero, List.getElem_cons_succ, Act.put, List.setIfInBounds_toArray, List.set_cons_zero, List.set_cons_succ]
  apply Flow.d 6 _ rfl (by simp) (by kernel_rfl)
  · intro w1 hk; unfold does; go_simp; (try go_ints); exact DetR.mk
  simp only [List.getElem_toArray, List.getElem_cons_zero, List.getElem_cons_succ, Act.put, List.setIfInBounds_toArray, List.set_cons_zero, List.set_cons_succ]
  apply Flow.d 7 _ rfl (by simp) (by kernel_rfl)
  · intro w1 hk; unfold does; go_simp; (try go_ints); exact DetR.mk
  simp only [List.getElem_toArray, List.getElem_cons_zero, List.getElem_cons_succ, Act.put, List.setIfInBounds_toArray, List.set_cons_zero, List.set_cons_succ]
  apply Flow.d 8 _ rfl (by simp) (by kernel_rfl)
  · intro w1 hk; unfold does; go_simp; (try go_ints); exact DetR.mk
  simp only [List.getElem_toArray, List.getElem_cons_zero, List.getElem_cons_succ, Act.put, List.setIfInBounds_toArray, List.set_cons_zero, List.set_cons_succ]
  apply Flow.d 9 _ rfl (by simp) (by kernel_rfl)
  · intro w1 hk; unfold does; go_simp; (try go_ints); exact DetR.mk
  simp only [List.getElem_toArray, List.getElem_cons_zero, List.getElem_cons_succ, Act.put, List.setIfInBounds_toArray, List.set_cons_zero, List.set_cons_succ]
  apply Flow.d 10 _ rfl (by simp) (by kernel_rfl)
  · intro w1 hk; unfold does; go_simp; (try go_ints); exact DetR.mk
  simp only [List.getElem_toArray, List.getElem_cons_zero, List.getElem_cons_succ, Act.put, List.setIfInBounds_toArray, List.set_cons_zero, List.set_cons_succ]
  apply Flow.d 11 _ rfl (by simp) (by kernel_rfl)
  · intro w1 hk; unfold does; go_simp; (try go_ints); exact DetR.mk
  simp only [List.getElem_toArray, List.getElem_cons_zero, List.getElem_cons_succ, Act.put, List.setIfInBounds_toArray, List.set_cons_zero, List.set_cons_succ]
  apply Flow.d 12 _ rfl (by simp) (by kernel_rfl)
  · intro w1 hk; unfold does; go_simp; (try go_ints); exact DetR.mk
  simp only [List.getElem_toArray, List.getElem_cons_zero, List.getElem_cons_succ, Act.put, List.setIfInBounds_toArray, List.set_cons_zero, List.set_cons_succ]
  apply Flow.d 13 _ rfl (by simp) (by kernel_rfl)
  · intro w1 hk; unfold does; go_simp; (try go_ints); exact DetR.mk
  simp only [List.getElem_toArray, List.getElem_cons_zero, List.getElem_cons_succ, Act.put, List.setIfInBounds_toArray, List.set_cons_zero, List.set_cons_succ]
  apply Flow.d 14 _ rfl (by simp) (by kernel_rfl)
  · intro w1 hk; unfold does; go_simp; (try go_ints); exact DetR.mk
  simp only [List.getElem_toArray, List.getElem_cons_zero, List.getElem_cons_succ, Act.put, List.setIfInBounds_toArray, List.set_cons_zero, List.set_cons_succ]
  refine Flow.par2 15 16 _ _ rfl rfl (by decide) (fun _ _ h => by cases h) (fun _ _ h => by cases h) (by kernel_rfl) (by kernel_rfl) (by kernel_rfl) (by kernel_rfl)
    (fun v w1 => ∃ v1, v = (FV.mk ⟨kind, s.fr, s.to, s.next, nums⟩ v1).val ∧ IRow W0.heap.size w1 v1 nums) (fun v w1 => ∃ b, v = .pointer (some ⟨b, 0, none⟩) ∧ Blk w1 b frz 48 ∧ W0.heap.size ≤ b) (fun _ _ h x => h.trans x) (fun _ _ _ ⟨v1, h1, h2⟩ x => ⟨v1, h1, h2.ext x⟩) (fun _ _ _ ⟨g, h1, h2, h3⟩ x => ⟨g, h1, h2.ext x, h3⟩) ?_ ?_ ?_
  · intro w1 hC hk
    unfold does
    go_simp
    refine CallR.gen ((HC w1 (xW0.trans hC)).out.mono ?_)
    rintro e w2 ⟨v, rfl, hx, hI⟩
    exact ⟨_, rfl, hx, v, rfl, hI.base hC.size⟩
  · intro w1 hC hk
    unfold does
    go_simp
    exact ⟨(Ext.refl _).alloc _, _, rfl, Blk.new _ _ _, hC.size⟩
  rintro _ _ ⟨_, v1, rfl, hI0⟩ ⟨_, b8, rfl, _, hb8⟩
  obtain ⟨a1, c1, rfl⟩ := hI0.form
  have Hb8 := hid hb8
  clear hI0 hb8
  simp only [List.getElem_toArray, List.getElem_cons_zero, List.getElem_cons_succ, Act.put, List.setIfInBounds_toArray, List.set_cons_zero, List.set_cons_succ]
  refine Flow.one 17 _ rfl (by kernel_rfl) (fun _ w1 => Blk w1 b8 #[.int .u8 (kind.toNat : Int), .int .i64 s.fr, .int .i64 s.to, .int .i64 s.next, .slice a1 nums.length c1] 48 ∧ IRow W0.heap.size w1 (.slice a1 nums.length c1) nums ∧ Ext W0 w1) (fun _ _ _ ⟨h1, h2, h3⟩ x => ⟨h1.ext x, h2.ext x, h3.trans x⟩) ?_ ?_
  · rintro w1 ⟨hx, ⟨v2, e2, hI⟩, b', eb, hB, _⟩ hk
    obtain rfl : v2 = .slice a1 nums.length c1 := by simpa [FV.val, eq_comm] using e2
    obtain rfl : b8 = b' := by simpa using eb
    have c0 := hB.av 0 rfl
    have c1 := hB.av 1 rfl
    have c2 := hB.av 2 rfl
    have c3 := hB.av 3 rfl
    have c4 := hB.av 4 rfl
    have f0 := hB.free
    unfold does
    unfold FV.val
    go_simp
    refine ⟨(store5_keep _ _ _ _ _ _ _ |>.mono fun b _ e => by subst e; exact Hb8.out) |> hk.trans, store5 hB, hI.keep (store5_keep _ _ _ _ _ _ _) (fun b hb' e => ?_), Keep.new hx (store5_keep _ _ _ _ _ _ _) (fun b e => by subst e; exact Hb8.out)⟩
    obtain ⟨c, hc⟩ := own_ty (show w1.ownsRow W0.heap.size 3 1 _ nums.length (icells nums) from hI) hb'
    exact hB.ty_ne hc (by decide) e.symm
  rintro _ ⟨_, _⟩
  simp only [List.getElem_toArray, List.getElem_cons_zero, List.getElem_cons_succ, Act.put, List.setIfInBounds_toArray, List.set_cons_zero, List.set_cons_succ]
  refine Flow.fin (by kernel_rfl) fun w1 hC hk => ?_
  obtain ⟨hB, hI, hx⟩ := hC
  clear g0 g1 g2 HC hk HW0
  have hx1 := xW0.trans hx
  have Hx1 := hid hx1
  have d0 := hB.av 0 rfl
  have d1 := hB.av 1 rfl
  have d2 := hB.av 2 rfl
  have d3 := hB.av 3 rfl
  have d4 := hB.av 4 rfl
  go_wp2_with fail
  refine (HK _ hx1 _ _ (hI.ints Hhi.out)).out.mono ?_
  intro e w2 hx2
  obtain ⟨rfl, hx2⟩ := hx2
  clear HK d0 d1 d2 d3 d4
  have hkn := Hkn.out
  have Hx := hid (hx1.trans hx2)
  have b6 := Hb6.out.ext (hx.trans hx2)
  have Hbb := hid b6
  have gz : ∀ w1, Keep (fun b => b = w.heap.size) w2 w1 → w1.cell? ⟨0, 0, none⟩ = some (ev 4) := fun w1 hk => hk.cellx (Hx.out.cellx Hg.out) (fun e => by have := cell_lt Hg.out; simp only at e this; omega)
  clear hB hI hx1 hx hx2 Hb6 b6
  go_wp2
  refine wp_flowT (fun b => b = w.heap.size) (by kernel_rfl) (by kernel_rfl) ?_
  repeat (apply FlowT.d; (intro w1 hk; unfold does; go_simp; (try go_ints); (first | exact DetR.mk | (simp only [↓IntWalk.iteOmega, Oper.doesUpon_value]; exact DetR.mk) | (simp only [↓IntWalk.iteOmega]; go_simp; (try go_ints); exact DetR.mk))); simp only [Act.put, List.setIfInBounds_toArray, List.set_cons_zero, List.set_cons_succ])
  refine FlowT.v undef (fun w' => Blk w' w.heap.size frz 48 ∧ Keep (fun b => b = w.heap.size) w2 w') 2 rfl (by kernel_rfl) (fun w1 w2 h x => ⟨h.1.ext x, h.2.ext_r x⟩) (fun wa hx hk => ?_) ?_
  · have hB := Hbb.out.ext hx
    have c0 := hB.av 0 rfl
    have c1 := hB.av 1 rfl
    have c2 := hB.av 2 rfl
    have c3 := hB.av 3 rfl
    have c4 := hB.av 4 rfl
    have f0 := hB.free
    unfold does
    go_simp
    exact ⟨hk.trans (store5_keep _ _ _ _ _ _ _), rfl, store5 hB, hk.trans (store5_keep _ _ _ _ _ _ _)⟩
  repeat (apply FlowT.d; (intro w1 hk; unfold does; go_simp; (try go_ints); (first | exact DetR.mk | (simp only [↓IntWalk.iteOmega, Oper.doesUpon_value]; exact DetR.mk) | (simp only [↓IntWalk.iteOmega]; go_simp; (try go_ints); exact DetR.mk))); simp only [Act.put, List.setIfInBounds_toArray, List.set_cons_zero, List.set_cons_succ])
  refine FlowT.fin fun wb hC hk => ?_
  obtain ⟨hB, hK⟩ := hC
  have c0 := hB.av 0 rfl
  have c1 := hB.av 1 rfl
  have c2 := hB.av 2 rfl
  have c3 := hB.av 3 rfl
  have c4 := hB.av 4 rfl
  have hE := hid (Keep.new Hx.out hK (fun n hn => Nat.le_of_eq hn.symm))
  clear hk hK hB
  go_wp2
  exact bodyPost_ret (v := .tuple #[fr0, ev 4]) (by simp [results, Tryd.results11, go_sem, c0, c1, c2, c3, c4]; rfl) rfl ⟨rfl, hE.out⟩

set_option maxRecDepth 100000 in
set_option maxHeartbeats 3200000 in
theorem send_full (s : Snd) (kind : UInt8) (nums : List Int) (a : Option Addr) (cap : Nat) (w : World) (n0 : Nat) (t : Option Nat) (p : Nat) (lv : Value) (ks : List (FV × Int)) (h : SndAt w n0 t p s lv ks) (hr : Ints w a nums.length nums) (hl : nums.length ≤ 1000)
    (ev : Nat → Value) (he : ErrsC w ev)
    (hc : (s.frame kind nums).code = 0) (hk : kind ≠ 97) (hf : 200 ≤ s.l.length) :
    Calls Tryd.prog 11 #[.pointer (some ⟨p, 0, none⟩), .int .u8 (kind.toNat : Int), .slice a nums.length cap] w fun e w' => e = .returned (.tuple #[fr0, ev 8]) ∧ Ext w w' := by
  have hE : errv ev 0 = .nilIface := rfl
  have Hg := hid he.full
  have hkn : ¬ (kind.toNat : Int) = 97 := fun e => hk (UInt8.toNat_inj.1 (by rw [show (97 : UInt8).toNat = 97 from rfl]; omega))
  have hf' : (200 : Int) ≤ (ks.length : Int) := by have := h.len; omega
  clear hk hf
  obtain ⟨W0, hW0⟩ : ∃ W0, W0 = w.alloc (.cells frz 48) := ⟨_, rfl⟩
  have xW0 : Ext w W0 := by rw [hW0]; exact (Ext.refl w).alloc _
  have hs0 : W0.heap.size = w.heap.size + 1 := by rw [hW0]; simp
  have b6 : Blk W0 w.heap.size frz 48 := by rw [hW0]; exact Blk.new _ _ _
  have hpl := h.hp.lt
  have hnp : ¬ W0.heap.size ≤ p := by omega
  have g0 := (h.hp.ext xW0).kc (X := fun b => W0.heap.size ≤ b) hnp 0 rfl
  have g1 := (h.hp.ext xW0).kc (X := fun b => W0.heap.size ≤ b) hnp 1 rfl
  have g2 := (h.hp.ext xW0).kc (X := fun b => W0.heap.size ≤ b) hnp 2 rfl
  simp only [List.getElem_toArray, List.getElem_cons_zero, List.getElem_cons_succ] at g0 g1 g2
  have HC := fun w1 (x : Ext w w1) => hid (copied_any (s.frame kind nums) a cap w1 (hr.ext x) hl)
  have HK := fun w1 (x : Ext w w1) a1 c1 (hi : Ints w1 a1 nums.length nums) => hid (fcheck_any (s.frame kind nums) a1 c1 w1 ev hi (by simp only [Snd.frame]; omega) (he.ext x))
  have Hhi : Hid (∀ i, nums.getD i 0 ≤ 9223372036854775807) := hid hr.hi
  unfold frz at hW0
  have HW0 := hid hW0
  have H := hid h
  have Hb6 := hid b6
  have Hs0 := hid hs0
  clear hW0 h hr b6 hs0
  simp only [Snd.frame, frv] at HC HK hc
  simp only [hc, hE] at HK
  clear hc hE
  go_enter Tryd.func11, Tryd.ntmps11
  go_wp2
  rw [← HW0.out]
  refine wp_flow (fun b => W0.heap.size ≤ b) (by kernel_rfl) (by kernel_rfl) ?_
  apply Flow.d 0 _ rfl (by simp) (by kernel_rfl)
  · intro w1 hk; unfold does; go_simp; (try go_ints); exact DetR.mk
  simp only [List.getElem_toArray, List.getElem_cons_zero, List.getElem_cons_succ, Act.put, List.setIfInBounds_toArray, List.set_cons_zero, List.set_cons_succ]
  apply Flow.d 1 _ rfl (by simp) (by kernel_rfl)
  · intro w1 hk; unfold does; go_simp; (try go_ints); exact DetR.mk
  simp only [List.getElem_toArray, List.getElem_cons_zero, List.getElem_cons_succ, Act.put, List.setIfInBounds_toArray, List.set_cons_zero, List.set_cons_succ]
  apply Flow.d 2 _ rfl (by simp) (by kernel_rfl)
  · intro w1 hk; unfold does; go_simp; (try go_ints); exact DetR.mk
  simp only [List.getElem_toArray, List.getElem_cons_zero, List.getElem_cons_succ, Act.put, List.setIfInBounds_toArray, List.set_cons_zero, List.set_cons_succ]
  apply Flow.d 3 _ rfl (by simp) (by kernel_rfl)
  · intro w1 hk; unfold does; go_simp; (try go_ints); exact DetR.mk
  simp only [List.getElem_toArray, List.getElem_cons_zero, List.getElem_cons_succ, Act.put, List.setIfInBounds_toArray, List.set_cons_zero, List.set_cons_succ]
  apply Flow.d 4 _ rfl (by simp) (by kernel_rfl)
  · intro w1 hk; unfold does; go_simp; (try go_ints); exact DetR.mk
  simp only [List.getElem_toArray, List.getElem_cons_zero, List.getElem_cons_succ, Act.put, List.setIfInBounds_toArray, List.set_cons_zero, List.set_cons_succ]
  apply Flow.d 5 _ rfl (by simp) (by kernel_rfl)
  · intro w1 hk; unfold does; go_simp; (try go_ints); exact DetR.mk
  simp only [List.getElem_toArray, List.getElem_cons_zero, List.getElem_cons_succ, Act.put, List.setIfInBounds_toArray, List.set_cons_zero, List.set_cons_succ]
  apply Flow.d 6 _ rfl (by simp) (by kernel_rfl)
  · intro w1 hk; unfold does; go_simp; (try go_ints); exact DetR.mk
  simp only [List.getElem_toArray, List.getElem_cons_zero, List.getElem_cons_succ, Act.put, List.setIfInBounds_toArray, List.set_cons_zero, List.set_cons_succ]
  apply Flow.d 7 _ rfl (by simp) (by kernel_rfl)
  · intro w1 hk; unfold does; go_simp; (try go_ints); exact DetR.mk
  simp only [List.getElem_toArray, List.getElem_cons_zero, List.getElem_cons_succ, Act.put, List.setIfInBounds_toArray, List.set_cons_zero, List.set_cons_succ]
  apply Flow.d 8 _ rfl (by simp) (by kernel_rfl)
  · intro w1 hk; unfold does; go_simp; (try go_ints); exact DetR.mk
  simp only [List.getElem_toArray, List.getElem_cons_zero, List.getElem_cons_succ, Act.put, List.setIfInBounds_toArray, List.set_cons_zero, List.set_cons_succ]
  apply Flow.d 9 _ rfl (by simp) (by kernel_rfl)
  · intro w1 hk; unfold does; go_simp; (try go_ints); exact DetR.mk
  simp only [List.getElem_toArray, List.getElem_cons_zero, List.getElem_cons_succ, Act.put, List.setIfInBounds_toArray, List.set_cons_zero, List.set_cons_succ]
  apply Flow.d 10 _ rfl (by simp) (by kernel_rfl)
  · intro w1 hk; unfold does; go_simp; (try go_ints); exact DetR.mk
  simp only [List.getElem_toArray, List.getElem_cons_zero, List.getElem_cons_succ, Act.put, List.setIfInBounds_toArray, List.set_cons_zero, List.set_cons_succ]
  apply Flow.d 11 _ rfl (by simp) (by kernel_rfl)
  · intro w1 hk; unfold does; go_simp; (try go_ints); exact DetR.mk
  simp only [List.getElem_toArray, List.getElem_cons_zero, List.getElem_cons_succ, Act.put, List.setIfInBounds_toArray, List.set_cons_zero, List.set_cons_succ]
  apply Flow.d 12 _ rfl (by simp) (by kernel_rfl)
  · intro w1 hk; unfold does; go_simp; (try go_ints); exact DetR.mk
  simp only [List.getElem_toArray, List.getElem_cons_zero, List.getElem_cons_succ, Act.put, List.setIfInBounds_toArray, List.set_cons_zero, List.set_cons_succ]
  apply Flow.d 13 _ rfl (by simp) (by kernel_rfl)
  · intro w1 hk; unfold does; go_simp; (try go_ints); exact DetR.mk
  simp only [List.getElem_toArray, List.getElem_cons_zero, List.getElem_cons_succ, Act.put, List.setIfInBounds_toArray, List.set_cons_zero, List.set_cons_succ]
  apply Flow.d 14 _ rfl (by simp) (by kernel_rfl)
  · intro w1 hk; unfold does; go_simp; (try go_ints); exact DetR.mk
  simp only [List.getElem_toArray, List.getElem_cons_zero, List.getElem_cons_succ, Act.put, List.setIfInBounds_toArray, List.set_cons_zero, List.set_cons_succ]
  refine Flow.par2 15 16 _ _ rfl rfl (by decide) (fun _ _ h => by cases h) (fun _ _ h => by cases h) (by kernel_rfl) (by kernel_rfl) (by kernel_rfl) (by kernel_rfl)
    (fun v w1 => ∃ v1, v = (FV.mk ⟨kind, s.fr, s.to, s.next, nums⟩ v1).val ∧ IRow W0.heap.size w1 v1 nums) (fun v w1 => ∃ b, v = .pointer (some ⟨b, 0, none⟩) ∧ Blk w1 b frz 48 ∧ W0.heap.size ≤ b) (fun _ _ h x => h.trans x) (fun _ _ _ ⟨v1, h1, h2⟩ x => ⟨v1, h1, h2.ext x⟩) (fun _ _ _ ⟨g, h1, h2, h3⟩ x => ⟨g, h1, h2.ext x, h3⟩) ?_ ?_ ?_
  · intro w1 hC hk
    unfold does
    go_simp
    refine CallR.gen ((HC w1 (xW0.trans hC)).out.mono ?_)
    rintro e w2 ⟨v, rfl, hx, hI⟩
    exact ⟨_, rfl, hx, v, rfl, hI.base hC.size⟩
  · intro w1 hC hk
    unfold does
    go_simp
    exact ⟨(Ext.refl _).alloc _, _, rfl, Blk.new _ _ _, hC.size⟩
  rintro _ _ ⟨_, v1, rfl, hI0⟩ ⟨_, b8, rfl, _, hb8⟩
  obtain ⟨a1, c1, rfl⟩ := hI0.form
  have Hb8 := hid hb8
  clear hI0 hb8
  simp only [List.getElem_toArray, List.getElem_cons_zero, List.getElem_cons_succ, Act.put, List.setIfInBounds_toArray, List.set_cons_zero, List.set_cons_succ]
  refine Flow.one 17 _ rfl (by kernel_rfl) (fun _ w1 => Blk w1 b8 #[.int .u8 (kind.toNat : Int), .int .i64 s.fr, .int .i64 s.to, .int .i64 s.next, .slice a1 nums.length c1] 48 ∧ IRow W0.heap.size w1 (.slice a1 nums.length c1) nums ∧ Ext W0 w1) (fun _ _ _ ⟨h1, h2, h3⟩ x => ⟨h1.ext x, h2.ext x, h3.trans x⟩) ?_ ?_
  · rintro w1 ⟨hx, ⟨v2, e2, hI⟩, b', eb, hB, _⟩ hk
    obtain rfl : v2 = .slice a1 nums.length c1 := by simpa [FV.val, eq_comm] using e2
    obtain rfl : b8 = b' := by simpa using eb
    have c0 := hB.av 0 rfl
    have c1 := hB.av 1 rfl
    have c2 := hB.av 2 rfl
    have c3 := hB.av 3 rfl
    have c4 := hB.av 4 rfl
    have f0 := hB.free
    unfold does
    unfold FV.val
    go_simp
    refine ⟨(store5_keep _ _ _ _ _ _ _ |>.mono fun b _ e => by subst e; exact Hb8.out) |> hk.trans, store5 hB, hI.keep (store5_keep _ _ _ _ _ _ _) (fun b hb' e => ?_), Keep.new hx (store5_keep _ _ _ _ _ _ _) (fun b e => by subst e; exact Hb8.out)⟩
    obtain ⟨c, hc⟩ := own_ty (show w1.ownsRow W0.heap.size 3 1 _ nums.length (icells nums) from hI) hb'
    exact hB.ty_ne hc (by decide) e.symm
  rintro _ ⟨_, _⟩
  simp only [List.getElem_toArray, List.getElem_cons_zero, List.getElem_cons_succ, Act.put, List.setIfInBounds_toArray, List.set_cons_zero, List.set_cons_succ]
  refine Flow.fin (by kernel_rfl) fun w1 hC hk => ?_
  obtain ⟨hB, hI, hx⟩ := hC
  clear g0 g1 g2 HC hk HW0
  have hx1 := xW0.trans hx
  have Hx1 := hid hx1
  have d0 := hB.av 0 rfl
  have d1 := hB.av 1 rfl
  have d2 := hB.av 2 rfl
  have d3 := hB.av 3 rfl
  have d4 := hB.av 4 rfl
  go_wp2_with fail
  refine (HK _ hx1 _ _ (hI.ints Hhi.out)).out.mono ?_
  intro e w2 hx2
  obtain ⟨rfl, hx2⟩ := hx2
  clear HK d0 d1 d2 d3 d4
  have q4 := (H.out.hp.ext (hx1.trans hx2)).av 4 rfl
  obtain ⟨a4, c4, hlv⟩ := row_form H.out.hl
  simp only [List.getElem_toArray, List.getElem_cons_zero, List.getElem_cons_succ, hlv] at q4
  clear hlv
  generalize ks.length = kn at *
  have Hx := hid (hx1.trans hx2)
  have b6 := Hb6.out.ext (hx.trans hx2)
  have Hbb := hid b6
  have gz : ∀ w1, Keep (fun b => b = w.heap.size) w2 w1 → w1.cell? ⟨1, 0, none⟩ = some (ev 8) := fun w1 hk => hk.cellx (Hx.out.cellx Hg.out) (fun e => by have := cell_lt Hg.out; simp only at e this; omega)
  clear hB hI hx1 hx hx2 Hb6 b6
  go_wp2
  refine wp_flowT (fun b => b = w.heap.size) (by kernel_rfl) (by kernel_rfl) ?_
  repeat (apply FlowT.d; (intro w1 hk; unfold does; go_simp; (try go_ints); (first | exact DetR.mk | (simp only [↓IntWalk.iteOmega, Oper.doesUpon_value]; exact DetR.mk) | (simp only [↓IntWalk.iteOmega]; go_simp; (try go_ints); exact DetR.mk))); simp only [Act.put, List.setIfInBounds_toArray, List.set_cons_zero, List.set_cons_succ])
  refine FlowT.v undef (fun w' => Blk w' w.heap.size frz 48 ∧ Keep (fun b => b = w.heap.size) w2 w') 2 rfl (by kernel_rfl) (fun w1 w2 h x => ⟨h.1.ext x, h.2.ext_r x⟩) (fun wa hx hk => ?_) ?_
  · have hB := Hbb.out.ext hx
    have c0 := hB.av 0 rfl
    have c1 := hB.av 1 rfl
    have c2 := hB.av 2 rfl
    have c3 := hB.av 3 rfl
    have c4 := hB.av 4 rfl
    have f0 := hB.free
    unfold does
    go_simp
    exact ⟨hk.trans (store5_keep _ _ _ _ _ _ _), rfl, store5 hB, hk.trans (store5_keep _ _ _ _ _ _ _)⟩
  repeat (apply FlowT.d; (intro w1 hk; unfold does; go_simp; (try go_ints); (first | exact DetR.mk | (simp only [↓IntWalk.iteOmega, Oper.doesUpon_value]; exact DetR.mk) | (simp only [↓IntWalk.iteOmega]; go_simp; (try go_ints); exact DetR.mk))); simp only [Act.put, List.setIfInBounds_toArray, List.set_cons_zero, List.set_cons_succ])
  refine FlowT.fin fun wb hC hk => ?_
  obtain ⟨hB, hK⟩ := hC
  have c0 := hB.av 0 rfl
  have c1 := hB.av 1 rfl
  have c2 := hB.av 2 rfl
  have c3 := hB.av 3 rfl
  have c4 := hB.av 4 rfl
  have hE := hid (Keep.new Hx.out hK (fun n hn => Nat.le_of_eq hn.symm))
  clear hk hK hB
  go_wp2
  exact bodyPost_ret (v := .tuple #[fr0, ev 8]) (by simp [results, Tryd.results11, go_sem, c0, c1, c2, c3, c4]; rfl) rfl ⟨rfl, hE.out⟩
end Go.Proofs.YtkabgmohgjljkaaDoor


/- Links: what is answered is struck. -/
namespace Go.Proofs.YtkabgmohgjljkaaDoor
set_option linter.unusedSimpArgs false
set_option linter.unusedVariables false
open Go Go.RowKit

def kval (x : FV × Int) : Value := .agg #[.int .u8 (x.1.f.kind.toNat : Int), .int .i64 x.1.f.fr, .int .i64 x.1.f.to, .int .i64 x.1.f.seq, x.1.v, .int .i64 x.2]
theorem set_shift (l : List Value) (a0 a1 a2 a3 a4 a5 v : Value) (i : Nat) : (a0 :: a1 :: a2 :: a3 :: a4 :: a5 :: l).set (i + 6) v = a0 :: a1 :: a2 :: a3 :: a4 :: a5 :: l.set i v := rfl
theorem kset6 : ∀ (R : List (FV × Int)) (i : Nat) (y : FV × Int), i < R.length → ((((((R.flatMap kcells).set (i * 6) (.int .u8 (y.1.f.kind.toNat : Int))).set (i * 6 + 1) (.int .i64 y.1.f.fr)).set (i * 6 + 2) (.int .i64 y.1.f.to)).set (i * 6 + 3) (.int .i64 y.1.f.seq)).set (i * 6 + 4) y.1.v).set (i * 6 + 5) (.int .i64 y.2) = (R.set i y).flatMap kcells
  | [], i, y, h => by simp at h
  | x :: l, 0, y, h => by simp [kcells, FV.cells]
  | x :: l, i + 1, y, h => by
    have ih := kset6 l i y (by simpa using h)
    rw [List.set_cons_succ, List.flatMap_cons, List.flatMap_cons, ← ih]
    rw [show (i + 1) * 6 = i * 6 + 6 by omega, show i * 6 + 6 + 1 = i * 6 + 1 + 6 by omega, show i * 6 + 6 + 2 = i * 6 + 2 + 6 by omega, show i * 6 + 6 + 3 = i * 6 + 3 + 6 by omega, show i * 6 + 6 + 4 = i * 6 + 4 + 6 by omega, show i * 6 + 6 + 5 = i * 6 + 5 + 6 by omega]
    simp only [kcells, FV.cells, List.cons_append, List.nil_append, set_shift]
theorem kset5 (R : List (FV × Int)) (i : Nat) (x : FV × Int) (n : Int) (hx : R[i]? = some x) : (R.flatMap kcells).set (i * 6 + 5) (.int .i64 n) = (R.set i (x.1, n)).flatMap kcells := by
  have hi : i < R.length := by
    rcases Nat.lt_or_ge i R.length with h | h
    · exact h
    · rw [List.getElem?_eq_none h] at hx; cases hx
  rw [← kset6 R i (x.1, n) hi]
  have g : ∀ j v, (kcells x)[j]? = some v → j < 6 → (R.flatMap kcells)[i * 6 + j]? = some v := fun j v hv hj => (fm_get kcells 6 kcells_len R i j x hx hj).trans hv
  have s : ∀ (L : List Value) (k : Nat) (v : Value), L[k]? = some v → L.set k v = L := fun L k v h => by
    apply List.ext_getElem?
    intro j
    rw [List.getElem?_set]
    by_cases hkj : k = j
    · subst hkj
      rw [h]
      have : k < L.length := by
        rcases Nat.lt_or_ge k L.length with h1 | h1
        · exact h1
        · rw [List.getElem?_eq_none h1] at h; cases h
      simp [this]
    · simp [hkj]
  have g0 : (R.flatMap kcells)[i * 6]? = some (.int .u8 (x.1.f.kind.toNat : Int)) := g 0 _ rfl (by omega)
  simp only
  rw [s _ _ _ g0, s _ _ _ (g 1 _ rfl (by omega)), s _ _ _ (g 2 _ rfl (by omega)), s _ _ _ (g 3 _ rfl (by omega)), s _ _ _ (g 4 _ rfl (by omega))]

def store6 (w : World) (g i : Nat) (y : FV × Int) : World := (((((w.setCell ⟨g, i, none⟩ (.int .u8 (y.1.f.kind.toNat : Int))).setCell ⟨g, i + 1, none⟩ (.int .i64 y.1.f.fr)).setCell ⟨g, i + 2, none⟩ (.int .i64 y.1.f.to)).setCell ⟨g, i + 3, none⟩ (.int .i64 y.1.f.seq)).setCell ⟨g, i + 4, none⟩ y.1.v).setCell ⟨g, i + 5, none⟩ (.int .i64 y.2)
theorem store6_keep (w : World) (g i : Nat) (y : FV × Int) : Keep (fun b => b = g) w (store6 w g i y) :=
  have k : ∀ (u : World) j v, Keep (fun b => b = g) w u → Keep (fun b => b = g) w (u.setCell ⟨g, j, none⟩ v) := fun _ _ v h => h.set rfl v
  k _ _ _ (k _ _ _ (k _ _ _ (k _ _ _ (k _ _ _ (k _ _ _ (Keep.refl _ w))))))
theorem own_put6 {w : World} {base g n cap : Nat} {e : TypeId} {R : List (FV × Int)} (h : w.ownsRow base e 6 (.slice (some ⟨g, 0, none⟩) n cap) n (R.flatMap kcells)) (i : Nat) (hi : i < R.length) (y : FV × Int) : (store6 w g (i * 6) y).ownsRow base e 6 (.slice (some ⟨g, 0, none⟩) n cap) n ((R.set i y).flatMap kcells) := by
  have hl : (R.flatMap kcells).length = R.length * 6 := fm_len kcells 6 kcells_len R
  rw [← kset6 R i y hi]
  unfold store6
  exact own_set (own_set (own_set (own_set (own_set (own_set h _ (by omega) _) _ (by simp only [List.length_set]; omega) _) _ (by simp only [List.length_set]; omega) _) _ (by simp only [List.length_set]; omega) _) _ (by simp only [List.length_set]; omega) _) _ (by simp only [List.length_set]; omega) _
theorem own_k {w : World} {base g n cap : Nat} {e : TypeId} {R : List (FV × Int)} (h : w.ownsRow base e 6 (.slice (some ⟨g, 0, none⟩) n cap) n (R.flatMap kcells)) {i : Nat} {x : FV × Int} (hx : R[i]? = some x) :
    w.cell? ⟨g, i * 6, none⟩ = some (.int .u8 (x.1.f.kind.toNat : Int)) ∧ w.cell? ⟨g, i * 6 + 1, none⟩ = some (.int .i64 x.1.f.fr) ∧ w.cell? ⟨g, i * 6 + 2, none⟩ = some (.int .i64 x.1.f.to) ∧ w.cell? ⟨g, i * 6 + 3, none⟩ = some (.int .i64 x.1.f.seq) ∧ w.cell? ⟨g, i * 6 + 4, none⟩ = some x.1.v ∧ w.cell? ⟨g, i * 6 + 5, none⟩ = some (.int .i64 x.2) := by
  have c : ∀ j v, (kcells x)[j]? = some v → j < 6 → w.cell? ⟨g, i * 6 + j, none⟩ = some v := fun j v hv hj => own_get h _ ((fm_get kcells 6 kcells_len R i j x hx hj).trans hv)
  exact ⟨c 0 _ rfl (by omega), c 1 _ rfl (by omega), c 2 _ rfl (by omega), c 3 _ rfl (by omega), c 4 _ rfl (by omega), c 5 _ rfl (by omega)⟩

set_option maxRecDepth 100000 in
set_option maxHeartbeats 800000 in
theorem lackedf_any (x : FV × Int) (n : Int) (g : Nat) (w : World) (hg : w.cell? ⟨g, 0, none⟩ = some (.int .i64 n)) (hx : ∃ a l c, x.1.v = .slice a l c) :
    Calls Tryd.prog 42 #[kval x, .pointer (some ⟨g, 0, none⟩)] w fun e w' => e = .returned (.bool (decide (x.1.f.seq < n))) ∧ Ext w w' := by
  obtain ⟨a, l, c, hv⟩ := hx
  have hlt := cell_lt hg
  unfold kval
  rw [hv]
  clear hv
  go_enter Tryd.func42, Tryd.ntmps42
  go_wp2
  go_ret
  exact ⟨rfl, (Ext.refl w).alloc _⟩

/-- What is not answered below n. -/
def keptB (n : Int) (x : FV × Int) : Bool := decide (n ≤ x.1.f.seq)
def ackFn (g : Nat) : Value := .func (.func 42) #[] #[.pointer (some ⟨g, 0, none⟩)]

set_option maxRecDepth 100000 in
set_option maxHeartbeats 1600000 in
theorem lindf_any (lv : Value) (ks : List (FV × Int)) (n : Int) (g : Nat) (w : World) (n0 : Nat) (t : Option Nat) (hl : w.ownsRow n0 97 6 lv ks.length (ks.flatMap kcells)) (hn : ∀ x ∈ ks, x.1.At w n0 t) (hg : w.cell? ⟨g, 0, none⟩ = some (.int .i64 n)) (hb : ks.length ≤ 1000) :
    Calls Tryd.prog 56 #[lv, ackFn g] w fun e w' => Ext w w' ∧ ((e = .returned (.int .i64 (-1)) ∧ ∀ x ∈ ks, keptB n x = true) ∨ ∃ (i : Nat) (x : FV × Int), e = .returned (.int .i64 (i : Int)) ∧ ks[i]? = some x ∧ keptB n x = false ∧ ∀ j y, j < i → ks[j]? = some y → keptB n y = true) := by
  obtain ⟨a, c, hlv⟩ := row_form hl
  have Hl := hid hl
  have Hn := hid hn
  have Hg := hid hg
  have Hlv := hid hlv
  unfold ackFn
  rw [hlv]
  clear hl hn hg hlv
  go_enter Tryd.func56, Tryd.ntmps56
  go_wp2
  go_loopw [8] (fun t8 wr => ∃ k : Nat, t8 = .int .i64 (k : Int) ∧ k ≤ ks.length ∧ (∀ j y, j < k → ks[j]? = some y → keptB n y = true) ∧ Ext w wr) (fun t8 _ => ks.length - (intOf t8).toNat)
  case atStart => exact ⟨0, rfl, Nat.zero_le _, fun j y h => by omega, Ext.refl _⟩
  case round =>
    obtain ⟨k, rfl, hk, hne, hx⟩ := hrel
    have Hne := hid hne
    clear hne
    by_cases hlt : k < ks.length
    · have hlr := row_keep Hl.out (hx.keep fun _ => False) (fun _ _ h => h)
      obtain ⟨gb, cp, he⟩ := own_some hlr (by omega)
      have he2 := Hlv.out.symm.trans he
      simp only [Value.slice.injEq, true_and] at he2
      obtain ⟨rfl, rfl⟩ := he2
      rw [he] at hlr
      have hxk : ks[k]? = some (ks[k]'hlt) := List.getElem?_eq_getElem hlt
      obtain ⟨x, hxd⟩ : ∃ x, x = ks[k]'hlt := ⟨_, rfl⟩
      rw [← hxd] at hxk
      have Hxk := hid hxk
      have hm : x ∈ ks := List.mem_of_getElem? hxk
      obtain ⟨c0, c1, c2, c3, c4, c5⟩ := own_k hlr hxk
      obtain ⟨av, cv, _, hv, _⟩ := (Hn.out x hm).form
      rw [hv] at c4
      have HF := fun w1 (x1 : Ext w w1) => hid (lackedf_any x n g w1 (x1.cellx Hg.out) ⟨_, _, _, hv⟩)
      unfold kval at HF
      rw [hv] at HF
      have HB : Hid (keptB n x = !decide (x.1.f.seq < n)) := hid (by unfold keptB; by_cases h : n ≤ x.1.f.seq <;> simp [h] <;> omega)
      clear hlr hxd hxk hm he hv
      cases hf : decide (x.1.f.seq < n) with
      | true =>
        have Hf := hid (show keptB n x = false by rw [HB.out, hf]; rfl)
        rw [hf] at HF
        clear hf HB
        go_wp2_with fail
        refine (HF _ hx).out.mono ?_
        intro e w1 hx1
        obtain ⟨rfl, hx1⟩ := hx1
        go_wp2
        go_ret
        exact ⟨hx.trans hx1, .inr ⟨k, x, rfl, Hxk.out, Hf.out, Hne.out⟩⟩
      | false =>
        have Hf := hid (show keptB n x = true by rw [HB.out, hf]; rfl)
        rw [hf] at HF
        clear hf HB
        go_wp2_with fail
        refine (HF _ hx).out.mono ?_
        intro e w1 hx1
        obtain ⟨rfl, hx1⟩ := hx1
        have hx2 := hx.trans hx1
        clear hx hx1 HF c0 c1 c2 c3 c4 c5
        go_wp2
        go_roundw
        case rel => exact ⟨k + 1, by go_num, by omega, fun j y hj hy => by
          by_cases hjk : j = k
          · subst hjk
            obtain rfl := Option.some.inj (Hxk.out.symm.trans hy)
            exact Hf.out
          · exact Hne.out j y (by omega) hy, hx2⟩
        case measure => simp [intOf]; omega
    · obtain rfl : k = ks.length := by omega
      go_wp2
      go_ret
      exact ⟨hx, .inl ⟨rfl, fun x hm => by
        obtain ⟨j, hj, e⟩ := List.mem_iff_getElem.1 hm
        exact Hne.out j x hj (by rw [List.getElem?_eq_getElem hj, e])⟩⟩
end Go.Proofs.YtkabgmohgjljkaaDoor
