
/- Links: a tick. -/
import Derived.Test.YtcfopaopcbjkeaaDoorL7
namespace Go.Proofs.YtcfopaopcbjkeaaDoor
set_option linter.unusedSimpArgs false
set_option linter.unusedVariables false
open Go Go.RowKit

theorem FV.At.ints {w : World} {n0 : Nat} {t : Option Nat} {x : FV} {a : Option Addr} {cap : Nat} (h : x.At w n0 t) (hv : x.v = .slice a x.f.nums.length cap) : Ints w a x.f.nums.length x.f.nums := by
  obtain ⟨a', c', e, hi, _⟩ := NumsAt.form h
  rw [hv] at e
  simp only [Value.slice.injEq, true_and] at e
  rw [e.1]
  exact hi
def stampK (s : Snd) (x : FV × Int) : FV × Int := if s.late (x.1.f, x.2) then (x.1, s.now + 1) else x
def lateK (s : Snd) (x : FV × Int) : Bool := s.late (x.1.f, x.2)
theorem Snd.tick_eq {s : Snd} {ks : List (FV × Int)} (h : s.l = ks.map fun x => (x.1.f, x.2)) : s.tick.l = (ks.map (stampK s)).map fun x => (x.1.f, x.2) := by
  simp only [Snd.tick, h, List.map_map]
  apply List.map_congr_left
  intro x _
  simp only [Function.comp, Snd.stamp, stampK]
  split <;> rfl
theorem Snd.again_eq {s : Snd} {ks : List (FV × Int)} (h : s.l = ks.map fun x => (x.1.f, x.2)) : s.again = (ks.filter (lateK s)).map fun x => x.1.f := by
  simp only [Snd.again, h, List.filter_map, List.map_map]
  rfl
/-- The row while it is gone through. -/
def midK (s : Snd) (ks : List (FV × Int)) (i : Nat) : List (FV × Int) := (ks.take i).map (stampK s) ++ ks.drop i
theorem midK_len (s : Snd) (ks : List (FV × Int)) (i : Nat) (hi : i ≤ ks.length) : (midK s ks i).length = ks.length := by simp [midK]; omega
theorem midK_get (s : Snd) (ks : List (FV × Int)) (i : Nat) (x : FV × Int) (hx : ks[i]? = some x) : (midK s ks i)[i]? = some x := by
  have hi : i < ks.length := by
    rcases Nat.lt_or_ge i ks.length with h | h
    · exact h
    · rw [List.getElem?_eq_none h] at hx; cases hx
  unfold midK
  rw [List.getElem?_append_right (by simp; omega), List.getElem?_drop]
  simp only [List.length_map, List.length_take, Nat.min_eq_left (Nat.le_of_lt hi), Nat.sub_self, Nat.add_zero]
  exact hx
theorem midK_no (s : Snd) (ks : List (FV × Int)) (i : Nat) (x : FV × Int) (hx : ks[i]? = some x) (h : lateK s x = false) : midK s ks (i + 1) = midK s ks i := by
  have hi : i < ks.length := by
    rcases Nat.lt_or_ge i ks.length with h | h
    · exact h
    · rw [List.getElem?_eq_none h] at hx; cases hx
  have hd : ks.drop i = x :: ks.drop (i + 1) := by
    rw [List.drop_eq_getElem_cons hi]
    rw [List.getElem?_eq_getElem hi] at hx
    rw [Option.some.inj hx]
  unfold midK
  rw [List.take_add_one, hx, hd]
  simp only [Option.toList, List.map_append, List.map_cons, List.map_nil, List.append_assoc, List.cons_append, List.nil_append]
  congr 2
  unfold stampK
  rw [if_neg]
  unfold lateK at h
  simp [h]
theorem midK_yes (s : Snd) (ks : List (FV × Int)) (i : Nat) (x : FV × Int) (hx : ks[i]? = some x) (h : lateK s x = true) : midK s ks (i + 1) = (midK s ks i).set i (x.1, s.now + 1) := by
  have hi : i < ks.length := by
    rcases Nat.lt_or_ge i ks.length with h | h
    · exact h
    · rw [List.getElem?_eq_none h] at hx; cases hx
  have hd : ks.drop i = x :: ks.drop (i + 1) := by
    rw [List.drop_eq_getElem_cons hi]
    rw [List.getElem?_eq_getElem hi] at hx
    rw [Option.some.inj hx]
  unfold midK
  rw [List.take_add_one, hx, hd, List.set_append_right _ _ (by simp; omega)]
  simp only [Option.toList, List.map_append, List.map_cons, List.map_nil, List.append_assoc, List.cons_append, List.nil_append, List.length_map, List.length_take, Nat.min_eq_left (Nat.le_of_lt hi), Nat.sub_self, List.set_cons_zero]
  congr 2
  unfold stampK
  rw [if_pos]
  unfold lateK at h
  exact h
theorem midK_mem {s : Snd} {ks : List (FV × Int)} {i : Nat} {y : FV × Int} (h : y ∈ midK s ks i) : ∃ x ∈ ks, y.1 = x.1 := by
  rcases List.mem_append.1 h with h | h
  · obtain ⟨x, hx, rfl⟩ := List.mem_map.1 h
    refine ⟨x, List.mem_of_mem_take hx, ?_⟩
    unfold stampK
    split <;> rfl
  · exact ⟨y, List.mem_of_mem_drop h, rfl⟩
theorem late_snoc (s : Snd) (ks : List (FV × Int)) (j : Nat) (x : FV × Int) (hx : ks[j]? = some x) : ((ks.take (j + 1)).filter (lateK s)).map (fun x => x.1.f) = ((ks.take j).filter (lateK s)).map (fun x => x.1.f) ++ if lateK s x = true then [x.1.f] else [] := by
  rw [List.take_add_one, hx, List.filter_append, List.map_append]
  simp only [Option.toList, List.filter_cons, List.filter_nil]
  split <;> rfl

set_option maxRecDepth 100000 in
set_option maxHeartbeats 3200000 in
theorem tick_any (s : Snd) (m : Nat) (ok : s.Ok m) (hm : m ≤ 1000000) (w : World) (n0 : Nat) (t : Option Nat) (p : Nat) (lv : Value) (ks : List (FV × Int)) (h : SndAt w n0 t p s lv ks) (hn0 : n0 ≤ w.heap.size) (ht : ∀ b, t = some b → b < w.heap.size) (hnl : ∀ x ∈ ks, x.1.f.nums.length ≤ 1000) :
    Calls Tryd.prog 12 #[.pointer (some ⟨p, 0, none⟩)] w fun e w' => ∃ ov outs ks', e = .returned ov ∧ SndAt w' n0 t p s.tick lv ks' ∧ FRow w' n0 t w.heap.size 34 ov outs ∧ outs.map FV.f = s.again ∧ Keep (fun b => b = p ∨ lv.ownBlock = some b) w w' := by
  have hnow := ok.now
  have hlen := ok.len
  have hat : ∀ x ∈ ks, 0 ≤ x.2 ∧ x.2 ≤ s.now := fun x hx => ok.at_ (x.1.f, x.2) (by rw [h.eq]; exact List.mem_map.2 ⟨x, hx, rfl⟩)
  have hkl : ks.length ≤ 200 := by have := h.len; omega
  have c3 := h.hp.av 3 rfl
  have c4 := h.hp.av 4 rfl
  have f0 := h.hp.free
  obtain ⟨al, cl, rfl⟩ := row_form h.hl
  have hpl := h.hp.lt
  have hk1 : Keep (fun b => b = p) w (w.setCell ⟨p, 3, none⟩ (.int .i64 (s.now + 1))) := Keep.set (X := fun b => b = p) (Keep.refl _ _) rfl _
  have hp1 := h.hp.set 3 (.int .i64 (s.now + 1))
  simp only [List.setIfInBounds_toArray, List.set_cons_zero, List.set_cons_succ] at hp1
  have hwr : Wr w n0 t fun b => b = p := Wr.blk h.hp (by decide) h.lo
  have hpn : ∀ b, (Value.slice al ks.length cl).ownBlock = some b → b ≠ p := fun b hb e => by
    obtain ⟨c, hc⟩ := own_ty h.hl hb
    exact h.hp.ty_ne hc (by decide) e.symm
  have hl1 := row_keep h.hl hk1 hpn
  have hn1 : ∀ x ∈ ks, x.1.At (w.setCell ⟨p, 3, none⟩ (.int .i64 (s.now + 1))) n0 t := fun x hx => NumsAt.keep (h.hn x hx) hk1 hwr
  have hsz : (w.setCell ⟨p, 3, none⟩ (.int .i64 (s.now + 1))).heap.size = w.heap.size := by simp [World.setCell]
  have Hk1 := hid hk1
  have Hp1 := hid hp1
  have Hl1 := hid hl1
  have Hn1 := hid hn1
  have Hsz := hid hsz
  have Hpn := hid hpn
  have Heq := hid h.eq
  have Hlo := hid h.lo
  have Hn0 := hid hn0
  have Ht := hid ht
  have Hat := hid hat
  have Hnl := hid hnl
  clear hk1 hp1 hwr hpn hl1 hn1 hsz h hn0 ht hat hnl ok
  go_enter Tryd.func12, Tryd.ntmps12
  go_wp2
  generalize w.setCell ⟨p, 3, none⟩ (.int .i64 (s.now + 1)) = W1 at *
  clear c3 c4 f0
  go_loopw [3, 18] (fun t3 t18 wr => ∃ (i : Nat) (outs : List FV), t18 = .int .i64 (i : Int) ∧ i ≤ ks.length ∧ wr.ownsRow n0 113 6 (.slice al ks.length cl) ks.length ((midK s ks i).flatMap kcells) ∧ FRow wr n0 t w.heap.size 34 t3 outs ∧ outs.map FV.f = ((ks.take i).filter (lateK s)).map (fun x => x.1.f) ∧ Keep (fun b => (Value.slice al ks.length cl).ownBlock = some b) W1 wr) (fun _ t18 _ => ks.length - (intOf t18).toNat)
  case atStart => exact ⟨0, [], rfl, Nat.zero_le _, by simpa [midK] using Hl1.out, FRow.nil _ _ _ _ _, rfl, Keep.refl _ _⟩
  case round =>
    obtain ⟨i, outs, rfl, hi, hrow, hF, hO, hk⟩ := hrel
    have HO := hid hO
    clear hO
    have hrowb := own_rebase (b2 := n0) hrow fun k hk => (World.ownsRow.lt hrow k hk).1
    have hpB := Hp1.out.keep hk fun e => Hpn.out _ e rfl
    by_cases hlt : i < ks.length
    · have hxk : ks[i]? = some (ks[i]'hlt) := List.getElem?_eq_getElem hlt
      obtain ⟨x, hxd⟩ : ∃ x, x = ks[i]'hlt := ⟨_, rfl⟩
      rw [← hxd] at hxk
      have hm := List.mem_of_getElem? hxk
      obtain ⟨gb, cp, he⟩ := own_some hrow (by omega)
      simp only [Value.slice.injEq, true_and] at he
      obtain ⟨rfl, rfl⟩ := he
      have hrx := midK_get s ks i x hxk
      obtain ⟨c0, c1, c2, c3, c4, c5⟩ := own_k hrow hrx
      have hAt : x.1.At wr n0 t := NumsAt.keep (Hn1.out x hm) hk (Wr.row Hl1.out (by decide))
      obtain ⟨av, cv, _, hv, hvi⟩ := hAt.form
      rw [hv] at c4
      have hB2 := Blk.new wr #[.int .u8 (x.1.f.kind.toNat : Int), .int .i64 x.1.f.fr, .int .i64 x.1.f.to, .int .i64 x.1.f.seq, .slice av x.1.f.nums.length cv, .int .i64 x.2] 113
      have hx2 := (Ext.refl wr).alloc (.cells #[.int .u8 (x.1.f.kind.toNat : Int), .int .i64 x.1.f.fr, .int .i64 x.1.f.to, .int .i64 x.1.f.seq, .slice av x.1.f.nums.length cv, .int .i64 x.2] 113)
      have hxa := Hat.out x hm
      have Hxl := hid (Hnl.out x hm)
      have HpB := hid hpB
      have Hrow := hid hrow
      have Hk := hid hk
      have HF := hid hF
      have HAt := hid hAt
      have Hv := hid hv
      have Hxk := hid hxk
      have Hrx := hid hrx
      have Hgb : Hid (gb < wr.heap.size) := hid (own_ne_lt hrow)
      obtain ⟨ao, co, rfl⟩ := hF.form
      clear hxd hm hrow hAt hv hvi hpB hk hF hxk hrx hrowb
      go_wp2
      have HB2 := hid hB2
      have Hx2 := hid hx2
      generalize wr.alloc (.cells #[.int .u8 (x.1.f.kind.toNat : Int), .int .i64 x.1.f.fr, .int .i64 x.1.f.to, .int .i64 x.1.f.seq, .slice av x.1.f.nums.length cv, .int .i64 x.2] 113) = W2 at *
      generalize hBN : wr.heap.size = BN at *
      have HBN := hid hBN
      clear c0 c1 c2 c3 c4 c5 hB2 hx2 hBN
      have g3 := (HpB.out.ext Hx2.out).kc (X := fun _ => False) (fun e => e) 3 rfl
      have g5 := HB2.out.kc (X := fun _ => False) (fun e => e) 5 rfl
      simp only [List.getElem_toArray, List.getElem_cons_zero, List.getElem_cons_succ] at g3 g5
      cases hl : lateK s x with
      | false =>
        have hne : (s.now + 1 - x.2 == 3) = false := by
          unfold lateK Snd.late at hl
          exact beq_eq_false_iff_ne.2 (of_decide_eq_false hl)
        have hne2 : (s.now + 1 - x.2 = 3) = False := by simpa using hne
        have Hl := hid hl
        clear hl
        refine wp_flowT (fun _ => False) (by kernel_rfl) (by kernel_rfl) ?_
        repeat (apply FlowT.d; (intro w1 hk; unfold does; go_simp; (try go_ints); (first | exact DetR.mk | (simp only [↓IntWalk.iteOmega, Oper.doesUpon_value]; exact DetR.mk) | (simp only [↓IntWalk.iteOmega]; go_simp; (try go_ints); exact DetR.mk))); simp only [Act.put, List.setIfInBounds_toArray, List.set_cons_zero, List.set_cons_succ])
        refine FlowT.fin fun w3 hx3 hk3 => ?_
        have Hx3 := hid (Hx2.out.trans hx3)
        clear hne hne2 g3 g5 hx3 hk3
        go_wp2
        go_roundw
        case rel => exact ⟨i + 1, outs, by go_num, by omega, by rw [midK_no s ks i x Hxk.out Hl.out]; exact row_keep Hrow.out (Hx3.out.keep fun _ => False) (fun _ _ h => h), HF.out.ext Hx3.out, by rw [late_snoc s ks i x Hxk.out, Hl.out, HO.out]; simp, Hk.out.ext_r Hx3.out⟩
        case measure => simp [intOf]; omega
      | true =>
        have hne : (s.now + 1 - x.2 == 3) = true := by
          unfold lateK Snd.late at hl
          exact beq_iff_eq.2 (of_decide_eq_true hl)
        have hne2 : s.now + 1 - x.2 = 3 := by simpa using hne
        have Hne2 := hid hne2
        have Hl := hid hl
        clear hl hne2
        refine wp_flowT (fun _ => False) (by kernel_rfl) (by kernel_rfl) ?_
        repeat (apply FlowT.d; (intro w1 hk; unfold does; go_simp; (try go_ints); (first | exact DetR.mk | (simp only [↓IntWalk.iteOmega, Oper.doesUpon_value]; exact DetR.mk) | (simp only [↓IntWalk.iteOmega]; go_simp; (try go_ints); exact DetR.mk))); simp only [Act.put, List.setIfInBounds_toArray, List.set_cons_zero, List.set_cons_succ])
        refine FlowT.fin fun w3 hx3 hk3 => ?_
        have hx3' := Hx2.out.trans hx3
        have hp3 := HpB.out.ext hx3'
        have hB3 := HB2.out.ext hx3
        have hr3 := row_keep Hrow.out (hx3'.keep fun _ => False) (fun _ _ h => h)
        have r3 := hp3.kc (X := fun _ => False) (fun e => e) 3 rfl
        have r4 := hp3.kc (X := fun _ => False) (fun e => e) 4 rfl
        simp only [List.getElem_toArray, List.getElem_cons_zero, List.getElem_cons_succ] at r3 r4
        have Hx3 := hid hx3'
        have HB3 := hid hB3
        have Hr3 := hid hr3
        clear hne g3 g5 hx3 hk3 hx3' hp3 hB3 hr3
        go_wp2
        refine wp_flowT (fun _ => False) (by kernel_rfl) (by kernel_rfl) ?_
        repeat (apply FlowT.d; (intro w1 hk; unfold does; go_simp; (try go_ints); (first | exact DetR.mk | (simp only [↓IntWalk.iteOmega, Oper.doesUpon_value]; exact DetR.mk) | (simp only [↓IntWalk.iteOmega]; go_simp; (try go_ints); exact DetR.mk))); simp only [Act.put, List.setIfInBounds_toArray, List.set_cons_zero, List.set_cons_succ])
        refine FlowT.last (fun _ w' => ∃ w1, Ext w3 w1 ∧ w' = w1.setCell ⟨gb, i * 6 + 5, none⟩ (.int .i64 (s.now + 1))) 11 rfl (by kernel_rfl) (by kernel_rfl) (fun w1 hC hk => ?_) (fun _ w4 hR => ?_)
        · have hr1 := row_keep Hr3.out (hC.keep fun _ => False) (fun _ _ h => h)
          have z1 := (own_k hr1 Hrx.out).2.2.2.2.2
          have f1 := own_free hr1
          unfold does
          go_simp
          exact ⟨w1, hC, rfl⟩
        obtain ⟨w1, hx1, rfl⟩ := hR
        simp only [Act.put]
        have hr1 := row_keep Hr3.out (hx1.keep fun _ => False) (fun _ _ h => h)
        have hr4 := own_set hr1 (i * 6 + 5) (by rw [fm_len kcells 6 kcells_len, midK_len s ks i hi]; omega) (.int .i64 (s.now + 1))
        rw [kset5 _ _ _ _ Hrx.out, ← midK_yes s ks i x Hxk.out Hl.out] at hr4
        have hks : Keep (fun b => b = gb) w1 (w1.setCell ⟨gb, i * 6 + 5, none⟩ (.int .i64 (s.now + 1))) := Keep.set (X := fun b => b = gb) (Keep.refl _ _) rfl _
        have hxw := Hx3.out.trans hx1
        have hB4 := (HB3.out.ext hx1).keep hks (by have := Hgb.out; have := HBN.out; omega)
        have hwr : Wr w1 n0 t fun b => b = gb := Wr.sub (Wr.row hr1 (by decide)) fun b e _ => by subst e; rfl
        have hF4 := (HF.out.ext hxw).keep hks hwr fun b hb e => by
          subst e
          obtain ⟨c, hc⟩ := own_ty (HF.out.ext hxw).row hb
          obtain ⟨c', hc'⟩ := own_ty hr1 (k := b) rfl
          exact hc.ty_ne hc' (by decide) rfl
        have hAt4 : x.1.At (w1.setCell ⟨gb, i * 6 + 5, none⟩ (.int .i64 (s.now + 1))) n0 t := NumsAt.keep (NumsAt.ext HAt.out hxw) hks hwr
        have hk4 := ((Hk.out.ext_r hxw).trans (hks.mono (Y := fun b => (Value.slice (some ⟨gb, 0, none⟩) ks.length cl).ownBlock = some b) fun b _ e => by rw [e]; rfl))
        have hs4 : Hid (w.heap.size ≤ (w1.setCell ⟨gb, i * 6 + 5, none⟩ (.int .i64 (s.now + 1))).heap.size) := hid (by have := hk4.size; have := Hsz.out; omega)
        have Hr4 := hid hr4
        have HF4 := hid hF4
        have HAt4 := hid hAt4
        have Hk4 := hid hk4
        clear hr1 hr4 hks hxw hwr hF4 hAt4 hk4 hx1 r3 r4
        generalize w1.setCell ⟨gb, i * 6 + 5, none⟩ (.int .i64 (s.now + 1)) = W4 at *
        have d0 := hB4.av 0 rfl
        have d1 := hB4.av 1 rfl
        have d2 := hB4.av 2 rfl
        have d3 := hB4.av 3 rfl
        have d4 := hB4.av 4 rfl
        clear hB4
        go_wp2_with fail
        refine (copied_any x.1.f av cv W4 (HAt4.out.ints Hv.out) Hxl.out).mono ?_
        intro e w5 hx
        obtain ⟨v5, rfl, hx5, hI5⟩ := hx
        obtain ⟨a5, c5, rfl⟩ := hI5.form
        have Hx5 := hid hx5
        have HI5 := hid hI5
        have hbs : w.heap.size ≤ (w5.alloc (.cells #[.int .u8 (x.1.f.kind.toNat : Int), .int .i64 x.1.f.fr, .int .i64 x.1.f.to, .int .i64 x.1.f.seq, .slice a5 x.1.f.nums.length c5] 34)).heap.size := by
          have := hs4.out
          have := hx5.size
          simp
          omega
        have Hbs := hid hbs
        have hol : outs.length ≤ 1000000 := by
          have h1 := congrArg List.length HO.out
          have h2 := List.length_filter_le (lateK s) (ks.take i)
          simp only [List.length_map] at h1
          rw [List.length_take] at h2
          omega
        have Hol := hid hol
        have hF5 := hid (HF4.out.ext (hx5.alloc (.cells #[.int .u8 (x.1.f.kind.toNat : Int), .int .i64 x.1.f.fr, .int .i64 x.1.f.to, .int .i64 x.1.f.seq, .slice a5 x.1.f.nums.length c5] 34)))
        clear d0 d1 d2 d3 d4 hx5 hI5 hbs hol
        simp only [FV.val]
        go_wp2_with (at_builtin; refine wpList_append_el w.heap.size Hbs.out 32 34 (.agg #[.int .u8 0, .int .i64 0, .int .i64 0, .int .i64 0, .slice none 0 0]) 5 56 Tryd.underlying32 frame_info rfl (by omega) (by omega) rfl _ _ rfl (.slice ao outs.length co) outs.length (outs.flatMap FV.cells) rfl hF5.out.row w5.heap.size (FV.cells ⟨x.1.f, .slice a5 x.1.f.nums.length c5⟩) rfl (by simp [FV.cells, Value.oneCell']) rfl (Blk.new _ _ _) Hol.out ?_; intro v6 w6 ho6 hk6 hl6; obtain ⟨a6, c6, rfl⟩ := row_form ho6)
        go_roundw
        case rel =>
          have hx6 := Hx5.out.alloc (.cells #[.int .u8 (x.1.f.kind.toNat : Int), .int .i64 x.1.f.fr, .int .i64 x.1.f.to, .int .i64 x.1.f.seq, .slice a5 x.1.f.nums.length c5] 34)
          have hwr6 : Wr (w5.alloc (.cells #[.int .u8 (x.1.f.kind.toNat : Int), .int .i64 x.1.f.fr, .int .i64 x.1.f.to, .int .i64 x.1.f.seq, .slice a5 x.1.f.nums.length c5] 34)) n0 t fun k => (Value.slice ao outs.length co).ownBlock = some k :=
            Wr.row (own_base hF5.out.row Hn0.out) (by decide)
          refine ⟨i + 1, outs ++ [⟨x.1.f, .slice a5 x.1.f.nums.length c5⟩], by go_num, by omega, ?_, ⟨?_, fun y hy => ?_⟩, ?_, ?_⟩
          · refine row_keep (row_keep Hr4.out (hx6.keep fun _ => False) (fun _ _ h => h)) hk6 fun b hb e => ?_
            obtain ⟨c, hc⟩ := own_ty hF5.out.row e
            obtain ⟨c', hc'⟩ := own_ty (row_keep Hr4.out (hx6.keep fun _ => False) (fun _ _ h => h)) hb
            exact hc.ty_ne hc' (by decide) rfl
          · simpa using ho6
          · rcases List.mem_append.1 hy with hy | hy
            · exact NumsAt.keep (hF5.out.nums y hy) hk6 hwr6
            · obtain rfl := List.mem_singleton.1 hy
              refine NumsAt.keep (NumsAt.ext (NumsAt.of_row HI5.out (NumsAt.hi HAt4.out) fun b hb e => ?_) ((Ext.refl w5).alloc _)) hk6 hwr6
              have h1 := (HI5.out.lt hb).1
              have h2 := Ht.out b e
              have h3 := hs4.out
              omega
          · rw [late_snoc s ks i x Hxk.out, Hl.out, List.map_append, HO.out]
            simp
          · refine Keep.tr (Hk4.out.ext_r hx6) hk6 fun b hb => .inl ?_
            have := (World.ownsRow.lt hF5.out.row b hb).1
            have := Hsz.out
            omega
        case measure => simp [intOf]; omega
    · obtain rfl : i = ks.length := by omega
      have hfin : SndAt wr n0 t p s.tick (.slice al ks.length cl) (ks.map (stampK s)) := by
        refine ⟨hpB, ?_, fun x hx => ?_, Snd.tick_eq Heq.out, Hlo.out⟩
        · have : midK s ks ks.length = ks.map (stampK s) := by simp [midK]
          rw [this] at hrow
          simpa using hrow
        · obtain ⟨y, hy, rfl⟩ := List.mem_map.1 hx
          have h1 := NumsAt.keep (Hn1.out y hy) hk (Wr.row Hl1.out (by decide))
          unfold stampK
          split <;> exact h1
      have Hfin := hid hfin
      have HF := hid hF
      have HO2 : Hid (outs.map FV.f = s.again) := hid (by rw [HO.out, List.take_length, Snd.again_eq Heq.out])
      have HK := hid ((Hk1.out.mono (Y := fun b => b = p ∨ (Value.slice al ks.length cl).ownBlock = some b) (fun b _ h => .inl h)).trans (hk.mono fun b _ h => .inr h))
      obtain ⟨ao, co, rfl⟩ := hF.form
      clear hfin hF hrow hrowb hpB hk hlt
      go_wp2
      go_ret
      exact ⟨_, outs, _, rfl, Hfin.out, HF.out, HO2.out, HK.out⟩
end Go.Proofs.YtcfopaopcbjkeaaDoor
