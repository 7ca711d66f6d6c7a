/- Texts of one proof, put together: L8 L9 LA. -/
import Derived.Test.YtkabgmohgjljkaaDoorMA06

/- Links: a tick. -/
namespace Go.Proofs.YtkabgmohgjljkaaDoor
set_option linter.unusedSimpArgs false
set_option linter.unusedVariables false
open Go Go.RowKit

theorem FV.At.ints {w : World} {n0 : Nat} {t : Option Nat} {x : FV} {a : Option Addr} {cap : Nat} (h : x.At w n0 t) (hv : x.v = .slice a x.f.nums.length cap) : Ints w a x.f.nums.length x.f.nums := by
  obtain ⟨a', c', e, hi, _⟩ := NumsAt.form h
  rw [hv] at e
  simp only [Value.slice.injEq, true_and] at e
  rw [e.1]
  exact hi
def stampK (s : Snd) (x : FV × Int) : FV × Int := if s.late (x.1.f, x.2) then (x.1, s.now + 1) else x
def lateK (s : Snd) (x : FV × Int) : Bool := s.late (x.1.f, x.2)
theorem Snd.tick_eq {s : Snd} {ks : List (FV × Int)} (h : s.l = ks.map fun x => (x.1.f, x.2)) : s.tick.l = (ks.map (stampK s)).map fun x => (x.1.f, x.2) := by
  simp only [Snd.tick, h, List.map_map]
  apply List.map_congr_left
  intro x _
  simp only [Function.comp, Snd.stamp, stampK]
  split <;> rfl
theorem Snd.again_eq {s : Snd} {ks : List (FV × Int)} (h : s.l = ks.map fun x => (x.1.f, x.2)) : s.again = (ks.filter (lateK s)).map fun x => x.1.f := by
  simp only [Snd.again, h, List.filter_map, List.map_map]
  rfl
/-- The row while it is gone through. -/
def midK (s : Snd) (ks : List (FV × Int)) (i : Nat) : List (FV × Int) := (ks.take i).map (stampK s) ++ ks.drop i
theorem midK_len (s : Snd) (ks : List (FV × Int)) (i : Nat) (hi : i ≤ ks.length) : (midK s ks i).length = ks.length := by simp [midK]; omega
theorem midK_get (s : Snd) (ks : List (FV × Int)) (i : Nat) (x : FV × Int) (hx : ks[i]? = some x) : (midK s ks i)[i]? = some x := by
  have hi : i < ks.length := by
    rcases Nat.lt_or_ge i ks.length with h | h
    · exact h
    · rw [List.getElem?_eq_none h] at hx; cases hx
  unfold midK
  rw [List.getElem?_append_right (by simp; omega), List.getElem?_drop]
  simp only [List.length_map, List.length_take, Nat.min_eq_left (Nat.le_of_lt hi), Nat.sub_self, Nat.add_zero]
  exact hx
theorem midK_no (s : Snd) (ks : List (FV × Int)) (i : Nat) (x : FV × Int) (hx : ks[i]? = some x) (h : lateK s x = false) : midK s ks (i + 1) = midK s ks i := by
  have hi : i < ks.length := by
    rcases Nat.lt_or_ge i ks.length with h | h
    · exact h
    · rw [List.getElem?_eq_none h] at hx; cases hx
  have hd : ks.drop i = x :: ks.drop (i + 1) := by
    rw [List.drop_eq_getElem_cons hi]
    rw [List.getElem?_eq_getElem hi] at hx
    rw [Option.some.inj hx]
  unfold midK
  rw [List.take_add_one, hx, hd]
  simp only [Option.toList, List.map_append, List.map_cons, List.map_nil, List.append_assoc, List.cons_append, List.nil_append]
  congr 2
  unfold stampK
  rw [if_neg]
  unfold lateK at h
  simp [h]
theorem midK_yes (s : Snd) (ks : List (FV × Int)) (i : Nat) (x : FV × Int) (hx : ks[i]? = some x) (h : lateK s x = true) : midK s ks (i + 1) = (midK s ks i).set i (x.1, s.now + 1) := by
  have hi : i < ks.length := by
    rcases Nat.lt_or_ge i ks.length with h | h
    · exact h
    · rw [List.getElem?_eq_none h] at hx; cases hx
  have hd : ks.drop i = x :: ks.drop (i + 1) := by
    rw [List.drop_eq_getElem_cons hi]
    rw [List.getElem?_eq_getElem hi] at hx
    rw [Option.some.inj hx]
  unfold midK
  rw [List.take_add_one, hx, hd, List.set_append_right _ _ (by simp; omega)]
  simp only [Option.toList, List.map_append, List.map_cons, List.map_nil, List.append_assoc, List.cons_append, List.nil_append, List.length_map, List.length_take, Nat.min_eq_left (Nat.le_of_lt hi), Nat.sub_self, List.set_cons_zero]
  congr 2
  unfold stampK
  rw [if_pos]
  unfold lateK at h
  exact h
theorem midK_mem {s : Snd} {ks : List (FV × Int)} {i : Nat} {y : FV × Int} (h : y ∈ midK s ks i) : ∃ x ∈ ks, y.1 = x.1 := by
  rcases List.mem_append.1 h with h | h
  · obtain ⟨x, hx, rfl⟩ := List.mem_map.1 h
    refine ⟨x, List.mem_of_mem_take hx, ?_⟩
    unfold stampK
    split <;> rfl
  · exact ⟨y, List.mem_of_mem_drop h, rfl⟩
theorem late_snoc (s : Snd) (ks : List (FV × Int)) (j : Nat) (x : FV × Int) (hx : ks[j]? = some x) : ((ks.take (j + 1)).filter (lateK s)).map (fun x => x.1.f) = ((ks.take j).filter (lateK s)).map (fun x => x.1.f) ++ if lateK s x = true then [x.1.f] else [] := by
  rw [List.take_add_one, hx, List.filter_append, List.map_append]
  simp only [Option.toList, List.filter_cons, List.filter_nil]
  split <;> rfl

set_option maxRecDepth 100000 in
set_option maxHeartbeats 3200000 in
theorem tick_any (s : Snd) (m : Nat) (ok : s.Ok m) (hm : m ≤ 1000000) (w : World) (n0 : Nat) (t : Option Nat) (p : Nat) (lv : Value) (ks : List (FV × Int)) (h : SndAt w n0 t p s lv ks) (hn0 : n0 ≤ w.heap.size) (ht : ∀ b, t = some b → b < w.heap.size) (hnl : ∀ x ∈ ks, x.1.f.nums.length ≤ 1000) :
    Calls Tryd.prog 18 #[.pointer (some ⟨p, 0, none⟩)] w fun e w' => ∃ ov outs ks', e = .returned ov ∧ SndAt w' n0 t p s.tick lv ks' ∧ FRow w' n0 t w.heap.size 48 ov outs ∧ outs.map FV.f = s.again ∧ Keep (fun b => b = p ∨ lv.ownBlock = some b) w w' := by
  have hnow := ok.now
  have hlen := ok.len
  have hat : ∀ x ∈ ks, 0 ≤ x.2 ∧ x.2 ≤ s.now := fun x hx => ok.at_ (x.1.f, x.2) (by rw [h.eq]; exact List.mem_map.2 ⟨x, hx, rfl⟩)
  have hkl : ks.length ≤ 200 := by have := h.len; omega
  have c3 := h.hp.av 3 rfl
  have c4 := h.hp.av 4 rfl
  have f0 := h.hp.free
  obtain ⟨al, cl, rfl⟩ := row_form h.hl
  have hpl := h.hp.lt
  have hk1 : Keep (fun b => b = p) w (w.setCell ⟨p, 3, none⟩ (.int .i64 (s.now + 1))) := Keep.set (X := fun b => b = p) (Keep.refl _ _) rfl _
  have hp1 := h.hp.set 3 (.int .i64 (s.now + 1))
  simp only [List.setIfInBounds_toArray, List.set_cons_zero, List.set_cons_succ] at hp1
  have hwr : Wr w n0 t fun b => b = p := Wr.blk h.hp (by decide) h.lo
  have hpn : ∀ b, (Value.slice al ks.length cl).ownBlock = some b → b ≠ p := fun b hb e => by
    obtain ⟨c, hc⟩ := own_ty h.hl hb
    exact h.hp.ty_ne hc (by decide) e.symm
  have hl1 := row_keep h.hl hk1 hpn
  have hn1 : ∀ x ∈ ks, x.1.At (w.setCell ⟨p, 3, none⟩ (.int .i64 (s.now + 1))) n0 t := fun x hx => NumsAt.keep (h.hn x hx) hk1 hwr
  have hsz : (w.setCell ⟨p, 3, none⟩ (.int .i64 (s.now + 1))).heap.size = w.heap.size := by simp [World.setCell]
  have Hk1 := hid hk1
  have Hp1 := hid hp1
  have Hl1 := hid hl1
  have Hn1 := hid hn1
  have Hsz := hid hsz
  have Hpn := hid hpn
  have Heq := hid h.eq
  have Hlo := hid h.lo
  have Hn0 := hid hn0
  have Ht := hid ht
  have Hat := hid hat
  have Hnl := hid hnl
  clear hk1 hp1 hwr hpn hl1 hn1 hsz h hn0 ht hat hnl ok
  go_enter Tryd.func18, Tryd.ntmps18
  go_wp2
  generalize w.setCell ⟨p, 3, none⟩ (.int .i64 (s.now + 1)) = W1 at *
  clear c3 c4 f0
  go_loopw [3, 18] (fun t3 t18 wr => ∃ (i : Nat) (outs : List FV), t18 = .int .i64 (i : Int) ∧ i ≤ ks.length ∧ wr.ownsRow n0 97 6 (.slice al ks.length cl) ks.length ((midK s ks i).flatMap kcells) ∧ FRow wr n0 t w.heap.size 48 t3 outs ∧ outs.map FV.f = ((ks.take i).filter (lateK s)).map (fun x => x.1.f) ∧ Keep (fun b => (Value.slice al ks.length cl).ownBlock = some b) W1 wr) (fun _ t18 _ => ks.length - (intOf t18).toNat)
  case atStart => exact ⟨0, [], rfl, Nat.zero_le _, by simpa [midK] using Hl1.out, FRow.nil _ _ _ _ _, rfl, Keep.refl _ _⟩
  case round =>
    obtain ⟨i, outs, rfl, hi, hrow, hF, hO, hk⟩ := hrel
    have HO := hid hO
    clear hO
    have hrowb := own_rebase (b2 := n0) hrow fun k hk => (World.ownsRow.lt hrow k hk).1
    have hpB := Hp1.out.keep hk fun e => Hpn.out _ e rfl
    by_cases hlt : i < ks.length
    · have hxk : ks[i]? = some (ks[i]'hlt) := List.getElem?_eq_getElem hlt
      obtain ⟨x, hxd⟩ : ∃ x, x = ks[i]'hlt := ⟨_, rfl⟩
      rw [← hxd] at hxk
      have hm := List.mem_of_getElem? hxk
      obtain ⟨gb, cp, he⟩ := own_some hrow (by omega)
      simp only [Value.slice.injEq, true_and] at he
      obtain ⟨rfl, rfl⟩ := he
      have hrx := midK_get s ks i x hxk
      obtain ⟨c0, c1, c2, c3, c4, c5⟩ := own_k hrow hrx
      have hAt : x.1.At wr n0 t := NumsAt.keep (Hn1.out x hm) hk (Wr.row Hl1.out (by decide))
      obtain ⟨av, cv, _, hv, hvi⟩ := hAt.form
      rw [hv] at c4
      have hB2 := Blk.new wr #[.int .u8 (x.1.f.kind.toNat : Int), .int .i64 x.1.f.fr, .int .i64 x.1.f.to, .int .i64 x.1.f.seq, .slice av x.1.f.nums.length cv, .int .i64 x.2] 97
      have hx2 := (Ext.refl wr).alloc (.cells #[.int .u8 (x.1.f.kind.toNat : Int), .int .i64 x.1.f.fr, .int .i64 x.1.f.to, .int .i64 x.1.f.seq, .slice av x.1.f.nums.length cv, .int .i64 x.2] 97)
      have hxa := Hat.out x hm
      have Hxl := hid (Hnl.out x hm)
      have HpB := hid hpB
      have Hrow := hid hrow
      have Hk := hid hk
      have HF := hid hF
      have HAt := hid hAt
      have Hv := hid hv
      have Hxk := hid hxk
      have Hrx := hid hrx
      have Hgb : Hid (gb < wr.heap.size) := hid (own_ne_lt hrow)
      obtain ⟨ao, co, rfl⟩ := hF.form
      clear hxd hm hrow hAt hv hvi hpB hk hF hxk hrx hrowb
      go_wp2
      have HB2 := hid hB2
      have Hx2 := hid hx2
      generalize wr.alloc (.cells #[.int .u8 (x.1.f.kind.toNat : Int), .int .i64 x.1.f.fr, .int .i64 x.1.f.to, .int .i64 x.1.f.seq, .slice av x.1.f.nums.length cv, .int .i64 x.2] 97) = W2 at *
      generalize hBN : wr.heap.size = BN at *
      have HBN := hid hBN
      clear c0 c1 c2 c3 c4 c5 hB2 hx2 hBN
      have g3 := (HpB.out.ext Hx2.out).kc (X := fun _ => False) (fun e => e) 3 rfl
      have g5 := HB2.out.kc (X := fun _ => False) (fun e => e) 5 rfl
      simp only [List.getElem_toArray, List.getElem_cons_zero, List.getElem_cons_succ] at g3 g5
      cases hl : lateK s x with
      | false =>
        have hne : (s.now + 1 - x.2 == 3) = false := by
          unfold lateK Snd.late at hl
          exact beq_eq_false_iff_ne.2 (of_decide_eq_false hl)
        have hne2 : (s.now + 1 - x.2 = 3) = False := by simpa using hne
        have Hl := hid hl
        clear hl
        refine wp_flowT (fun _ => False) (by kernel_rfl) (by kernel_rfl) ?_
        repeat (apply FlowT.d; (intro w1 hk; unfold does; go_simp; (try go_ints); (first | exact DetR.mk | (simp only [↓IntWalk.iteOmega, Oper.doesUpon_value]; exact DetR.mk) | (simp only [↓IntWalk.iteOmega]; go_simp; (try go_ints); exact DetR.mk))); simp only [Act.put, List.setIfInBounds_toArray, List.set_cons_zero, List.set_cons_succ])
        refine FlowT.fin fun w3 hx3 hk3 => ?_
        have Hx3 := hid (Hx2.out.trans hx3)
        clear hne hne2 g3 g5 hx3 hk3
        go_wp2
        go_roundw
        case rel => exact ⟨i + 1, outs, by go_num, by omega, by rw [midK_no s ks i x Hxk.out Hl.out]; exact row_keep Hrow.out (Hx3.out.keep fun _ => False) (fun _ _ h => h), HF.out.ext Hx3.out, by rw [late_snoc s ks i x Hxk.out, Hl.out, HO.out]; simp, Hk.out.ext_r Hx3.out⟩
        case measure => simp [intOf]; omega
      | true =>
        have hne : (s.now + 1 - x.2 == 3) = true := by
          unfold lateK Snd.late at hl
          exact beq_iff_eq.2 (of_decide_eq_true hl)
        have hne2 : s.now + 1 - x.2 = 3 := by simpa using hne
        have Hne2 := hid hne2
        have Hl := hid hl
        clear hl hne2
        refine wp_flowT (fun _ => False) (by kernel_rfl) (by kernel_rfl) ?_
        repeat (apply FlowT.d; (intro w1 hk; unfold does; go_simp; (try go_ints); (first | exact DetR.mk | (simp only [↓IntWalk.iteOmega, Oper.doesUpon_value]; exact DetR.mk) | (simp only [↓IntWalk.iteOmega]; go_simp; (try go_ints); exact DetR.mk))); simp only [Act.put, List.setIfInBounds_toArray, List.set_cons_zero, List.set_cons_succ])
        refine FlowT.fin fun w3 hx3 hk3 => ?_
        have hx3' := Hx2.out.trans hx3
        have hp3 := HpB.out.ext hx3'
        have hB3 := HB2.out.ext hx3
        have hr3 := row_keep Hrow.out (hx3'.keep fun _ => False) (fun _ _ h => h)
        have r3 := hp3.kc (X := fun _ => False) (fun e => e) 3 rfl
        have r4 := hp3.kc (X := fun _ => False) (fun e => e) 4 rfl
        simp only [List.getElem_toArray, List.getElem_cons_zero, List.getElem_cons_succ] at r3 r4
        have Hx3 := hid hx3'
        have HB3 := hid hB3
        have Hr3 := hid hr3
        clear hne g3 g5 hx3 hk3 hx3' hp3 hB3 hr3
        go_wp2
        refine wp_flowT (fun _ => False) (by kernel_rfl) (by kernel_rfl) ?_
        repeat (apply FlowT.d; (intro w1 hk; unfold does; go_simp; (try go_ints); (first | exact DetR.mk | (simp only [↓IntWalk.iteOmega, Oper.doesUpon_value]; exact DetR.mk) | (simp only [↓IntWalk.iteOmega]; go_simp; (try go_ints); exact DetR.mk))); simp only [Act.put, List.setIfInBounds_toArray, List.set_cons_zero, List.set_cons_succ])
        refine FlowT.last (fun _ w' => ∃ w1, Ext w3 w1 ∧ w' = w1.setCell ⟨gb, i * 6 + 5, none⟩ (.int .i64 (s.now + 1))) 11 rfl (by kernel_rfl) (by kernel_rfl) (fun w1 hC hk => ?_) (fun _ w4 hR => ?_)
        · have hr1 := row_keep Hr3.out (hC.keep fun _ => False) (fun _ _ h => h)
          have z1 := (own_k hr1 Hrx.out).2.2.2.2.2
          have f1 := own_free hr1
          unfold does
          go_simp
          exact ⟨w1, hC, rfl⟩
        obtain ⟨w1, hx1, rfl⟩ := hR
        simp only [Act.put]
        have hr1 := row_keep Hr3.out (hx1.keep fun _ => False) (fun _ _ h => h)
        have hr4 := own_set hr1 (i * 6 + 5) (by rw [fm_len kcells 6 kcells_len, midK_len s ks i hi]; omega) (.int .i64 (s.now + 1))
        rw [kset5 _ _ _ _ Hrx.out, ← midK_yes s ks i x Hxk.out Hl.out] at hr4
        have hks : Keep (fun b => b = gb) w1 (w1.setCell ⟨gb, i * 6 + 5, none⟩ (.int .i64 (s.now + 1))) := Keep.set (X := fun b => b = gb) (Keep.refl _ _) rfl _
        have hxw := Hx3.out.trans hx1
        have hB4 := (HB3.out.ext hx1).keep hks (by have := Hgb.out; have := HBN.out; omega)
        have hwr : Wr w1 n0 t fun b => b = gb := Wr.sub (Wr.row hr1 (by decide)) fun b e _ => by subst e; rfl
        have hF4 := (HF.out.ext hxw).keep hks hwr fun b hb e => by
          subst e
          obtain ⟨c, hc⟩ := own_ty (HF.out.ext hxw).row hb
          obtain ⟨c', hc'⟩ := own_ty hr1 (k := b) rfl
          exact hc.ty_ne hc' (by decide) rfl
        have hAt4 : x.1.At (w1.setCell ⟨gb, i * 6 + 5, none⟩ (.int .i64 (s.now + 1))) n0 t := NumsAt.keep (NumsAt.ext HAt.out hxw) hks hwr
        have hk4 := ((Hk.out.ext_r hxw).trans (hks.mono (Y := fun b => (Value.slice (some ⟨gb, 0, none⟩) ks.length cl).ownBlock = some b) fun b _ e => by rw [e]; rfl))
        have hs4 : Hid (w.heap.size ≤ (w1.setCell ⟨gb, i * 6 + 5, none⟩ (.int .i64 (s.now + 1))).heap.size) := hid (by have := hk4.size; have := Hsz.out; omega)
        have Hr4 := hid hr4
        have HF4 := hid hF4
        have HAt4 := hid hAt4
        have Hk4 := hid hk4
        clear hr1 hr4 hks hxw hwr hF4 hAt4 hk4 hx1 r3 r4
        generalize w1.setCell ⟨gb, i * 6 + 5, none⟩ (.int .i64 (s.now + 1)) = W4 at *
        have d0 := hB4.av 0 rfl
        have d1 := hB4.av 1 rfl
        have d2 := hB4.av 2 rfl
        have d3 := hB4.av 3 rfl
        have d4 := hB4.av 4 rfl
        clear hB4
        go_wp2_with fail
        refine (copied_any x.1.f av cv W4 (HAt4.out.ints Hv.out) Hxl.out).mono ?_
        intro e w5 hx
        obtain ⟨v5, rfl, hx5, hI5⟩ := hx
        obtain ⟨a5, c5, rfl⟩ := hI5.form
        have Hx5 := hid hx5
        have HI5 := hid hI5
        have hbs : w.heap.size ≤ (w5.alloc (.cells #[.int .u8 (x.1.f.kind.toNat : Int), .int .i64 x.1.f.fr, .int .i64 x.1.f.to, .int .i64 x.1.f.seq, .slice a5 x.1.f.nums.length c5] 48)).heap.size := by
          have := hs4.out
          have := hx5.size
          simp
          omega
        have Hbs := hid hbs
        have hol : outs.length ≤ 1000000 := by
          have h1 := congrArg List.length HO.out
          have h2 := List.length_filter_le (lateK s) (ks.take i)
          simp only [List.length_map] at h1
          rw [List.length_take] at h2
          omega
        have Hol := hid hol
        have hF5 := hid (HF4.out.ext (hx5.alloc (.cells #[.int .u8 (x.1.f.kind.toNat : Int), .int .i64 x.1.f.fr, .int .i64 x.1.f.to, .int .i64 x.1.f.seq, .slice a5 x.1.f.nums.length c5] 48)))
        clear d0 d1 d2 d3 d4 hx5 hI5 hbs hol
        simp only [FV.val]
        go_wp2_with (at_builtin; refine wpList_append_el w.heap.size Hbs.out 58 48 (.agg #[.int .u8 0, .int .i64 0, .int .i64 0, .int .i64 0, .slice none 0 0]) 5 56 Tryd.underlying58 frame_info rfl (by omega) (by omega) rfl _ _ rfl (.slice ao outs.length co) outs.length (outs.flatMap FV.cells) rfl hF5.out.row w5.heap.size (FV.cells ⟨x.1.f, .slice a5 x.1.f.nums.length c5⟩) rfl (by simp [FV.cells, Value.oneCell']) rfl (Blk.new _ _ _) Hol.out ?_; intro v6 w6 ho6 hk6 hl6; obtain ⟨a6, c6, rfl⟩ := row_form ho6)
        go_roundw
        case rel =>
          have hx6 := Hx5.out.alloc (.cells #[.int .u8 (x.1.f.kind.toNat : Int), .int .i64 x.1.f.fr, .int .i64 x.1.f.to, .int .i64 x.1.f.seq, .slice a5 x.1.f.nums.length c5] 48)
          have hwr6 : Wr (w5.alloc (.cells #[.int .u8 (x.1.f.kind.toNat : Int), .int .i64 x.1.f.fr, .int .i64 x.1.f.to, .int .i64 x.1.f.seq, .slice a5 x.1.f.nums.length c5] 48)) n0 t fun k => (Value.slice ao outs.length co).ownBlock = some k :=
            Wr.row (own_base hF5.out.row Hn0.out) (by decide)
          refine ⟨i + 1, outs ++ [⟨x.1.f, .slice a5 x.1.f.nums.length c5⟩], by go_num, by omega, ?_, ⟨?_, fun y hy => ?_⟩, ?_, ?_⟩
          · refine row_keep (row_keep Hr4.out (hx6.keep fun _ => False) (fun _ _ h => h)) hk6 fun b hb e => ?_
            obtain ⟨c, hc⟩ := own_ty hF5.out.row e
            obtain ⟨c', hc'⟩ := own_ty (row_keep Hr4.out (hx6.keep fun _ => False) (fun _ _ h => h)) hb
            exact hc.ty_ne hc' (by decide) rfl
          · simpa using ho6
          · rcases List.mem_append.1 hy with hy | hy
            · exact NumsAt.keep (hF5.out.nums y hy) hk6 hwr6
            · obtain rfl := List.mem_singleton.1 hy
              refine NumsAt.keep (NumsAt.ext (NumsAt.of_row HI5.out (NumsAt.hi HAt4.out) fun b hb e => ?_) ((Ext.refl w5).alloc _)) hk6 hwr6
              have h1 := (HI5.out.lt hb).1
              have h2 := Ht.out b e
              have h3 := hs4.out
              omega
          · rw [late_snoc s ks i x Hxk.out, Hl.out, List.map_append, HO.out]
            simp
          · refine Keep.tr (Hk4.out.ext_r hx6) hk6 fun b hb => .inl ?_
            have := (World.ownsRow.lt hF5.out.row b hb).1
            have := Hsz.out
            omega
        case measure => simp [intOf]; omega
    · obtain rfl : i = ks.length := by omega
      have hfin : SndAt wr n0 t p s.tick (.slice al ks.length cl) (ks.map (stampK s)) := by
        refine ⟨hpB, ?_, fun x hx => ?_, Snd.tick_eq Heq.out, Hlo.out⟩
        · have : midK s ks ks.length = ks.map (stampK s) := by simp [midK]
          rw [this] at hrow
          simpa using hrow
        · obtain ⟨y, hy, rfl⟩ := List.mem_map.1 hx
          have h1 := NumsAt.keep (Hn1.out y hy) hk (Wr.row Hl1.out (by decide))
          unfold stampK
          split <;> exact h1
      have Hfin := hid hfin
      have HF := hid hF
      have HO2 : Hid (outs.map FV.f = s.again) := hid (by rw [HO.out, List.take_length, Snd.again_eq Heq.out])
      have HK := hid ((Hk1.out.mono (Y := fun b => b = p ∨ (Value.slice al ks.length cl).ownBlock = some b) (fun b _ h => .inl h)).trans (hk.mono fun b _ h => .inr h))
      obtain ⟨ao, co, rfl⟩ := hF.form
      clear hfin hF hrow hrowb hpB hk hlt
      go_wp2
      go_ret
      exact ⟨_, outs, _, rfl, Hfin.out, HF.out, HO2.out, HK.out⟩
end Go.Proofs.YtkabgmohgjljkaaDoor


/- Links: a frame is taken: refused, or old. -/
namespace Go.Proofs.YtkabgmohgjljkaaDoor
set_option linter.unusedSimpArgs false
set_option linter.unusedVariables false
open Go Go.RowKit

/-- The map's find is the plain one. -/
theorem mfind_find (k : Int) : ∀ (ms : List FV) (i : Nat), mfind (ms.map fun x => (x.f.seq, x.val)) k i = match Rcv.find (ms.map FV.f) k with
    | none => none
    | some j => (ms[j]?).map fun x => (i + j, x.val)
  | [], i => rfl
  | x :: l, i => by
    have ih := mfind_find k l (i + 1)
    simp only [List.map_cons]
    unfold mfind
    simp only [Rcv.find, List.findIdx?_cons] at ih ⊢
    by_cases h : x.f.seq = k
    · simp [h]
    · rw [if_neg (by simp; exact fun e => h e.symm)]
      simp only [h, decide_false, Bool.false_eq_true, if_false]
      rw [ih]
      cases List.findIdx? (fun f => decide (f.seq = k)) (l.map FV.f) with
      | none => rfl
      | some j =>
        simp only [Option.map_some, List.getElem?_cons_succ]
        rw [show i + 1 + j = i + (j + 1) by omega]
theorem mval_none {ms : List FV} {k : Int} (h : Rcv.find (ms.map FV.f) k = none) : mval (ms.map fun x => (x.f.seq, x.val)) k = none := by
  unfold mval
  rw [mfind_find, h]
  rfl
theorem mval_some {ms : List FV} {k : Int} {j : Nat} (h : Rcv.find (ms.map FV.f) k = some j) : ∃ x, ms[j]? = some x ∧ x.f.seq = k ∧ mfind (ms.map fun x => (x.f.seq, x.val)) k 0 = some (j, x.val) ∧ mval (ms.map fun x => (x.f.seq, x.val)) k = some x.val := by
  obtain ⟨f, hf, hs⟩ := Rcv.find_get h
  rw [List.getElem?_map] at hf
  cases hx : ms[j]? with
  | none => rw [hx] at hf; cases hf
  | some x =>
    rw [hx] at hf
    obtain rfl := Option.some.inj hf
    have h1 : mfind (ms.map fun x => (x.f.seq, x.val)) k 0 = some (j, x.val) := by rw [mfind_find, h]; simp [hx]
    exact ⟨x, rfl, hs, h1, by unfold mval; rw [h1]; rfl⟩
theorem frame_zero (w : World) : (zeroValue 48).run Tryd.prog w = .ok fr0 w := by kernel_rfl
section
variable {P : Program} {ops : Array Oper} {w : World} {o : Oper} {a : Act} {R : Value → World → Prop}
theorem does_map_new (hg : o.guard = none) (mo x vo : Operand) (t kt et : TypeId) (hop : o.op = Op.mapUpdate t mo x vo) (ht : P.underlying t = some (.map kt et)) (hk : P.underlying kt = some (.int .i64)) (b : Nat) (m : List (Int × Value)) (h : MapAt w b m)
    (hm : a.eval mo = .map (some b)) (k : Int) (hx : a.eval x = .int .i64 k) (v : Value) (hv : a.eval vo = v) (hn : mval m k = none)
    (hK : ∀ w', MapAt w' b (m ++ [(k, v)]) → Keep (fun k => k = b) w w' → R undef w') : does P ops o a w R := by
  obtain ⟨w', hrun, r1, r2⟩ := run_map_new ht hk h k v hn
  unfold does
  rw [if_pos (by simp [Region.wanted, hg])]
  simp [execOp, hop, hm, hx, hv, hrun, Result.andThen]
  exact hK w' r1 r2
theorem does_map_del (hg : o.guard = none) (mo x : Operand) (t kt et : TypeId) (hop : o.op = Op.call { callee := Callee.builtin Builtin.delete, args := #[mo, x], argTypes := #[t, kt] }) (ht : P.underlying t = some (.map kt et)) (hk : P.underlying kt = some (.int .i64)) (b : Nat) (m : List (Int × Value)) (h : MapAt w b m)
    (hm : a.eval mo = .map (some b)) (k : Int) (hx : a.eval x = .int .i64 k) (j : Nat) (v : Value) (hj : mfind m k 0 = some (j, v))
    (hK : ∀ w', MapAt w' b (m.eraseIdx j) → Keep (fun k => k = b) w w' → R (.tuple #[]) w') : does P ops o a w R := by
  obtain ⟨w', hrun, r1, r2⟩ := run_map_del ht hk h k j v hj o.type
  unfold does
  rw [if_pos (by simp [Region.wanted, hg])]
  simp [execOp, hop, resolve, invoke, builtin, hm, hx, hrun, Result.andThen]
  exact hK w' r1 r2
end

set_option maxRecDepth 100000 in
set_option maxHeartbeats 3200000 in
theorem take_code (r : Rcv) (f : Fr) (a : Option Addr) (cap : Nat) (w : World) (n0 : Nat) (t : Option Nat) (q b : Nat) (ms : List FV) (h : RcvAt w n0 t q b r ms) (hr : Ints w a f.nums.length f.nums) (hl : f.nums.length ≤ 1000)
    (ev : Nat → Value) (he : ErrsC w ev)
    (c : Nat) (hc : f.code = c) (h0 : c ≠ 0) (hev : ∃ t v, ev c = .iface t v) :
    Calls Tryd.prog 22 #[.pointer (some ⟨q, 0, none⟩), frv f a cap] w fun e w' => e = .returned (.tuple #[.slice none 0 0, ev c]) ∧ Ext w w' := by
  obtain ⟨ti, vi, hev⟩ := hev
  have hE : errv ev c = .iface ti vi := by unfold errv; rw [if_neg h0, hev]
  rw [hev]
  clear hev h0
  have HK := hid (fcheck_any f a cap _ ev (hr.ext ((Ext.refl w).alloc (.cells #[.int .u8 (f.kind.toNat : Int), .int .i64 f.fr, .int .i64 f.to, .int .i64 f.seq, .slice a f.nums.length cap] 48))) (by omega) (he.ext ((Ext.refl w).alloc _)))
  have hB := Blk.new w #[.int .u8 (f.kind.toNat : Int), .int .i64 f.fr, .int .i64 f.to, .int .i64 f.seq, .slice a f.nums.length cap] 48
  have hx0 := (Ext.refl w).alloc (.cells #[.int .u8 (f.kind.toNat : Int), .int .i64 f.fr, .int .i64 f.to, .int .i64 f.seq, .slice a f.nums.length cap] 48)
  simp only [hc, hE] at HK
  unfold frv at HK ⊢
  have Hr := hid hr
  have H := hid h
  have HB := hid hB
  have Hx0 := hid hx0
  clear hc hE hr h hB hx0
  go_enter Tryd.func22, Tryd.ntmps22
  go_wp2_with fail
  refine HK.out.mono ?_
  intro e w1 hx
  obtain ⟨rfl, hx1⟩ := hx
  have Hx1 := hid (Hx0.out.trans hx1)
  have HB1 := hid (HB.out.ext hx1)
  clear HK hx1 HB Hx0
  go_wp2
  go_ret2
  exact ⟨rfl, Hx1.out⟩

set_option maxRecDepth 100000 in
set_option maxHeartbeats 3200000 in
theorem take_shape (r : Rcv) (f : Fr) (a : Option Addr) (cap : Nat) (w : World) (n0 : Nat) (t : Option Nat) (q b : Nat) (ms : List FV) (h : RcvAt w n0 t q b r ms) (hr : Ints w a f.nums.length f.nums) (hl : f.nums.length ≤ 1000)
    (ev : Nat → Value) (he : ErrsC w ev)
    (hc : f.code = 0) (hs : f.fr ≠ r.fr ∨ f.to ≠ r.to ∨ f.kind = 97) :
    Calls Tryd.prog 22 #[.pointer (some ⟨q, 0, none⟩), frv f a cap] w fun e w' => e = .returned (.tuple #[.slice none 0 0, ev 3]) ∧ Ext w w' := by
  have hE : errv ev 0 = .nilIface := rfl
  have Hg := hid he.shape
  by_cases s1 : f.fr = r.fr
  · by_cases s2 : f.to = r.to
    · have s3 : (f.kind.toNat : Int) = 97 := by rw [(hs.resolve_left (fun e => e s1)).resolve_left (fun e => e s2)]; rfl
      have S1 := hid s1
      have S2 := hid s2
      have S3 := hid s3
      clear s1 s2 s3 hs
      have HK := hid (fcheck_any f a cap _ ev (hr.ext ((Ext.refl w).alloc (.cells #[.int .u8 (f.kind.toNat : Int), .int .i64 f.fr, .int .i64 f.to, .int .i64 f.seq, .slice a f.nums.length cap] 48))) (by omega) (he.ext ((Ext.refl w).alloc _)))
      have hB := Blk.new w #[.int .u8 (f.kind.toNat : Int), .int .i64 f.fr, .int .i64 f.to, .int .i64 f.seq, .slice a f.nums.length cap] 48
      have hx0 := (Ext.refl w).alloc (.cells #[.int .u8 (f.kind.toNat : Int), .int .i64 f.fr, .int .i64 f.to, .int .i64 f.seq, .slice a f.nums.length cap] 48)
      simp only [hc, hE] at HK
      unfold frv at HK ⊢
      have Hr := hid hr
      have H := hid h
      have HB := hid hB
      have Hx0 := hid hx0
      clear hc hE hr h hB hx0
      go_enter Tryd.func22, Tryd.ntmps22
      go_wp2_with fail
      refine HK.out.mono ?_
      intro e w1 hx
      obtain ⟨rfl, hx1⟩ := hx
      have Hx1 := hid (Hx0.out.trans hx1)
      have HB1 := hid (HB.out.ext hx1)
      clear HK hx1 HB Hx0
      have s1 : (f.fr != r.fr) = false := by simp [S1.out]
      have s2 : (f.to != r.to) = false := by simp [S2.out]
      have s3 : ((f.kind.toNat : Int) == 97) = true := by rw [S3.out]; rfl
      have h1 := H.out.ext Hx1.out
      generalize hN : w.heap.size = N at *
      have HN := hid hN
      clear hN
      go_wp2
      have d0 := HB1.out.kc (X := fun _ => False) (fun e => e) 0 rfl
      have d1 := HB1.out.kc (X := fun _ => False) (fun e => e) 1 rfl
      have d2 := HB1.out.kc (X := fun _ => False) (fun e => e) 2 rfl
      have g0 := h1.hp.kc (X := fun _ => False) (fun e => e) 0 rfl
      have g1 := h1.hp.kc (X := fun _ => False) (fun e => e) 1 rfl
      simp only [List.getElem_toArray, List.getElem_cons_zero, List.getElem_cons_succ] at d0 d1 d2 g0 g1
      refine wp_flowT (fun _ => False) (by kernel_rfl) (by kernel_rfl) ?_
      repeat (apply FlowT.d; (intro w1 hk; unfold does; go_simp; (try go_ints); (first | exact DetR.mk | (simp only [↓IntWalk.iteOmega, Oper.doesUpon_value]; exact DetR.mk) | (simp only [↓IntWalk.iteOmega]; go_simp; (try go_ints); exact DetR.mk))); simp only [Act.put, List.setIfInBounds_toArray, List.set_cons_zero, List.set_cons_succ])
      refine FlowT.fin fun w2 hx2 hk2 => ?_
      have Hx2 := hid (Hx1.out.trans hx2)
      have HB2 := hid (HB1.out.ext hx2)
      clear d0 d1 d2 g0 g1 hx2 hk2 HB1 Hx1 h1
      clear s1 s2 s3
      have gz : ∀ wa, Keep (fun _ => False) w2 wa → wa.cell? ⟨2, 0, none⟩ = some (ev 3) := fun wa hk => hk.cellx (Hx2.out.cellx Hg.out) (fun e => e)
      go_wp2
      refine wp_flowT (fun _ => False) (by kernel_rfl) (by kernel_rfl) ?_
      repeat (apply FlowT.d; (intro w1 hk; unfold does; go_simp; (try go_ints); (first | exact DetR.mk | (simp only [↓IntWalk.iteOmega, Oper.doesUpon_value]; exact DetR.mk) | (simp only [↓IntWalk.iteOmega]; go_simp; (try go_ints); exact DetR.mk))); simp only [Act.put, List.setIfInBounds_toArray, List.set_cons_zero, List.set_cons_succ])
      refine FlowT.fin fun w3 hx3 hk3 => ?_
      have Hx3 := hid (Hx2.out.trans hx3)
      clear gz hx3 hk3
      go_wp2
      go_ret2
      exact ⟨rfl, Hx3.out⟩
    · have S1 := hid s1
      clear s1 hs
      have HK := hid (fcheck_any f a cap _ ev (hr.ext ((Ext.refl w).alloc (.cells #[.int .u8 (f.kind.toNat : Int), .int .i64 f.fr, .int .i64 f.to, .int .i64 f.seq, .slice a f.nums.length cap] 48))) (by omega) (he.ext ((Ext.refl w).alloc _)))
      have hB := Blk.new w #[.int .u8 (f.kind.toNat : Int), .int .i64 f.fr, .int .i64 f.to, .int .i64 f.seq, .slice a f.nums.length cap] 48
      have hx0 := (Ext.refl w).alloc (.cells #[.int .u8 (f.kind.toNat : Int), .int .i64 f.fr, .int .i64 f.to, .int .i64 f.seq, .slice a f.nums.length cap] 48)
      simp only [hc, hE] at HK
      unfold frv at HK ⊢
      have Hr := hid hr
      have H := hid h
      have HB := hid hB
      have Hx0 := hid hx0
      clear hc hE hr h hB hx0
      go_enter Tryd.func22, Tryd.ntmps22
      go_wp2_with fail
      refine HK.out.mono ?_
      intro e w1 hx
      obtain ⟨rfl, hx1⟩ := hx
      have Hx1 := hid (Hx0.out.trans hx1)
      have HB1 := hid (HB.out.ext hx1)
      clear HK hx1 HB Hx0
      have s1' : (f.fr != r.fr) = false := by simp [S1.out]
      have s2' : (f.to != r.to) = true := by simp [s2]
      clear s2
      have h1 := H.out.ext Hx1.out
      generalize hN : w.heap.size = N at *
      have HN := hid hN
      clear hN
      go_wp2
      have d0 := HB1.out.kc (X := fun _ => False) (fun e => e) 0 rfl
      have d1 := HB1.out.kc (X := fun _ => False) (fun e => e) 1 rfl
      have d2 := HB1.out.kc (X := fun _ => False) (fun e => e) 2 rfl
      have g0 := h1.hp.kc (X := fun _ => False) (fun e => e) 0 rfl
      have g1 := h1.hp.kc (X := fun _ => False) (fun e => e) 1 rfl
      simp only [List.getElem_toArray, List.getElem_cons_zero, List.getElem_cons_succ] at d0 d1 d2 g0 g1
      refine wp_flowT (fun _ => False) (by kernel_rfl) (by kernel_rfl) ?_
      repeat (apply FlowT.d; (intro w1 hk; unfold does; go_simp; (try go_ints); (first | exact DetR.mk | (simp only [↓IntWalk.iteOmega, Oper.doesUpon_value]; exact DetR.mk) | (simp only [↓IntWalk.iteOmega]; go_simp; (try go_ints); exact DetR.mk))); simp only [Act.put, List.setIfInBounds_toArray, List.set_cons_zero, List.set_cons_succ])
      refine FlowT.fin fun w2 hx2 hk2 => ?_
      have Hx2 := hid (Hx1.out.trans hx2)
      have HB2 := hid (HB1.out.ext hx2)
      clear d0 d1 d2 g0 g1 hx2 hk2 HB1 Hx1 h1
      clear s1' s2'
      have gz : ∀ wa, Keep (fun _ => False) w2 wa → wa.cell? ⟨2, 0, none⟩ = some (ev 3) := fun wa hk => hk.cellx (Hx2.out.cellx Hg.out) (fun e => e)
      go_wp2
      refine wp_flowT (fun _ => False) (by kernel_rfl) (by kernel_rfl) ?_
      repeat (apply FlowT.d; (intro w1 hk; unfold does; go_simp; (try go_ints); (first | exact DetR.mk | (simp only [↓IntWalk.iteOmega, Oper.doesUpon_value]; exact DetR.mk) | (simp only [↓IntWalk.iteOmega]; go_simp; (try go_ints); exact DetR.mk))); simp only [Act.put, List.setIfInBounds_toArray, List.set_cons_zero, List.set_cons_succ])
      refine FlowT.fin fun w3 hx3 hk3 => ?_
      have Hx3 := hid (Hx2.out.trans hx3)
      clear gz hx3 hk3
      go_wp2
      go_ret2
      exact ⟨rfl, Hx3.out⟩
  · clear hs
    have HK := hid (fcheck_any f a cap _ ev (hr.ext ((Ext.refl w).alloc (.cells #[.int .u8 (f.kind.toNat : Int), .int .i64 f.fr, .int .i64 f.to, .int .i64 f.seq, .slice a f.nums.length cap] 48))) (by omega) (he.ext ((Ext.refl w).alloc _)))
    have hB := Blk.new w #[.int .u8 (f.kind.toNat : Int), .int .i64 f.fr, .int .i64 f.to, .int .i64 f.seq, .slice a f.nums.length cap] 48
    have hx0 := (Ext.refl w).alloc (.cells #[.int .u8 (f.kind.toNat : Int), .int .i64 f.fr, .int .i64 f.to, .int .i64 f.seq, .slice a f.nums.length cap] 48)
    simp only [hc, hE] at HK
    unfold frv at HK ⊢
    have Hr := hid hr
    have H := hid h
    have HB := hid hB
    have Hx0 := hid hx0
    clear hc hE hr h hB hx0
    go_enter Tryd.func22, Tryd.ntmps22
    go_wp2_with fail
    refine HK.out.mono ?_
    intro e w1 hx
    obtain ⟨rfl, hx1⟩ := hx
    have Hx1 := hid (Hx0.out.trans hx1)
    have HB1 := hid (HB.out.ext hx1)
    clear HK hx1 HB Hx0
    have s1' : (f.fr != r.fr) = true := by simp [s1]
    clear s1
    have h1 := H.out.ext Hx1.out
    generalize hN : w.heap.size = N at *
    have HN := hid hN
    clear hN
    go_wp2
    have d0 := HB1.out.kc (X := fun _ => False) (fun e => e) 0 rfl
    have d1 := HB1.out.kc (X := fun _ => False) (fun e => e) 1 rfl
    have d2 := HB1.out.kc (X := fun _ => False) (fun e => e) 2 rfl
    have g0 := h1.hp.kc (X := fun _ => False) (fun e => e) 0 rfl
    have g1 := h1.hp.kc (X := fun _ => False) (fun e => e) 1 rfl
    simp only [List.getElem_toArray, List.getElem_cons_zero, List.getElem_cons_succ] at d0 d1 d2 g0 g1
    refine wp_flowT (fun _ => False) (by kernel_rfl) (by kernel_rfl) ?_
    repeat (apply FlowT.d; (intro w1 hk; unfold does; go_simp; (try go_ints); (first | exact DetR.mk | (simp only [↓IntWalk.iteOmega, Oper.doesUpon_value]; exact DetR.mk) | (simp only [↓IntWalk.iteOmega]; go_simp; (try go_ints); exact DetR.mk))); simp only [Act.put, List.setIfInBounds_toArray, List.set_cons_zero, List.set_cons_succ])
    refine FlowT.fin fun w2 hx2 hk2 => ?_
    have Hx2 := hid (Hx1.out.trans hx2)
    have HB2 := hid (HB1.out.ext hx2)
    clear d0 d1 d2 g0 g1 hx2 hk2 HB1 Hx1 h1
    clear s1'
    have gz : ∀ wa, Keep (fun _ => False) w2 wa → wa.cell? ⟨2, 0, none⟩ = some (ev 3) := fun wa hk => hk.cellx (Hx2.out.cellx Hg.out) (fun e => e)
    go_wp2
    refine wp_flowT (fun _ => False) (by kernel_rfl) (by kernel_rfl) ?_
    repeat (apply FlowT.d; (intro w1 hk; unfold does; go_simp; (try go_ints); (first | exact DetR.mk | (simp only [↓IntWalk.iteOmega, Oper.doesUpon_value]; exact DetR.mk) | (simp only [↓IntWalk.iteOmega]; go_simp; (try go_ints); exact DetR.mk))); simp only [Act.put, List.setIfInBounds_toArray, List.set_cons_zero, List.set_cons_succ])
    refine FlowT.fin fun w3 hx3 hk3 => ?_
    have Hx3 := hid (Hx2.out.trans hx3)
    clear gz hx3 hk3
    go_wp2
    go_ret2
    exact ⟨rfl, Hx3.out⟩
end Go.Proofs.YtkabgmohgjljkaaDoor


/- Links: a frame is taken: an old one, or one that comes too early. -/
namespace Go.Proofs.YtkabgmohgjljkaaDoor
set_option linter.unusedSimpArgs false
set_option linter.unusedVariables false
open Go Go.RowKit

set_option maxRecDepth 100000 in
set_option maxHeartbeats 3200000 in
theorem take_old (r : Rcv) (f : Fr) (a : Option Addr) (cap : Nat) (w : World) (n0 : Nat) (t : Option Nat) (q b : Nat) (ms : List FV) (h : RcvAt w n0 t q b r ms) (hr : Ints w a f.nums.length f.nums) (hl : f.nums.length ≤ 1000)
    (ev : Nat → Value) (he : ErrsC w ev)
    (hc : f.code = 0) (hs1 : f.fr = r.fr) (hs2 : f.to = r.to) (hs3 : f.kind ≠ 97) (ho : f.seq < r.due ∨ (Rcv.find r.wait f.seq).isSome = true) :
    Calls Tryd.prog 22 #[.pointer (some ⟨q, 0, none⟩), frv f a cap] w fun e w' => e = .returned (.tuple #[.slice none 0 0, .nilIface]) ∧ Ext w w' := by
  have hE : errv ev 0 = .nilIface := rfl
  have S1 := hid hs1
  have S2 := hid hs2
  have S3 : Hid (¬ (f.kind.toNat : Int) = 97) := hid fun e => hs3 (UInt8.toNat_inj.1 (by rw [show (97 : UInt8).toNat = 97 from rfl]; omega))
  cases hfd : Rcv.find r.wait f.seq with
  | some j =>
    have hfd' := hfd
    rw [h.eq] at hfd'
    obtain ⟨x, hxj, _, _, hmv⟩ := mval_some hfd'
    obtain ⟨ax, cx, _, hxv, _⟩ := (h.hn x (List.mem_of_getElem? hxj)).form
    have Hmv := hid hmv
    have Hxv := hid hxv
    clear ho hfd hfd' hxj hmv hxv
    clear hs1 hs2 hs3
    have HK := hid (fcheck_any f a cap _ ev (hr.ext ((Ext.refl w).alloc (.cells #[.int .u8 (f.kind.toNat : Int), .int .i64 f.fr, .int .i64 f.to, .int .i64 f.seq, .slice a f.nums.length cap] 48))) (by omega) (he.ext ((Ext.refl w).alloc _)))
    have hB := Blk.new w #[.int .u8 (f.kind.toNat : Int), .int .i64 f.fr, .int .i64 f.to, .int .i64 f.seq, .slice a f.nums.length cap] 48
    have hx0 := (Ext.refl w).alloc (.cells #[.int .u8 (f.kind.toNat : Int), .int .i64 f.fr, .int .i64 f.to, .int .i64 f.seq, .slice a f.nums.length cap] 48)
    simp only [hc, hE] at HK
    unfold frv at HK ⊢
    have Hr := hid hr
    have H := hid h
    have HB := hid hB
    have Hx0 := hid hx0
    clear hc hE hr h hB hx0
    go_enter Tryd.func22, Tryd.ntmps22
    go_wp2_with fail
    refine HK.out.mono ?_
    intro e w1 hx
    obtain ⟨rfl, hx1⟩ := hx
    have Hx1 := hid (Hx0.out.trans hx1)
    have HB1 := hid (HB.out.ext hx1)
    clear HK hx1 HB Hx0
    have s1 : (f.fr != r.fr) = false := by simp [S1.out]
    have s2 : (f.to != r.to) = false := by simp [S2.out]
    have s3 : ((f.kind.toNat : Int) == 97) = false := beq_eq_false_iff_ne.2 S3.out
    have h1 := H.out.ext Hx1.out
    generalize hN : w.heap.size = N at *
    have HN := hid hN
    clear hN
    go_wp2
    have d0 := HB1.out.kc (X := fun _ => False) (fun e => e) 0 rfl
    have d1 := HB1.out.kc (X := fun _ => False) (fun e => e) 1 rfl
    have d2 := HB1.out.kc (X := fun _ => False) (fun e => e) 2 rfl
    have g0 := h1.hp.kc (X := fun _ => False) (fun e => e) 0 rfl
    have g1 := h1.hp.kc (X := fun _ => False) (fun e => e) 1 rfl
    simp only [List.getElem_toArray, List.getElem_cons_zero, List.getElem_cons_succ] at d0 d1 d2 g0 g1
    refine wp_flowT (fun _ => False) (by kernel_rfl) (by kernel_rfl) ?_
    repeat (apply FlowT.d; (intro w1 hk; unfold does; go_simp; (try go_ints); (first | exact DetR.mk | (simp only [↓IntWalk.iteOmega, Oper.doesUpon_value]; exact DetR.mk) | (simp only [↓IntWalk.iteOmega]; go_simp; (try go_ints); exact DetR.mk))); simp only [Act.put, List.setIfInBounds_toArray, List.set_cons_zero, List.set_cons_succ])
    refine FlowT.fin fun w2 hx2 hk2 => ?_
    have Hx2 := hid (Hx1.out.trans hx2)
    have HB2 := hid (HB1.out.ext hx2)
    clear d0 d1 d2 g0 g1 hx2 hk2 HB1 Hx1 h1
    clear s1 s2 s3
    have h2 := H.out.ext Hx2.out
    have hlk : ∀ wa, Keep (fun g => w2.heap.size ≤ g) w2 wa → (Instr.lookup 89 (.map (some b)) (.int .i64 f.seq) true).run Tryd.prog wa = .ok (.tuple #[.agg #[.int .u8 (x.f.kind.toNat : Int), .int .i64 x.f.fr, .int .i64 x.f.to, .int .i64 x.f.seq, .slice ax x.f.nums.length cx], .bool true]) wa := fun wa hk => by
      have := run_map_lookup (P := Tryd.prog) Tryd.underlying89 Tryd.underlying3 (h2.hm.keep hk (by have := h2.hm.lt; omega)) f.seq (frame_zero wa)
      rw [Hmv.out] at this
      simpa [FV.val, Hxv.out] using this
    have g3 := h2.hp.kc (X := fun g => w2.heap.size ≤ g) (by have := h2.hp.lt; omega) 3 rfl
    have d3 := HB2.out.kc (X := fun g => w2.heap.size ≤ g) (by have := HB2.out.lt; omega) 3 rfl
    simp only [List.getElem_toArray, List.getElem_cons_zero, List.getElem_cons_succ] at g3 d3
    go_wp2
    refine wp_flowT (fun g => w2.heap.size ≤ g) (by kernel_rfl) (by kernel_rfl) ?_
    repeat (apply FlowT.d; (intro w1 hk; unfold does; go_simp; (try go_ints); (first | exact DetR.mk | (simp only [↓IntWalk.iteOmega, Oper.doesUpon_value]; exact DetR.mk) | (simp only [↓IntWalk.iteOmega]; go_simp; (try go_ints); exact DetR.mk))); simp only [Act.put, List.setIfInBounds_toArray, List.set_cons_zero, List.set_cons_succ])
    refine FlowT.s (fun v w' => ∃ b7, v = .pointer (some ⟨b7, 0, none⟩) ∧ Blk w' b7 frz 48 ∧ w2.heap.size ≤ b7 ∧ Ext w2 w') 10 rfl (by kernel_rfl) (fun _ _ _ ⟨b7, e1, e2, e3, e4⟩ x => ⟨b7, e1, e2.ext x, e3, e4.trans x⟩) (fun wa hC hk => ?_) ?_
    · unfold does
      go_simp
      exact ⟨hk.alloc _, _, rfl, Blk.new _ _ _, hC.size, hC.alloc _⟩
    rintro _ ⟨_, b7, rfl, _, hb7, _⟩
    have Hb7 := hid hb7
    clear hb7
    simp only [Act.put, List.setIfInBounds_toArray, List.set_cons_zero, List.set_cons_succ]
    refine FlowT.s (fun _ w' => Blk w' b7 #[.int .u8 (x.f.kind.toNat : Int), .int .i64 x.f.fr, .int .i64 x.f.to, .int .i64 x.f.seq, .slice ax x.f.nums.length cx] 48 ∧ Ext w2 w') 11 rfl (by kernel_rfl) (fun _ _ _ ⟨e1, e2⟩ x => ⟨e1.ext x, e2.trans x⟩) (fun wa hC hk => ?_) ?_
    · obtain ⟨b', e, hB, _, hx⟩ := hC
      obtain rfl : b7 = b' := by simpa using e
      have c0 := hB.av 0 rfl
      have c1 := hB.av 1 rfl
      have c2 := hB.av 2 rfl
      have c3 := hB.av 3 rfl
      have c4 := hB.av 4 rfl
      have f0 := hB.free
      unfold does
      go_simp
      exact ⟨hk.trans ((store5_keep _ _ _ _ _ _ _).mono fun b _ e => by subst e; exact Hb7.out), store5 hB, Keep.new hx (store5_keep _ _ _ _ _ _ _) (fun b e => by subst e; exact Hb7.out)⟩
    rintro _ ⟨_, _⟩
    simp only [Act.put, List.setIfInBounds_toArray, List.set_cons_zero, List.set_cons_succ]
    repeat (apply FlowT.d; (intro w1 hk; unfold does; go_simp; (try go_ints); (first | exact DetR.mk | (simp only [↓IntWalk.iteOmega, Oper.doesUpon_value]; exact DetR.mk) | (simp only [↓IntWalk.iteOmega]; go_simp; (try go_ints); exact DetR.mk))); simp only [Act.put, List.setIfInBounds_toArray, List.set_cons_zero, List.set_cons_succ])
    refine FlowT.fin fun w3 hC hk3 => ?_
    obtain ⟨hB7, hx3⟩ := hC
    have Hx3 := hid hx3
    have HB7 := hid hB7
    clear g3 d3 hlk hB7 hx3 hk3
    go_wp2
    refine wp_flowT (fun _ => False) (by kernel_rfl) (by kernel_rfl) ?_
    repeat (apply FlowT.d; (intro w1 hk; unfold does; go_simp; (try go_ints); (first | exact DetR.mk | (simp only [↓IntWalk.iteOmega, Oper.doesUpon_value]; exact DetR.mk) | (simp only [↓IntWalk.iteOmega]; go_simp; (try go_ints); exact DetR.mk))); simp only [Act.put, List.setIfInBounds_toArray, List.set_cons_zero, List.set_cons_succ])
    refine FlowT.fin fun w4 hx4 hk4 => ?_
    have Hx4 := hid (Hx2.out.trans (Hx3.out.trans hx4))
    clear hx4 hk4
    go_wp2
    go_ret2
    exact ⟨rfl, Hx4.out⟩
  | none =>
    have hlt : f.seq < r.due := by
      rcases ho with h1 | h1
      · exact h1
      · rw [hfd] at h1; cases h1
    have hmv := mval_none (ms := ms) (k := f.seq) (by rw [← h.eq]; exact hfd)
    have Hmv := hid hmv
    have Hlt := hid hlt
    clear ho hfd hmv hlt
    clear hs1 hs2 hs3
    have HK := hid (fcheck_any f a cap _ ev (hr.ext ((Ext.refl w).alloc (.cells #[.int .u8 (f.kind.toNat : Int), .int .i64 f.fr, .int .i64 f.to, .int .i64 f.seq, .slice a f.nums.length cap] 48))) (by omega) (he.ext ((Ext.refl w).alloc _)))
    have hB := Blk.new w #[.int .u8 (f.kind.toNat : Int), .int .i64 f.fr, .int .i64 f.to, .int .i64 f.seq, .slice a f.nums.length cap] 48
    have hx0 := (Ext.refl w).alloc (.cells #[.int .u8 (f.kind.toNat : Int), .int .i64 f.fr, .int .i64 f.to, .int .i64 f.seq, .slice a f.nums.length cap] 48)
    simp only [hc, hE] at HK
    unfold frv at HK ⊢
    have Hr := hid hr
    have H := hid h
    have HB := hid hB
    have Hx0 := hid hx0
    clear hc hE hr h hB hx0
    go_enter Tryd.func22, Tryd.ntmps22
    go_wp2_with fail
    refine HK.out.mono ?_
    intro e w1 hx
    obtain ⟨rfl, hx1⟩ := hx
    have Hx1 := hid (Hx0.out.trans hx1)
    have HB1 := hid (HB.out.ext hx1)
    clear HK hx1 HB Hx0
    have s1 : (f.fr != r.fr) = false := by simp [S1.out]
    have s2 : (f.to != r.to) = false := by simp [S2.out]
    have s3 : ((f.kind.toNat : Int) == 97) = false := beq_eq_false_iff_ne.2 S3.out
    have h1 := H.out.ext Hx1.out
    generalize hN : w.heap.size = N at *
    have HN := hid hN
    clear hN
    go_wp2
    have d0 := HB1.out.kc (X := fun _ => False) (fun e => e) 0 rfl
    have d1 := HB1.out.kc (X := fun _ => False) (fun e => e) 1 rfl
    have d2 := HB1.out.kc (X := fun _ => False) (fun e => e) 2 rfl
    have g0 := h1.hp.kc (X := fun _ => False) (fun e => e) 0 rfl
    have g1 := h1.hp.kc (X := fun _ => False) (fun e => e) 1 rfl
    simp only [List.getElem_toArray, List.getElem_cons_zero, List.getElem_cons_succ] at d0 d1 d2 g0 g1
    refine wp_flowT (fun _ => False) (by kernel_rfl) (by kernel_rfl) ?_
    repeat (apply FlowT.d; (intro w1 hk; unfold does; go_simp; (try go_ints); (first | exact DetR.mk | (simp only [↓IntWalk.iteOmega, Oper.doesUpon_value]; exact DetR.mk) | (simp only [↓IntWalk.iteOmega]; go_simp; (try go_ints); exact DetR.mk))); simp only [Act.put, List.setIfInBounds_toArray, List.set_cons_zero, List.set_cons_succ])
    refine FlowT.fin fun w2 hx2 hk2 => ?_
    have Hx2 := hid (Hx1.out.trans hx2)
    have HB2 := hid (HB1.out.ext hx2)
    clear d0 d1 d2 g0 g1 hx2 hk2 HB1 Hx1 h1
    clear s1 s2 s3
    have h2 := H.out.ext Hx2.out
    have hlk : ∀ wa, Keep (fun g => w2.heap.size ≤ g) w2 wa → (Instr.lookup 89 (.map (some b)) (.int .i64 f.seq) true).run Tryd.prog wa = .ok (.tuple #[.agg #[.int .u8 0, .int .i64 0, .int .i64 0, .int .i64 0, .slice none 0 0], .bool false]) wa := fun wa hk => by
      have := run_map_lookup (P := Tryd.prog) Tryd.underlying89 Tryd.underlying3 (h2.hm.keep hk (by have := h2.hm.lt; omega)) f.seq (frame_zero wa)
      rw [Hmv.out] at this
      simpa [fr0] using this
    have g3 := h2.hp.kc (X := fun g => w2.heap.size ≤ g) (by have := h2.hp.lt; omega) 3 rfl
    have d3 := HB2.out.kc (X := fun g => w2.heap.size ≤ g) (by have := HB2.out.lt; omega) 3 rfl
    simp only [List.getElem_toArray, List.getElem_cons_zero, List.getElem_cons_succ] at g3 d3
    go_wp2
    refine wp_flowT (fun g => w2.heap.size ≤ g) (by kernel_rfl) (by kernel_rfl) ?_
    repeat (apply FlowT.d; (intro w1 hk; unfold does; go_simp; (try go_ints); (first | exact DetR.mk | (simp only [↓IntWalk.iteOmega, Oper.doesUpon_value]; exact DetR.mk) | (simp only [↓IntWalk.iteOmega]; go_simp; (try go_ints); exact DetR.mk))); simp only [Act.put, List.setIfInBounds_toArray, List.set_cons_zero, List.set_cons_succ])
    refine FlowT.s (fun v w' => ∃ b7, v = .pointer (some ⟨b7, 0, none⟩) ∧ Blk w' b7 frz 48 ∧ w2.heap.size ≤ b7 ∧ Ext w2 w') 10 rfl (by kernel_rfl) (fun _ _ _ ⟨b7, e1, e2, e3, e4⟩ x => ⟨b7, e1, e2.ext x, e3, e4.trans x⟩) (fun wa hC hk => ?_) ?_
    · unfold does
      go_simp
      exact ⟨hk.alloc _, _, rfl, Blk.new _ _ _, hC.size, hC.alloc _⟩
    rintro _ ⟨_, b7, rfl, _, hb7, _⟩
    have Hb7 := hid hb7
    clear hb7
    simp only [Act.put, List.setIfInBounds_toArray, List.set_cons_zero, List.set_cons_succ]
    refine FlowT.s (fun _ w' => Blk w' b7 #[.int .u8 0, .int .i64 0, .int .i64 0, .int .i64 0, .slice none 0 0] 48 ∧ Ext w2 w') 11 rfl (by kernel_rfl) (fun _ _ _ ⟨e1, e2⟩ x => ⟨e1.ext x, e2.trans x⟩) (fun wa hC hk => ?_) ?_
    · obtain ⟨b', e, hB, _, hx⟩ := hC
      obtain rfl : b7 = b' := by simpa using e
      have c0 := hB.av 0 rfl
      have c1 := hB.av 1 rfl
      have c2 := hB.av 2 rfl
      have c3 := hB.av 3 rfl
      have c4 := hB.av 4 rfl
      have f0 := hB.free
      unfold does
      go_simp
      exact ⟨hk.trans ((store5_keep _ _ _ _ _ _ _).mono fun b _ e => by subst e; exact Hb7.out), store5 hB, Keep.new hx (store5_keep _ _ _ _ _ _ _) (fun b e => by subst e; exact Hb7.out)⟩
    rintro _ ⟨_, _⟩
    simp only [Act.put, List.setIfInBounds_toArray, List.set_cons_zero, List.set_cons_succ]
    repeat (apply FlowT.d; (intro w1 hk; unfold does; go_simp; (try go_ints); (first | exact DetR.mk | (simp only [↓IntWalk.iteOmega, Oper.doesUpon_value]; exact DetR.mk) | (simp only [↓IntWalk.iteOmega]; go_simp; (try go_ints); exact DetR.mk))); simp only [Act.put, List.setIfInBounds_toArray, List.set_cons_zero, List.set_cons_succ])
    refine FlowT.fin fun w3 hC hk3 => ?_
    obtain ⟨hB7, hx3⟩ := hC
    have Hx3 := hid hx3
    have HB7 := hid hB7
    clear g3 d3 hlk hB7 hx3 hk3
    have hlt := Hlt.out
    have g2 := (h2.hp.ext Hx3.out).kc (X := fun _ => False) (fun e => e) 2 rfl
    have d3 := (HB2.out.ext Hx3.out).kc (X := fun _ => False) (fun e => e) 3 rfl
    simp only [List.getElem_toArray, List.getElem_cons_zero, List.getElem_cons_succ] at g2 d3
    go_wp2
    refine wp_flowT (fun _ => False) (by kernel_rfl) (by kernel_rfl) ?_
    repeat (apply FlowT.d; (intro w1 hk; unfold does; go_simp; (try go_ints); (first | exact DetR.mk | (simp only [↓IntWalk.iteOmega, Oper.doesUpon_value]; exact DetR.mk) | (simp only [↓IntWalk.iteOmega]; go_simp; (try go_ints); exact DetR.mk))); simp only [Act.put, List.setIfInBounds_toArray, List.set_cons_zero, List.set_cons_succ])
    refine FlowT.fin fun w4 hx4 hk4 => ?_
    have Hx4 := hid (Hx2.out.trans (Hx3.out.trans hx4))
    clear hx4 hk4
    go_wp2
    go_ret2
    exact ⟨rfl, Hx4.out⟩
end Go.Proofs.YtkabgmohgjljkaaDoor
