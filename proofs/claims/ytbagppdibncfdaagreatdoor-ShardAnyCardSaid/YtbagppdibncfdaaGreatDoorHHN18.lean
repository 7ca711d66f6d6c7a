/- Texts of one proof, put together: ZZYl ZZYp E3 E4 E5 E6. -/
import Derived.Test.YtbagppdibncfdaaGreatDoorHHN08
import Derived.Test.YtbagppdibncfdaaGreatDoorHHN11
import Derived.Test.YtbagppdibncfdaaGreatDoorHHN12
import Derived.Test.YtbagppdibncfdaaGreatDoorHHN17
import Derived.OwnWalk
import Derived.Test.YtbagppdibncfdaaGreatDoorHHN01
set_option linter.unusedSimpArgs false
set_option linter.unusedVariables false
namespace Go.Proofs.YtbagppdibncfdaaGreatDoor
open Go Go.RowKit
set_option maxRecDepth 100000 in
set_option maxHeartbeats 12800000 in
theorem shardwork_any (c : SC) (s : SH) (w : World) (G F : Nat → Prop) (g : Nat) (hS : ShAt w G F g c s) (hok : s.Ok c.P (c.me : Nat) (c.k : Nat)) (hph : s.phi ≤ 600000000) :
    Calls Tryz.prog 80 #[.pointer (some ⟨g, 0, none⟩)] w fun x w' => ∃ (v : Value) (t : SH) (os : List N2) (F' : Nat → Prop), x = .returned v ∧ Runs c.P (c.me : Nat) (c.k : Nat) s t ∧ t.todo = [] ∧ ShAt w' G F' g c { t with out := [] } ∧ NotesR w' F' v t.out os ∧ (∀ b, F b → F' b) ∧ (∀ b, IsInt w' b → F' b) ∧ Keep (fun b => ¬ F b) w w' := by
  have HOk0 := hid hok
  have Hph := hid hph
  have hw : c.P.Well := by obtain ⟨_, _, _, _, _, _, _, _, h⟩ := hS; exact h.con.well
  have HS0 := hid hS
  have Hw := hid hw
  clear hS hok hph hw
  go_enter Tryz.func80, Tryz.ntmps80
  go_wp2
  go_loopw [3] (fun _ wr => ∃ t, Runs c.P (c.me : Nat) (c.k : Nat) s t ∧ ShAt wr G F g c t ∧ Keep (fun b => ¬ F b) w wr) (fun _ wr => shMes G F g c s wr)
  case atStart => exact ⟨s, .refl, HS0.out, Keep.refl _ _⟩
  case round =>
    clear HS0
    obtain ⟨t0, hr0, hS0, hK⟩ := hrel
    obtain ⟨t, hrt, hSt, hmu⟩ := shMes_of hr0 hS0
    have HK := hid hK
    have Hrt := hid hrt
    have Hmu := hid hmu
    have Hok := hid (hrt.ok Hw.out HOk0.out)
    clear hr0 hS0 hK hrt hmu
    obtain ⟨m1, m2, f1, f2, vt, vo, ts, os, hS⟩ := hSt
    by_cases hne : t.todo = []
    · obtain ⟨av, cv, rfl⟩ := hS.tq.form
      obtain ⟨ao, co, rfl⟩ := hS.oq.form
      have b10 := hS.blk.av 10 rfl
      have b11 := hS.blk.av 11 rfl
      have f11 := hS.blk.free 11
      simp only [shCells, qA0, qA1, qA2] at b10 b11
      rw [hne, List.length_nil] at b10
      have HSo := hid (hS.setOut (Keep.refl _ wr) (vo' := .slice none 0 0) (os' := []) (l := []) rfl (OwnsQ.nil _ _ _ _) (fun _ h => (by cases h)) (fun _ h => (by cases h)))
      have Hne := hid hne
      have HSk := hid hS
      clear hne hS
      go_wp2
      go_ret
      have kg : Keep (fun q => q = g) wr (wr.setCell ⟨g, 11, none⟩ (.slice none 0 0)) := (Keep.refl (fun q => q = g) wr).set rfl _
      have hnum : ∀ x ∈ os, IRow 0 (wr.setCell ⟨g, 11, none⟩ (.slice none 0 0)) x.v x.n.nums := fun x hx => own_off (HSk.out.or x hx) kg fun b hb => by rw [hb]; exact off_of HSk.out.blk (by decide)
      refine ⟨_, t, os, _, rfl, Hrt.out, Hne.out, ⟨_, _, _, _, _, _, _, _, HSo.out.whole⟩, ⟨HSk.out.oq.off kg fun b hb => (by rw [hb]; exact off_of HSk.out.blk (by decide)), HSk.out.on, hnum, fun b hb => ⟨?_, ?_⟩, fun x hx b hb => ?_⟩, fun b hb => ⟨HSo.out.flt b hb, fun q => HSo.out.own b q hb⟩, fun b hb => ⟨hb.lt, HSo.out.not_int hb⟩, HK.out.set (HSk.out.own g (.inl rfl)) _⟩
      · obtain ⟨c', hc⟩ := HSk.out.oblk hb
        exact Nat.lt_of_lt_of_le hc.lt kg.size
      · obtain ⟨c', hc⟩ := HSk.out.oblk hb
        rintro (rfl | rfl | rfl | ho | ho | ho | ho)
        · exact off_of hc (by decide) ⟨_, HSk.out.blk⟩
        · exact HSk.out.mm1.map.not_blk hc
        · exact HSk.out.mm2.map.not_blk hc
        · exact HSk.out.mm1.in_blk ho hc
        · exact HSk.out.mm2.in_blk ho hc
        · exact HSk.out.ne b ho hb
        · cases ho
      · obtain ⟨c', hc⟩ := own_ty (hnum x hx) hb
        exact ⟨hc.lt, HSo.out.not_own hc (by decide) (by decide)⟩
    · obtain ⟨x, tr, rfl⟩ : ∃ x tr, ts = x :: tr := by
        cases ts with
        | nil => exact absurd hS.tn.symm hne
        | cons x tr => exact ⟨x, tr, rfl⟩
      have hl : t.todo = x.n :: tr.map N2.n := hS.tn.symm
      obtain ⟨gq, off, cap, rfl, hcap⟩ := hS.tq.pos (by rw [hl, List.length_cons]; omega)
      have hnum := hS.tr x List.mem_cons_self
      obtain ⟨hxi, hxm⟩ := Hok.out.1.todo x.n (by rw [hl]; exact List.mem_cons_self)
      have hxi := hxi.is
      obtain ⟨xn, xv⟩ := x
      obtain ⟨xto, xk, xl⟩ := xn
      simp only at hnum hxi hxm hl
      obtain ⟨av, cv, rfl⟩ := row_form hnum
      have q0 := hS.tq.get 0 (u := .int .i64 xto) rfl
      have q1 := hS.tq.get 1 (u := .int .u8 xk) rfl
      have q2 := hS.tq.get 2 (u := .slice av xl.length cv) rfl
      simp only [Nat.add_zero] at q0
      have b10 := hS.blk.av 10 rfl
      have f10 := hS.blk.free 10
      simp only [shCells, qA0, qA1, qA2] at b10
      obtain ⟨W1, hW1⟩ : ∃ W1, W1 = wr.alloc (.cells #[.int .i64 xto, .int .u8 xk, .slice av xl.length cv] 57) := ⟨_, rfl⟩
      have hx1 : Ext wr W1 := by rw [hW1]; exact (Ext.refl _).alloc _
      have hBx : Blk W1 wr.heap.size #[.int .i64 xto, .int .u8 xk, .slice av xl.length cv] 57 := by rw [hW1]; exact Blk.new _ _ _
      have hcr : t.todo.length ≤ cap ∧ 1 ≤ t.todo.length := by
        refine ⟨?_, by rw [hl, List.length_cons]; omega⟩
        rcases hS.tq.2 with ⟨hx, _⟩ | ⟨g', off', cap', cur, hx, _, _, hx4, _⟩
        · cases hx
        · simp only [Value.slice.injEq] at hx
          rw [hx.2.2]; exact hx4
      have hcut := (hS.ext hx1).cutTodo hl
      obtain ⟨s1, hs1⟩ : ∃ s1 : SH, s1 = { t with todo := tr.map N2.n } := ⟨_, rfl⟩
      obtain ⟨vt', hvt⟩ : ∃ vt', vt' = Value.slice (some (if cap = 1 then (⟨gq, off, none⟩ : Addr) else ⟨gq, off + 3, none⟩)) (t.todo.length - 1) (cap - 1) := ⟨_, rfl⟩
      have hvb : vt'.ownBlock = (Value.slice (some ⟨gq, off, none⟩) t.todo.length cap).ownBlock := by
        rw [hvt]
        show some (if cap = 1 then (⟨gq, off, none⟩ : Addr) else ⟨gq, off + 3, none⟩).block = some gq
        split <;> rfl
      obtain ⟨m, hm⟩ : ∃ m, t.todo.length = m + 1 := ⟨t.todo.length - 1, by omega⟩
      have hvt2 : vt' = Value.slice (some (if cap = 1 then (⟨gq, off, none⟩ : Addr) else ⟨gq, off + 3, none⟩)) m (cap - 1) := by rw [hvt, hm, Nat.add_sub_cancel]
      obtain ⟨W3, hW3⟩ : ∃ W3, W3 = W1.setCell ⟨g, 10, none⟩ vt' := ⟨_, rfl⟩
      rw [← hvt, ← hs1, ← hW3] at hcut
      have b10' := (hS.blk.ext hx1).av 10 rfl
      have f10' := (hS.blk.ext hx1).free 10
      simp only [shCells, qA0, qA1, qA2] at b10'
      rw [hm] at b10 b10'
      rw [hW1] at b10' f10'
      clear f10
      by_cases hc1 : cap = 1
      · have hm0 : m = 0 := by omega
        have hvt3 : vt' = .slice (some ⟨gq, off, none⟩) 0 0 := by rw [hvt2, if_pos hc1, hc1, hm0]
        have HW3 : Hid (W3 = (wr.alloc (.cells #[.int .i64 xto, .int .u8 xk, .slice av xl.length cv] 57)).setCell ⟨g, 10, none⟩ (.slice (some ⟨gq, off, none⟩) 0 0)) := hid (by rw [hW3, hW1, hvt3])
        rw [hm0, hc1, Nat.zero_add] at b10 b10'
        have HS3 := hid hcut
        have Hnum : Hid (IRow 0 W3 (.slice av xl.length cv) xl) := hid (by
          rw [hW3]
          refine own_off (own_ext hnum hx1) ((Keep.refl (fun q => q = g) W1).set rfl _) fun b hb => ?_
          rw [hb]; exact off_of (hS.blk.ext hx1) (by decide))
        have HBx3 : Hid (Blk W3 wr.heap.size #[.int .i64 xto, .int .u8 xk, .slice av xl.length cv] 57) := hid (by
          rw [hW3]
          exact hBx.set_ne (fun e => (hS.blk.ext hx1).ty_ne hBx (by decide) e) _)
        have Hnew : Hid (¬ ShOwn g m1 m2 f1 f2 vt' vo wr.heap.size) := hid fun hb => by
          have h1 : ShOwn g m1 m2 f1 f2 (.slice (some ⟨gq, off, none⟩) t.todo.length cap) vo wr.heap.size := by
            rcases hb with hb | hb | hb | hb | hb | hb | hb
            · exact .inl hb
            · exact .inr (.inl hb)
            · exact .inr (.inr (.inl hb))
            · exact .inr (.inr (.inr (.inl hb)))
            · exact .inr (.inr (.inr (.inr (.inl hb))))
            · exact .inr (.inr (.inr (.inr (.inr (.inl (by rw [← hvb]; exact hb))))))
            · exact .inr (.inr (.inr (.inr (.inr (.inr hb)))))
          have := hS.own_lt h1
          omega
        have HK3 : Hid (Keep (fun b => ¬ F b) w W3) := hid (by
          rw [hW3]
          exact (HK.out.ext_r hx1).set (hS.own g (.inl rfl)) _)
        clear hvt hvt2 hvt3 hvb hW1 hx1 hBx hcut hW3 hm hm0 hcr hcap hne hnum hc1
        rcases hxi with ⟨hk, n, l, hxl, hn, hto, hlo⟩ | ⟨hk, a, b, hxl, ha, hto, hb⟩
        · simp only at hk hxl hto
          subst hk
          subst hxl
          obtain ⟨n, rfl⟩ := Int.eq_ofNat_of_zero_le hn.1
          simp only [List.length_cons] at q2 b10' f10' HW3 HBx3 Hnum
          have Hok1 : Hid (s1.Ok c.P (c.me : Nat) (c.k : Nat)) := hid (by rw [hs1]; exact todo_ok Hok.out.1 hl)
          have Hph1 : Hid (s1.phi ≤ 600000000) := hid (by
            have h1 := load_phi s1
            have h2 := Hok.out.2
            have h3 := Hph.out
            have h4 : s1.phi ≤ t.phi := by
              rw [hs1]
              unfold SH.phi SH.load
              rw [hl, List.length_cons]
              simp only
              omega
            omega)
          have Hless := hid (step_less Hw.out Hok.out.1 (by rw [hl]; simp)).2
          have Hrs := hid (Hrt.out.step (by rw [hl]; simp))
          have Hstp : Hid (t.step c.P (c.me : Nat) (c.k : Nat) = s1.note c.P (c.me : Nat) (c.k : Nat) ⟨xto, 100, ((n : Int) :: l)⟩) := hid (by unfold SH.step; rw [hl, hs1])
          have Hlo := hid hlo
          have Hn := hid hn
          have Hnm : Hid ((n : Int) % (c.k : Int) = (c.me : Int)) := hid (hto.symm.trans hxm)
          have Hst1 : Hid (t.step c.P (c.me : Nat) (c.k : Nat) = l.foldl (SH.comes c.P (c.me : Nat) (c.k : Nat) (n : Int)) s1) := hid (by rw [Hstp.out]; rfl)
          clear hlo hn hto hxm hl hs1 hS
          have HSx := hid HS3.out.whole
          have Hwh : Hid (∀ b, F b → b < W3.heap.size ∧ ¬ ShOwn g m1 m2 f1 f2 vt' vo b) := hid fun b hb => ⟨HS3.out.flt b hb, fun q => HS3.out.own b q hb⟩
          have Hnf : Hid (∀ b, (Value.slice av (l.length + 1) cv).ownBlock = some b → b < W3.heap.size ∧ ¬ ShOwn g m1 m2 f1 f2 vt' vo b) := hid fun b hb => by
            obtain ⟨c', hc⟩ := own_ty Hnum.out hb
            exact ⟨hc.lt, HS3.out.not_own hc (by decide) (by decide)⟩
          have Hbf : Hid (wr.heap.size < W3.heap.size ∧ ¬ ShOwn g m1 m2 f1 f2 vt' vo wr.heap.size) := hid ⟨HBx3.out.lt, Hnew.out⟩
          have HSat : Hid (ShAt W3 G (fun b => b < W3.heap.size ∧ ¬ ShOwn g m1 m2 f1 f2 vt' vo b) g c s1) := hid ⟨_, _, _, _, _, _, _, _, HSx.out⟩
          generalize hF' : (fun b => b < W3.heap.size ∧ ¬ ShOwn g m1 m2 f1 f2 vt' vo b) = F' at HSat
          have HF1 : Hid (∀ b, F b → F' b) := hid fun b hb => by rw [← hF']; exact Hwh.out b hb
          have HnF : Hid (∀ b, (Value.slice av (l.length + 1) cv).ownBlock = some b → F' b) := hid fun b hb => by rw [← hF']; exact Hnf.out b hb
          have HbF : Hid (F' wr.heap.size) := hid (by rw [← hF']; exact Hbf.out)
          have HgF := hid HS3.out.gf
          clear hF' Hwh Hnf Hbf HSx
          have dk2 := HBx3.out.kc (X := fun b => ¬ F' b) (fun h => h HbF.out) 2 rfl
          have d1 := HBx3.out.av 1 rfl
          have d2 := HBx3.out.av 2 rfl
          simp only [qA0, qA1, qA2] at dk2 d1 d2
          obtain ⟨gn, cn, hge⟩ := own_some Hnum.out (by simp)
          simp only [Value.slice.injEq] at hge
          obtain ⟨rfl, -, rfl⟩ := hge
          have hgn : ¬ ¬ F' gn := fun h => h (HnF.out gn rfl)
          have n0 : ∀ w1, Keep (fun b => ¬ F' b) W3 w1 → w1.cell? ⟨gn, 0, none⟩ = some (.int .i64 (n : Int)) := fun w1 k => k.cellx (own_i Hnum.out (i := 0) (x := (n : Int)) rfl) hgn
          have hcl : l.length + 1 ≤ cv ∧ (cv : Int) ≤ 9223372036854775807 := by
            obtain ⟨_, hx | ⟨_, _, _, hx, _, _, hx4, hx5, _⟩⟩ := Hnum.out
            · cases hx.1
            · simp only [Value.slice.injEq] at hx
              unfold maxLen at hx5
              rw [hx.2.2]
              simp only [List.length_cons] at hx4
              exact ⟨hx4, by omega⟩
          rw [HW3.out] at d1 d2
          by_cases hcv : cv = 1
          · subst hcv
            obtain rfl : l = [] := List.eq_nil_of_length_eq_zero (by omega)
            simp only [List.length_nil, Nat.zero_add] at q2 b10' f10' HW3 HBx3 Hnum dk2 d1 d2
            go_wp2
            rw [← HW3.out]
            go_loopw [44] (fun t44 w2 => t44 = .int .i64 0 ∧ w2 = W3) (fun _ _ => 0)
            case atStart => exact ⟨rfl, rfl⟩
            case round =>
              clear d1 d2 dk2 n0
              obtain ⟨rfl, hw2⟩ := hrel
              rw [hw2]
              have HS7 : Hid (ShAt W3 G F g c (t.step c.P (c.me : Nat) (c.k : Nat))) := hid (by rw [Hst1.out]; exact HSat.out.less HgF.out HF1.out)
              go_wp2
              go_roundw
              case rel => exact ⟨_, Hrs.out, HS7.out, HK3.out⟩
              case measure =>
                rw [← Hmu.out]
                exact Nat.lt_of_le_of_lt (shMes_le Hrs.out HS7.out) Hless.out
          · have nj : ∀ (j : Nat) (x : Int), l[j]? = some x → ∀ w1, Keep (fun b => ¬ F' b) W3 w1 → w1.cell? ⟨gn, 1 + j, none⟩ = some (.int .i64 x) := fun j x h w1 k => k.cellx (own_i Hnum.out (i := 1 + j) (x := x) (by rw [Nat.add_comm, List.getElem?_cons_succ]; exact h)) hgn
            go_wp2
            rw [← HW3.out]
            go_loopw [44] (fun t44 w2 => ∃ j : Nat, t44 = .int .i64 (j : Int) ∧ j ≤ l.length ∧ ShAt w2 G F' g c ((l.take j).foldl (SH.comes c.P (c.me : Nat) (c.k : Nat) (n : Int)) s1) ∧ Keep (fun b => ¬ F' b) W3 w2) (fun t44 _ => l.length - (intOf t44).toNat)
            case atStart => exact ⟨0, rfl, Nat.zero_le _, HSat.out, Keep.refl _ _⟩
            case round =>
              clear d1
              obtain ⟨j, rfl, hj, hS5, hK5⟩ := hrel
              have HK5 := hid hK5
              have e2 := dk2 _ hK5
              have e0 := n0 _ hK5
              by_cases hlt : j < l.length
              · obtain ⟨x, hqx⟩ : ∃ x, l[j]? = some x := ⟨_, List.getElem?_eq_getElem hlt⟩
                obtain ⟨hx0, hx1⟩ := Hlo.out x (List.mem_of_getElem? hqx)
                obtain ⟨o, rfl⟩ := Int.eq_ofNat_of_zero_le hx0
                have e1 := nj j (o : Int) hqx _ hK5
                obtain ⟨hokj, hphj⟩ := comes_take (j := j) Hw.out Hn.out Hnm.out Hok1.out Hlo.out
                have Hn2 : Hid ((l.take (j + 1)).foldl (SH.comes c.P (c.me : Nat) (c.k : Nat) (n : Int)) s1 = SH.came c.P (c.me : Nat) (c.k : Nat) ((l.take j).foldl (SH.comes c.P (c.me : Nat) (c.k : Nat) (n : Int)) s1) ((n : Int), (o : Int))) := hid (by rw [List.take_add_one, hqx, List.foldl_append]; rfl)
                have HC := hid (shardcame_any c ((l.take j).foldl (SH.comes c.P (c.me : Nat) (c.k : Nat) (n : Int)) s1) n o _ G F' g hS5 hokj (by have := Hn.out; omega) (by omega) (by have := load_phi ((l.take j).foldl (SH.comes c.P (c.me : Nat) (c.k : Nat) (n : Int)) s1); have := Hph1.out; omega))
                clear hS5 hK5 hqx hx0 hx1 hokj hphj
                go_wp2_with fail
                refine HC.out.mono ?_
                intro z w6 hx
                obtain ⟨rfl, hS6, hK6⟩ := hx
                have HS6 := hid hS6
                have HK6 := hid hK6
                clear hS6 hK6 HC e0 e1 e2
                go_wp2
                go_roundw
                case rel =>
                  refine ⟨j + 1, by go_num, by omega, ?_, ?_⟩
                  · rw [Hn2.out]; exact HS6.out
                  · exact HK5.out.trans HK6.out
                case measure => simp [intOf]; omega
              · obtain rfl : j = l.length := by omega
                rw [List.take_length, ← Hst1.out] at hS5
                have HS7 := hid (hS5.less HgF.out HF1.out)
                have HK7 := hid (HK3.out.trans (HK5.out.mono fun b _ hx hF => hx (HF1.out b hF)))
                clear hS5 hK5 e0 e2
                go_wp2
                go_roundw
                case rel => exact ⟨_, Hrs.out, HS7.out, HK7.out⟩
                case measure =>
                  rw [← Hmu.out]
                  exact Nat.lt_of_le_of_lt (shMes_le Hrs.out HS7.out) Hless.out
        · simp only at hk hxl hto
          subst hk
          subst hxl
          obtain ⟨a, rfl⟩ := Int.eq_ofNat_of_zero_le ha.1
          obtain ⟨b, rfl⟩ := Int.eq_ofNat_of_zero_le hb.1
          simp only [List.length_cons, List.length_nil, Nat.zero_add, Nat.reduceAdd] at q2 b10' f10' HW3 HBx3 Hnum
          have Hok1 : Hid (s1.Ok c.P (c.me : Nat) (c.k : Nat)) := hid (by rw [hs1]; exact todo_ok Hok.out.1 hl)
          have Hph1 : Hid (s1.phi ≤ 600000000) := hid (by
            have h1 := load_phi s1
            have h2 := Hok.out.2
            have h3 := Hph.out
            have h4 : s1.phi ≤ t.phi := by
              rw [hs1]
              unfold SH.phi SH.load
              rw [hl, List.length_cons]
              simp only
              omega
            omega)
          have Hless := hid (step_less Hw.out Hok.out.1 (by rw [hl]; simp)).2
          have Hrs := hid (Hrt.out.step (by rw [hl]; simp))
          have Hstp : Hid (t.step c.P (c.me : Nat) (c.k : Nat) = s1.note c.P (c.me : Nat) (c.k : Nat) ⟨xto, 101, [(a : Int), (b : Int)]⟩) := hid (by unfold SH.step; rw [hl, hs1])
          clear hto hxm hl hs1 hS
          have HSx := hid HS3.out.whole
          have Hwh : Hid (∀ b, F b → b < W3.heap.size ∧ ¬ ShOwn g m1 m2 f1 f2 vt' vo b) := hid fun b hb => ⟨HS3.out.flt b hb, fun q => HS3.out.own b q hb⟩
          have Hnf : Hid (∀ b, (Value.slice av 2 cv).ownBlock = some b → b < W3.heap.size ∧ ¬ ShOwn g m1 m2 f1 f2 vt' vo b) := hid fun b hb => by
            obtain ⟨c', hc⟩ := own_ty Hnum.out hb
            exact ⟨hc.lt, HS3.out.not_own hc (by decide) (by decide)⟩
          have Hbf : Hid (wr.heap.size < W3.heap.size ∧ ¬ ShOwn g m1 m2 f1 f2 vt' vo wr.heap.size) := hid ⟨HBx3.out.lt, Hnew.out⟩
          have HSat : Hid (ShAt W3 G (fun b => b < W3.heap.size ∧ ¬ ShOwn g m1 m2 f1 f2 vt' vo b) g c s1) := hid ⟨_, _, _, _, _, _, _, _, HSx.out⟩
          generalize hF' : (fun b => b < W3.heap.size ∧ ¬ ShOwn g m1 m2 f1 f2 vt' vo b) = F' at HSat
          have HF1 : Hid (∀ b, F b → F' b) := hid fun b hb => by rw [← hF']; exact Hwh.out b hb
          have HnF : Hid (∀ b, (Value.slice av 2 cv).ownBlock = some b → F' b) := hid fun b hb => by rw [← hF']; exact Hnf.out b hb
          have HbF : Hid (F' wr.heap.size) := hid (by rw [← hF']; exact Hbf.out)
          have HgF := hid HS3.out.gf
          clear hF' Hwh Hnf Hbf HSx
          have dk2 := HBx3.out.kc (X := fun b => ¬ F' b) (fun h => h HbF.out) 2 rfl
          have d1 := HBx3.out.av 1 rfl
          simp only [qA0, qA1, qA2] at dk2 d1
          obtain ⟨gn, cn, hge⟩ := own_some Hnum.out (by simp)
          simp only [Value.slice.injEq] at hge
          obtain ⟨rfl, -, rfl⟩ := hge
          have hgn : ¬ ¬ F' gn := fun h => h (HnF.out gn rfl)
          have n0 : ∀ w1, Keep (fun b => ¬ F' b) W3 w1 → w1.cell? ⟨gn, 0, none⟩ = some (.int .i64 (a : Int)) := fun w1 k => k.cellx (own_i Hnum.out (i := 0) (x := (a : Int)) rfl) hgn
          have n1 : ∀ w1, Keep (fun b => ¬ F' b) W3 w1 → w1.cell? ⟨gn, 1, none⟩ = some (.int .i64 (b : Int)) := fun w1 k => k.cellx (own_i Hnum.out (i := 1) (x := (b : Int)) rfl) hgn
          have HJ := fun w5 (x : Ext W3 w5) => hid (shardjoined_any c s1 a b w5 G F' g (HSat.out.ext x) Hok1.out (by omega) (by omega) (by have := load_phi s1; have := Hph1.out; omega))
          have hcl : 2 ≤ cv := by
            obtain ⟨_, hx | ⟨_, _, _, hx, _, _, hx4, _⟩⟩ := Hnum.out
            · cases hx.1
            · simp only [Value.slice.injEq] at hx
              rw [hx.2.2]; exact hx4
          rw [HW3.out] at d1
          go_wp2
          rw [← HW3.out]
          refine wp_flowT (fun b => ¬ F' b) (by kernel_rfl) (by kernel_rfl) ?_
          repeat (apply FlowT.d; (intro w1 hk; unfold does; go_simp; (try go_ints); (first | exact DetR.mk | (simp only [↓IntWalk.iteOmega, Oper.doesUpon_value]; exact DetR.mk) | (simp only [↓IntWalk.iteOmega]; go_simp; (try go_ints); exact DetR.mk))); simp only [Act.put, qS0, qS1, qS2])
          refine FlowT.s (fun v w' => v = .tuple #[] ∧ ShAt w' G F' g c (s1.joined (c.me : Nat) (c.k : Nat) ((a : Int), (b : Int))) ∧ Keep (fun b => ¬ F' b) W3 w') 9 rfl (by kernel_rfl) (fun _ _ _ ⟨h1, h2, h3⟩ y => ⟨h1, h2.ext y, h3.ext_r y⟩) (fun w5 hC hk => ?_) ?_
          · unfold does
            go_simp
            refine CallR.act ((HJ w5 hC).out.mono ?_)
            rintro e w6 ⟨rfl, h2, h3⟩
            exact ⟨_, rfl, hk.trans h3, rfl, h2, (hC.keep _).trans h3⟩
          rintro _ ⟨_, rfl, _, _⟩
          simp only [Act.put, qS0, qS1, qS2]
          refine FlowT.fin fun w7 hC7 hk7 => ?_
          obtain ⟨_, hS7, hK7⟩ := hC7
          have HS7 := hid (hS7.less HgF.out HF1.out)
          have HK7 := hid (HK3.out.trans (hK7.mono fun b _ hx hF => hx (HF1.out b hF)))
          clear hS7 hK7 hk7 dk2 d1 n0 n1 HJ
          go_wp2
          go_roundw
          case rel => exact ⟨_, Hrs.out, by rw [Hstp.out]; exact HS7.out, HK7.out⟩
          case measure =>
            rw [← Hmu.out]
            exact Nat.lt_of_le_of_lt (shMes_le Hrs.out (by rw [Hstp.out]; exact HS7.out)) Hless.out
      · have hvt3 : vt' = .slice (some ⟨gq, off + 3, none⟩) m (cap - 1) := by rw [hvt2, if_neg hc1]
        have HW3 : Hid (W3 = (wr.alloc (.cells #[.int .i64 xto, .int .u8 xk, .slice av xl.length cv] 57)).setCell ⟨g, 10, none⟩ (.slice (some ⟨gq, off + 3, none⟩) m (cap - 1))) := hid (by rw [hW3, hW1, hvt3])
        have hmc : m + 1 ≤ cap := by omega
        have HS3 := hid hcut
        have Hnum : Hid (IRow 0 W3 (.slice av xl.length cv) xl) := hid (by
          rw [hW3]
          refine own_off (own_ext hnum hx1) ((Keep.refl (fun q => q = g) W1).set rfl _) fun b hb => ?_
          rw [hb]; exact off_of (hS.blk.ext hx1) (by decide))
        have HBx3 : Hid (Blk W3 wr.heap.size #[.int .i64 xto, .int .u8 xk, .slice av xl.length cv] 57) := hid (by
          rw [hW3]
          exact hBx.set_ne (fun e => (hS.blk.ext hx1).ty_ne hBx (by decide) e) _)
        have Hnew : Hid (¬ ShOwn g m1 m2 f1 f2 vt' vo wr.heap.size) := hid fun hb => by
          have h1 : ShOwn g m1 m2 f1 f2 (.slice (some ⟨gq, off, none⟩) t.todo.length cap) vo wr.heap.size := by
            rcases hb with hb | hb | hb | hb | hb | hb | hb
            · exact .inl hb
            · exact .inr (.inl hb)
            · exact .inr (.inr (.inl hb))
            · exact .inr (.inr (.inr (.inl hb)))
            · exact .inr (.inr (.inr (.inr (.inl hb))))
            · exact .inr (.inr (.inr (.inr (.inr (.inl (by rw [← hvb]; exact hb))))))
            · exact .inr (.inr (.inr (.inr (.inr (.inr hb)))))
          have := hS.own_lt h1
          omega
        have HK3 : Hid (Keep (fun b => ¬ F b) w W3) := hid (by
          rw [hW3]
          exact (HK.out.ext_r hx1).set (hS.own g (.inl rfl)) _)
        clear hvt hvt2 hvt3 hvb hW1 hx1 hBx hcut hW3 hm hcr hcap hne hnum
        rcases hxi with ⟨hk, n, l, hxl, hn, hto, hlo⟩ | ⟨hk, a, b, hxl, ha, hto, hb⟩
        · simp only at hk hxl hto
          subst hk
          subst hxl
          obtain ⟨n, rfl⟩ := Int.eq_ofNat_of_zero_le hn.1
          simp only [List.length_cons] at q2 b10' f10' HW3 HBx3 Hnum
          have Hok1 : Hid (s1.Ok c.P (c.me : Nat) (c.k : Nat)) := hid (by rw [hs1]; exact todo_ok Hok.out.1 hl)
          have Hph1 : Hid (s1.phi ≤ 600000000) := hid (by
            have h1 := load_phi s1
            have h2 := Hok.out.2
            have h3 := Hph.out
            have h4 : s1.phi ≤ t.phi := by
              rw [hs1]
              unfold SH.phi SH.load
              rw [hl, List.length_cons]
              simp only
              omega
            omega)
          have Hless := hid (step_less Hw.out Hok.out.1 (by rw [hl]; simp)).2
          have Hrs := hid (Hrt.out.step (by rw [hl]; simp))
          have Hstp : Hid (t.step c.P (c.me : Nat) (c.k : Nat) = s1.note c.P (c.me : Nat) (c.k : Nat) ⟨xto, 100, ((n : Int) :: l)⟩) := hid (by unfold SH.step; rw [hl, hs1])
          have Hlo := hid hlo
          have Hn := hid hn
          have Hnm : Hid ((n : Int) % (c.k : Int) = (c.me : Int)) := hid (hto.symm.trans hxm)
          have Hst1 : Hid (t.step c.P (c.me : Nat) (c.k : Nat) = l.foldl (SH.comes c.P (c.me : Nat) (c.k : Nat) (n : Int)) s1) := hid (by rw [Hstp.out]; rfl)
          clear hlo hn hto hxm hl hs1 hS
          have HSx := hid HS3.out.whole
          have Hwh : Hid (∀ b, F b → b < W3.heap.size ∧ ¬ ShOwn g m1 m2 f1 f2 vt' vo b) := hid fun b hb => ⟨HS3.out.flt b hb, fun q => HS3.out.own b q hb⟩
          have Hnf : Hid (∀ b, (Value.slice av (l.length + 1) cv).ownBlock = some b → b < W3.heap.size ∧ ¬ ShOwn g m1 m2 f1 f2 vt' vo b) := hid fun b hb => by
            obtain ⟨c', hc⟩ := own_ty Hnum.out hb
            exact ⟨hc.lt, HS3.out.not_own hc (by decide) (by decide)⟩
          have Hbf : Hid (wr.heap.size < W3.heap.size ∧ ¬ ShOwn g m1 m2 f1 f2 vt' vo wr.heap.size) := hid ⟨HBx3.out.lt, Hnew.out⟩
          have HSat : Hid (ShAt W3 G (fun b => b < W3.heap.size ∧ ¬ ShOwn g m1 m2 f1 f2 vt' vo b) g c s1) := hid ⟨_, _, _, _, _, _, _, _, HSx.out⟩
          generalize hF' : (fun b => b < W3.heap.size ∧ ¬ ShOwn g m1 m2 f1 f2 vt' vo b) = F' at HSat
          have HF1 : Hid (∀ b, F b → F' b) := hid fun b hb => by rw [← hF']; exact Hwh.out b hb
          have HnF : Hid (∀ b, (Value.slice av (l.length + 1) cv).ownBlock = some b → F' b) := hid fun b hb => by rw [← hF']; exact Hnf.out b hb
          have HbF : Hid (F' wr.heap.size) := hid (by rw [← hF']; exact Hbf.out)
          have HgF := hid HS3.out.gf
          clear hF' Hwh Hnf Hbf HSx
          have dk2 := HBx3.out.kc (X := fun b => ¬ F' b) (fun h => h HbF.out) 2 rfl
          have d1 := HBx3.out.av 1 rfl
          have d2 := HBx3.out.av 2 rfl
          simp only [qA0, qA1, qA2] at dk2 d1 d2
          obtain ⟨gn, cn, hge⟩ := own_some Hnum.out (by simp)
          simp only [Value.slice.injEq] at hge
          obtain ⟨rfl, -, rfl⟩ := hge
          have hgn : ¬ ¬ F' gn := fun h => h (HnF.out gn rfl)
          have n0 : ∀ w1, Keep (fun b => ¬ F' b) W3 w1 → w1.cell? ⟨gn, 0, none⟩ = some (.int .i64 (n : Int)) := fun w1 k => k.cellx (own_i Hnum.out (i := 0) (x := (n : Int)) rfl) hgn
          have hcl : l.length + 1 ≤ cv ∧ (cv : Int) ≤ 9223372036854775807 := by
            obtain ⟨_, hx | ⟨_, _, _, hx, _, _, hx4, hx5, _⟩⟩ := Hnum.out
            · cases hx.1
            · simp only [Value.slice.injEq] at hx
              unfold maxLen at hx5
              rw [hx.2.2]
              simp only [List.length_cons] at hx4
              exact ⟨hx4, by omega⟩
          rw [HW3.out] at d1 d2
          by_cases hcv : cv = 1
          · subst hcv
            obtain rfl : l = [] := List.eq_nil_of_length_eq_zero (by omega)
            simp only [List.length_nil, Nat.zero_add] at q2 b10' f10' HW3 HBx3 Hnum dk2 d1 d2
            go_wp2
            rw [← HW3.out]
            go_loopw [44] (fun t44 w2 => t44 = .int .i64 0 ∧ w2 = W3) (fun _ _ => 0)
            case atStart => exact ⟨rfl, rfl⟩
            case round =>
              clear d1 d2 dk2 n0
              obtain ⟨rfl, hw2⟩ := hrel
              rw [hw2]
              have HS7 : Hid (ShAt W3 G F g c (t.step c.P (c.me : Nat) (c.k : Nat))) := hid (by rw [Hst1.out]; exact HSat.out.less HgF.out HF1.out)
              go_wp2
              go_roundw
              case rel => exact ⟨_, Hrs.out, HS7.out, HK3.out⟩
              case measure =>
                rw [← Hmu.out]
                exact Nat.lt_of_le_of_lt (shMes_le Hrs.out HS7.out) Hless.out
          · have nj : ∀ (j : Nat) (x : Int), l[j]? = some x → ∀ w1, Keep (fun b => ¬ F' b) W3 w1 → w1.cell? ⟨gn, 1 + j, none⟩ = some (.int .i64 x) := fun j x h w1 k => k.cellx (own_i Hnum.out (i := 1 + j) (x := x) (by rw [Nat.add_comm, List.getElem?_cons_succ]; exact h)) hgn
            go_wp2
            rw [← HW3.out]
            go_loopw [44] (fun t44 w2 => ∃ j : Nat, t44 = .int .i64 (j : Int) ∧ j ≤ l.length ∧ ShAt w2 G F' g c ((l.take j).foldl (SH.comes c.P (c.me : Nat) (c.k : Nat) (n : Int)) s1) ∧ Keep (fun b => ¬ F' b) W3 w2) (fun t44 _ => l.length - (intOf t44).toNat)
            case atStart => exact ⟨0, rfl, Nat.zero_le _, HSat.out, Keep.refl _ _⟩
            case round =>
              clear d1
              obtain ⟨j, rfl, hj, hS5, hK5⟩ := hrel
              have HK5 := hid hK5
              have e2 := dk2 _ hK5
              have e0 := n0 _ hK5
              by_cases hlt : j < l.length
              · obtain ⟨x, hqx⟩ : ∃ x, l[j]? = some x := ⟨_, List.getElem?_eq_getElem hlt⟩
                obtain ⟨hx0, hx1⟩ := Hlo.out x (List.mem_of_getElem? hqx)
                obtain ⟨o, rfl⟩ := Int.eq_ofNat_of_zero_le hx0
                have e1 := nj j (o : Int) hqx _ hK5
                obtain ⟨hokj, hphj⟩ := comes_take (j := j) Hw.out Hn.out Hnm.out Hok1.out Hlo.out
                have Hn2 : Hid ((l.take (j + 1)).foldl (SH.comes c.P (c.me : Nat) (c.k : Nat) (n : Int)) s1 = SH.came c.P (c.me : Nat) (c.k : Nat) ((l.take j).foldl (SH.comes c.P (c.me : Nat) (c.k : Nat) (n : Int)) s1) ((n : Int), (o : Int))) := hid (by rw [List.take_add_one, hqx, List.foldl_append]; rfl)
                have HC := hid (shardcame_any c ((l.take j).foldl (SH.comes c.P (c.me : Nat) (c.k : Nat) (n : Int)) s1) n o _ G F' g hS5 hokj (by have := Hn.out; omega) (by omega) (by have := load_phi ((l.take j).foldl (SH.comes c.P (c.me : Nat) (c.k : Nat) (n : Int)) s1); have := Hph1.out; omega))
                clear hS5 hK5 hqx hx0 hx1 hokj hphj
                go_wp2_with fail
                refine HC.out.mono ?_
                intro z w6 hx
                obtain ⟨rfl, hS6, hK6⟩ := hx
                have HS6 := hid hS6
                have HK6 := hid hK6
                clear hS6 hK6 HC e0 e1 e2
                go_wp2
                go_roundw
                case rel =>
                  refine ⟨j + 1, by go_num, by omega, ?_, ?_⟩
                  · rw [Hn2.out]; exact HS6.out
                  · exact HK5.out.trans HK6.out
                case measure => simp [intOf]; omega
              · obtain rfl : j = l.length := by omega
                rw [List.take_length, ← Hst1.out] at hS5
                have HS7 := hid (hS5.less HgF.out HF1.out)
                have HK7 := hid (HK3.out.trans (HK5.out.mono fun b _ hx hF => hx (HF1.out b hF)))
                clear hS5 hK5 e0 e2
                go_wp2
                go_roundw
                case rel => exact ⟨_, Hrs.out, HS7.out, HK7.out⟩
                case measure =>
                  rw [← Hmu.out]
                  exact Nat.lt_of_le_of_lt (shMes_le Hrs.out HS7.out) Hless.out
        · simp only at hk hxl hto
          subst hk
          subst hxl
          obtain ⟨a, rfl⟩ := Int.eq_ofNat_of_zero_le ha.1
          obtain ⟨b, rfl⟩ := Int.eq_ofNat_of_zero_le hb.1
          simp only [List.length_cons, List.length_nil, Nat.zero_add, Nat.reduceAdd] at q2 b10' f10' HW3 HBx3 Hnum
          have Hok1 : Hid (s1.Ok c.P (c.me : Nat) (c.k : Nat)) := hid (by rw [hs1]; exact todo_ok Hok.out.1 hl)
          have Hph1 : Hid (s1.phi ≤ 600000000) := hid (by
            have h1 := load_phi s1
            have h2 := Hok.out.2
            have h3 := Hph.out
            have h4 : s1.phi ≤ t.phi := by
              rw [hs1]
              unfold SH.phi SH.load
              rw [hl, List.length_cons]
              simp only
              omega
            omega)
          have Hless := hid (step_less Hw.out Hok.out.1 (by rw [hl]; simp)).2
          have Hrs := hid (Hrt.out.step (by rw [hl]; simp))
          have Hstp : Hid (t.step c.P (c.me : Nat) (c.k : Nat) = s1.note c.P (c.me : Nat) (c.k : Nat) ⟨xto, 101, [(a : Int), (b : Int)]⟩) := hid (by unfold SH.step; rw [hl, hs1])
          clear hto hxm hl hs1 hS
          have HSx := hid HS3.out.whole
          have Hwh : Hid (∀ b, F b → b < W3.heap.size ∧ ¬ ShOwn g m1 m2 f1 f2 vt' vo b) := hid fun b hb => ⟨HS3.out.flt b hb, fun q => HS3.out.own b q hb⟩
          have Hnf : Hid (∀ b, (Value.slice av 2 cv).ownBlock = some b → b < W3.heap.size ∧ ¬ ShOwn g m1 m2 f1 f2 vt' vo b) := hid fun b hb => by
            obtain ⟨c', hc⟩ := own_ty Hnum.out hb
            exact ⟨hc.lt, HS3.out.not_own hc (by decide) (by decide)⟩
          have Hbf : Hid (wr.heap.size < W3.heap.size ∧ ¬ ShOwn g m1 m2 f1 f2 vt' vo wr.heap.size) := hid ⟨HBx3.out.lt, Hnew.out⟩
          have HSat : Hid (ShAt W3 G (fun b => b < W3.heap.size ∧ ¬ ShOwn g m1 m2 f1 f2 vt' vo b) g c s1) := hid ⟨_, _, _, _, _, _, _, _, HSx.out⟩
          generalize hF' : (fun b => b < W3.heap.size ∧ ¬ ShOwn g m1 m2 f1 f2 vt' vo b) = F' at HSat
          have HF1 : Hid (∀ b, F b → F' b) := hid fun b hb => by rw [← hF']; exact Hwh.out b hb
          have HnF : Hid (∀ b, (Value.slice av 2 cv).ownBlock = some b → F' b) := hid fun b hb => by rw [← hF']; exact Hnf.out b hb
          have HbF : Hid (F' wr.heap.size) := hid (by rw [← hF']; exact Hbf.out)
          have HgF := hid HS3.out.gf
          clear hF' Hwh Hnf Hbf HSx
          have dk2 := HBx3.out.kc (X := fun b => ¬ F' b) (fun h => h HbF.out) 2 rfl
          have d1 := HBx3.out.av 1 rfl
          simp only [qA0, qA1, qA2] at dk2 d1
          obtain ⟨gn, cn, hge⟩ := own_some Hnum.out (by simp)
          simp only [Value.slice.injEq] at hge
          obtain ⟨rfl, -, rfl⟩ := hge
          have hgn : ¬ ¬ F' gn := fun h => h (HnF.out gn rfl)
          have n0 : ∀ w1, Keep (fun b => ¬ F' b) W3 w1 → w1.cell? ⟨gn, 0, none⟩ = some (.int .i64 (a : Int)) := fun w1 k => k.cellx (own_i Hnum.out (i := 0) (x := (a : Int)) rfl) hgn
          have n1 : ∀ w1, Keep (fun b => ¬ F' b) W3 w1 → w1.cell? ⟨gn, 1, none⟩ = some (.int .i64 (b : Int)) := fun w1 k => k.cellx (own_i Hnum.out (i := 1) (x := (b : Int)) rfl) hgn
          have HJ := fun w5 (x : Ext W3 w5) => hid (shardjoined_any c s1 a b w5 G F' g (HSat.out.ext x) Hok1.out (by omega) (by omega) (by have := load_phi s1; have := Hph1.out; omega))
          have hcl : 2 ≤ cv := by
            obtain ⟨_, hx | ⟨_, _, _, hx, _, _, hx4, _⟩⟩ := Hnum.out
            · cases hx.1
            · simp only [Value.slice.injEq] at hx
              rw [hx.2.2]; exact hx4
          rw [HW3.out] at d1
          go_wp2
          rw [← HW3.out]
          refine wp_flowT (fun b => ¬ F' b) (by kernel_rfl) (by kernel_rfl) ?_
          repeat (apply FlowT.d; (intro w1 hk; unfold does; go_simp; (try go_ints); (first | exact DetR.mk | (simp only [↓IntWalk.iteOmega, Oper.doesUpon_value]; exact DetR.mk) | (simp only [↓IntWalk.iteOmega]; go_simp; (try go_ints); exact DetR.mk))); simp only [Act.put, qS0, qS1, qS2])
          refine FlowT.s (fun v w' => v = .tuple #[] ∧ ShAt w' G F' g c (s1.joined (c.me : Nat) (c.k : Nat) ((a : Int), (b : Int))) ∧ Keep (fun b => ¬ F' b) W3 w') 9 rfl (by kernel_rfl) (fun _ _ _ ⟨h1, h2, h3⟩ y => ⟨h1, h2.ext y, h3.ext_r y⟩) (fun w5 hC hk => ?_) ?_
          · unfold does
            go_simp
            refine CallR.act ((HJ w5 hC).out.mono ?_)
            rintro e w6 ⟨rfl, h2, h3⟩
            exact ⟨_, rfl, hk.trans h3, rfl, h2, (hC.keep _).trans h3⟩
          rintro _ ⟨_, rfl, _, _⟩
          simp only [Act.put, qS0, qS1, qS2]
          refine FlowT.fin fun w7 hC7 hk7 => ?_
          obtain ⟨_, hS7, hK7⟩ := hC7
          have HS7 := hid (hS7.less HgF.out HF1.out)
          have HK7 := hid (HK3.out.trans (hK7.mono fun b _ hx hF => hx (HF1.out b hF)))
          clear hS7 hK7 hk7 dk2 d1 n0 n1 HJ
          go_wp2
          go_roundw
          case rel => exact ⟨_, Hrs.out, by rw [Hstp.out]; exact HS7.out, HK7.out⟩
          case measure =>
            rw [← Hmu.out]
            exact Nat.lt_of_le_of_lt (shMes_le Hrs.out (by rw [Hstp.out]; exact HS7.out)) Hless.out
section
variable {P : Program} {ops : Array Oper} {X : Nat → Prop} {w0 : World} {Q : Act → World → Prop} {L : List Nat}
theorem Flow.par2j {listed : Array Bool} {C : World → Prop} {a : Act} (i j : Nat) (oi oj : Oper) (hoi : ops[i]? = some oi) (hoj : ops[j]? = some oj) (hij : i ≠ j)
    (hsi : ∀ cs b, oi.op ≠ .select cs b) (hsj : ∀ cs b, oj.op ≠ .select cs b) (hap : oi.apart ops oj = true)
    (r0 : (Region.ready .any ops listed == [i, j]) = true) (r1 : (Region.ready .any ops (listed.setIfInBounds i true) == [j]) = true) (r2 : (Region.ready .any ops (listed.setIfInBounds j true) == [i]) = true)
    (A B : Value → World → Prop) (D : Value → Value → World → Prop) (hC : ∀ w w', C w → Ext w w' → C w') (hA : ∀ v w w', A v w → Ext w w' → A v w') (hB : ∀ v w w', B v w → Ext w w' → B v w') (hD : ∀ u v w w', D u v w → Ext w w' → D u v w')
    (hi : ∀ w, C w → Keep X w0 w → does P ops oi a w (GenR w A)) (hj : ∀ w, C w → Keep X w0 w → does P ops oj a w (GenR w B))
    (hi2 : ∀ vi w, C w → A vi w → Keep X w0 w → does P ops oj a w (GenR w (D vi))) (hj2 : ∀ vj w, C w → B vj w → Keep X w0 w → does P ops oi a w (GenR w fun vi w' => D vi vj w'))
    (k : ∀ vi vj, (∃ w, D vi vj w) → Flow P ops w0 Q X L ((listed.setIfInBounds i true).setIfInBounds j true) (fun w => C w ∧ D vi vj w) ((a.put oi.dst vi).put oj.dst vj)) :
    Flow P ops w0 Q X L listed C a := by
  have hs := Oper.apart_spec hap
  refine Flow.acts [i, j] r0 (by simp) (fun n => if n = i then oi else oj) (fun n v w => C w ∧ if n = i then A v w else B v w) ?_ ?_ ?_
  · intro n v w w' ⟨h1, h2⟩ hx
    refine ⟨hC _ _ h1 hx, ?_⟩
    split
    · rename_i e; rw [if_pos e] at h2; exact hA _ _ _ h2 hx
    · rename_i e; rw [if_neg e] at h2; exact hB _ _ _ h2 hx
  · intro n hn
    rcases (by simpa using hn : n = i ∨ n = j) with rfl | rfl
    · refine ⟨by simpa using hoi, fun w h1 h2 => ?_⟩
      simp only [if_true]
      exact does_mono (hi w h1 h2) fun v w' ⟨hx, hv⟩ => ⟨h2.ext_r hx, hC _ _ h1 hx, by simpa using hv⟩
    · refine ⟨by simpa [Ne.symm hij] using hoj, fun w h1 h2 => ?_⟩
      simp only [Ne.symm hij, if_false]
      exact does_mono (hj w h1 h2) fun v w' ⟨hx, hv⟩ => ⟨h2.ext_r hx, hC _ _ h1 hx, by simpa [Ne.symm hij] using hv⟩
  · intro n hn v hv
    rcases (by simpa using hn : n = i ∨ n = j) with rfl | rfl
    · simp only [if_true] at hv ⊢
      refine Flow.acts [j] r1 (by simp) (fun _ => oj) (fun _ u w => C w ∧ D v u w) (fun _ u w w' ⟨h1, h2⟩ hx => ⟨hC _ _ h1 hx, hD _ _ _ _ h2 hx⟩) ?_ ?_
      · intro m hm
        obtain rfl : m = j := by simpa using hm
        refine ⟨hoj, fun w ⟨h1, h2⟩ h3 => ?_⟩
        rw [does_put hsj hs.1]
        exact does_mono (hi2 v w h1 h2 h3) fun u w' ⟨hx, hu⟩ => ⟨h3.ext_r hx, hC _ _ h1 hx, hu⟩
      · intro m hm u ⟨w2, _, hu⟩
        obtain rfl : m = j := by simpa using hm
        exact k v u ⟨w2, hu⟩
    · simp only [Ne.symm hij, if_false] at hv ⊢
      refine Flow.acts [i] r2 (by simp) (fun _ => oi) (fun _ u w => C w ∧ D u v w) (fun _ u w w' ⟨h1, h2⟩ hx => ⟨hC _ _ h1 hx, hD _ _ _ _ h2 hx⟩) ?_ ?_
      · intro m hm
        obtain rfl : m = i := by simpa using hm
        refine ⟨hoi, fun w ⟨h1, h2⟩ h3 => ?_⟩
        rw [does_put hsi hs.2.2]
        exact does_mono (hj2 v w h1 h2 h3) fun u w' ⟨hx, hu⟩ => ⟨h3.ext_r hx, hC _ _ h1 hx, hu⟩
      · intro m hm u ⟨w2, _, hu⟩
        obtain rfl : m = i := by simpa using hm
        have := k u v ⟨w2, hu⟩
        rw [Array.setIfInBounds_comm _ _ hij, Act.put_comm a u v hs.2.1] at this
        exact this
end
def NewM (w0 : World) (m : Nat) (w : World) : Prop := KMap Tryz.prog 3 (Value.int .i64) w m (fun _ => none) ∧ Stm w m ∧ w0.heap.size ≤ m
theorem NewM.ext {w0 w w' : World} {m : Nat} (h : NewM w0 m w) (x : Ext w w') : NewM w0 m w' := ⟨h.1.ext x, h.2.1.keep (x.keep fun _ => False) fun h => h, h.2.2⟩
theorem NewM.keep {w0 w w' : World} {m : Nat} {X : Nat → Prop} (h : NewM w0 m w) (k : Keep X w w') (hx : ¬ X m) : NewM w0 m w' := ⟨h.1.keep k hx, h.2.1.keep k hx, h.2.2⟩
theorem NewM.made {w0 w : World} (h : Ext w0 w) : NewM w0 w.heap.size (w.alloc (.map #[] 0)) := ⟨KMap.new _ _ _ _, Stm.new _, h.size⟩
structure MkS (w0 w : World) (g m1 m2 : Nat) (cs : Value → Array Value) (vf : Value) (fs : List F2) : Prop where
  ext : Ext w0 w
  blk : Blk w g (cs vf) 121
  map1 : NewM w0 m1 w
  map2 : NewM w0 m2 w
  gg : w0.heap.size ≤ g
  ne : m1 ≠ m2
  funs : w.ownsRow w0.heap.size 79 3 vf fs.length (fs.flatMap F2.cells)
  pars : ∀ x ∈ fs, IRow w0.heap.size w x.v x.f.params
section
variable {w0 w w' : World} {g m1 m2 : Nat} {cs : Value → Array Value} {vf : Value} {fs : List F2}
theorem MkS.xt (h : MkS w0 w g m1 m2 cs vf fs) (x : Ext w w') : MkS w0 w' g m1 m2 cs vf fs :=
  ⟨h.ext.trans x, h.blk.ext x, h.map1.ext x, h.map2.ext x, h.gg, h.ne, own_ext h.funs x, fun y hy => own_ext (h.pars y hy) x⟩
theorem MkS.push (h : MkS w0 w g m1 m2 cs vf fs) (hcs : ∀ u v, (cs u).setIfInBounds 1 v = cs v) (k : Keep (fun q => vf.ownBlock = some q) w w') {x : F2} {vf' : Value} (hr : w'.ownsRow w0.heap.size 79 3 vf' (fs.length + 1) (fs.flatMap F2.cells ++ x.cells)) (hx : IRow w0.heap.size w' x.v x.f.params) :
    MkS w0 (w'.setCell ⟨g, 1, none⟩ vf') g m1 m2 cs vf' (fs ++ [x]) := by
  have hX : ∀ {b : Nat}, vf.ownBlock = some b → ∃ c, Blk w b c 79 := fun hb => own_ty h.funs hb
  have hg : ¬ vf.ownBlock = some g := fun hb => by
    obtain ⟨c', hc⟩ := hX hb
    exact off_of hc (by decide) ⟨_, h.blk⟩
  have k1 := h.blk.keep k hg
  have kg : Keep (fun q => q = g) w' (w'.setCell ⟨g, 1, none⟩ vf') := (Keep.refl (fun q => q = g) w').set rfl _
  have kk : Keep (fun q => q = g ∨ vf.ownBlock = some q) w (w'.setCell ⟨g, 1, none⟩ vf') := (k.mono fun _ _ h => .inr h).set (.inl rfl) _
  have hoff : ∀ {e : TypeId}, 79 ≠ e → 121 ≠ e → ∀ b, (b = g ∨ vf.ownBlock = some b) → ¬ ∃ c, Blk w b c e := fun he1 he2 b hb => hb.elim (fun e => by rw [e]; exact off_of h.blk he2) fun hb => by
    obtain ⟨c', hc⟩ := hX hb
    exact off_of hc he1
  have hmap : ∀ {m : Nat}, NewM w0 m w → ¬ (m = g ∨ vf.ownBlock = some m) := fun hm hb => hb.elim (fun e => hm.1.not_blk (e ▸ h.blk)) fun hb => by
    obtain ⟨c', hc⟩ := hX hb
    exact hm.1.not_blk hc
  refine ⟨Keep.new h.ext kk fun b hb => hb.elim (fun e => e ▸ h.gg) fun e => (World.ownsRow.lt h.funs b e).1, ?_, h.map1.keep kk (hmap h.map1), h.map2.keep kk (hmap h.map2), h.gg, h.ne, ?_, fun y hy => ?_⟩
  · have := k1.set 1 vf'
    rwa [hcs] at this
  · rw [List.length_append, List.length_singleton, List.flatMap_append]
    have e : [x].flatMap F2.cells = x.cells := by simp
    rw [e]
    exact own_off hr kg fun b hb => by rw [hb]; exact off_of k1 (by decide)
  · rcases List.mem_append.1 hy with hy | hy
    · exact own_off (h.pars y hy) kk (hoff (by decide) (by decide))
    · rw [List.mem_singleton.1 hy]
      exact own_off hx kg fun b hb => by rw [hb]; exact off_of k1 (by decide)
end
theorem IntsF.ofRow {w : World} {F : Nat → Prop} {base : Nat} {v : Value} {l : List Int} (h : IRow base w v l) (hF : ∀ b, v.ownBlock = some b → F b) : IntsF w F v l := by
  rcases id h.2 with ⟨h1, h2⟩ | ⟨g', cap, cur, h1, h2, h3, h4, h5, _⟩
  · exact ⟨none, 0, by rw [h1, h2], by omega, by omega, fun h => by omega, fun y hy => by cases hy⟩
  · subst h1
    refine ⟨_, _, rfl, h4, by unfold maxLen at h5; omega, fun _ => ⟨_, rfl⟩, fun y hy h0 => ?_⟩
    obtain rfl := Option.some.inj hy
    refine ⟨hF _ rfl, fun i hi z hz => ?_⟩
    rw [Addr.add_lit, Nat.zero_add]
    exact own_i h hz
theorem IntsF.ofT {w : World} {F : Nat → Prop} {v : Value} {l : List Int} (h : IntsT w v l) (hF : ∀ b, IsInt w b → F b) : IntsF w F v l := by
  obtain ⟨⟨a, cap, h1, h2, h3, h4, h5⟩, hi⟩ := h
  exact ⟨a, cap, h1, h2, h3, h4, fun y hy h0 => ⟨hF _ (hi _ (by rw [h1, hy]; rfl)), (h5 y hy h0).2⟩⟩
theorem FunsF.ofRow {w : World} {F : Nat → Prop} {base : Nat} {v : Value} {fs : List F2} (h : w.ownsRow base 79 3 v fs.length (fs.flatMap F2.cells)) (hp : ∀ x ∈ fs, IntsF w F x.v x.f.params) (hF : ∀ b, v.ownBlock = some b → F b) : FunsF w F v (fs.map F2.f) := by
  rcases id h.2 with ⟨h1, h2⟩ | ⟨g', cap, cur, h1, h2, h3, h4, h5, _⟩
  · exact ⟨none, 0, by rw [h1, List.length_map, h2], by rw [List.length_map]; omega, by omega, fun h => by rw [List.length_map] at h; omega, fun y hy => by cases hy⟩
  · subst h1
    refine ⟨_, _, by rw [List.length_map], by rw [List.length_map]; exact h4, by unfold maxLen at h5; omega, fun _ => ⟨_, rfl⟩, fun y hy h0 => ?_⟩
    obtain rfl := Option.some.inj hy
    refine ⟨hF _ rfl, fun i hi f hf => ?_⟩
    rw [List.getElem?_map] at hf
    obtain ⟨x, hx, rfl⟩ := Option.map_eq_some_iff.1 hf
    have c : ∀ j u, x.cells[j]? = some u → j < 3 → w.cell? ⟨g', i * 3 + j, none⟩ = some u := fun j u hu hj => own_get h _ ((fm_get F2.cells 3 F2.cells_len fs i j x hx hj).trans hu)
    rw [Addr.add_lit, Nat.zero_add, Addr.add_lit, Addr.add_lit]
    exact ⟨x.v, c 0 _ rfl (by omega), c 1 _ rfl (by omega), c 2 _ rfl (by omega), hp x (List.mem_of_getElem? hx)⟩
theorem MkS.sh {w w0 wr : World} {g m1 m2 : Nat} {vv vs vr vf : Value} {P : PP} {me k : Nat} {fs : List F2} {rs : List R2} (h : MkS w0 wr g m1 m2 (fun vf => shCells ⟨P, me, k, vv, vf, vs, vr, rs⟩ m1 m2 (.slice none 0 0) (.slice none 0 0)) vf fs) (hx : Ext w w0) (hf : fs.map F2.f = P.funs) (hw : P.Well) (hr : RulesT wr w.heap.size vr P.rulesV rs) (hrl : ∀ b, vr.ownBlock = some b → b < w0.heap.size) (hm : me < k ∧ k ≤ 6) :
    ShAt wr (fun b => IsInt wr b ∨ (w.heap.size ≤ b ∧ b < wr.heap.size ∧ b ≠ g ∧ b ≠ m1 ∧ b ≠ m2)) (fun b => b < wr.heap.size ∧ b ≠ g ∧ b ≠ m1 ∧ b ≠ m2) g ⟨P, me, k, vv, vf, vs, vr, rs⟩ SH.none := by
  have hs := hx.size
  have hs2 := h.ext.size
  have nb : ∀ {b : Nat} {cs : Array Value} {e : TypeId}, Blk wr b cs e → e ≠ 121 → b ≠ g ∧ b ≠ m1 ∧ b ≠ m2 := fun hb he => ⟨fun e => off_of hb he ⟨_, e ▸ h.blk⟩, fun e => h.map1.1.not_blk (e ▸ hb), fun e => h.map2.1.not_blk (e ▸ hb)⟩
  have ib : ∀ {b : Nat}, IsInt wr b → b ≠ g ∧ b ≠ m1 ∧ b ≠ m2 := fun {b} hb => ⟨fun e => by
    obtain ⟨c', z, hz⟩ := hb
    have := (e ▸ h.blk : Blk wr b _ _).symm.trans hz
    simp at this, fun e => h.map1.1.not_int (e ▸ hb), fun e => h.map2.1.not_int (e ▸ hb)⟩
  refine ⟨m1, m2, fun _ => none, fun _ => none, .slice none 0 0, .slice none 0 0, [], [], h.blk, fun b hb hF => ?_, fun b hb => ?_, fun b hb => hb.1, ⟨hw, ?_, own_low hr.row (Nat.zero_le _), hr.eq, fun b hb => ?_, fun x hx => IntsF.ofT (hr.args x hx) fun b hb => .inl hb, hm⟩, ⟨h.map1.1, fun q ⟨_, hq⟩ => (by cases hq), fun n => .inl ⟨rfl, fun o ho => (by cases ho)⟩, fun _ _ _ _ hq => (by cases hq)⟩, ⟨h.map2.1, fun q ⟨_, hq⟩ => (by cases hq), fun n => .inl ⟨rfl, fun o ho => (by cases ho)⟩, fun _ _ _ _ hq => (by cases hq)⟩, h.ne, fun q ⟨_, hq⟩ => (by cases hq), fun q ⟨_, hq⟩ => (by cases hq), OwnsQ.nil _ _ _ _, rfl, fun _ hx => (by cases hx), OwnsQ.nil _ _ _ _, rfl, fun _ hx => (by cases hx), fun _ hb => (by cases hb)⟩
  · rcases hb with rfl | rfl | rfl | ⟨_, hq⟩ | ⟨_, hq⟩ | hq | hq
    · exact hF.2.1 rfl
    · exact hF.2.2.1 rfl
    · exact hF.2.2.2 rfl
    · cases hq
    · cases hq
    · cases hq
    · cases hq
  · rcases hb with hb | hb
    · exact ⟨hb.lt, ib hb⟩
    · exact hb.2
  · have h1 := FunsF.ofRow (F := fun b => IsInt wr b ∨ (w.heap.size ≤ b ∧ b < wr.heap.size ∧ b ≠ g ∧ b ≠ m1 ∧ b ≠ m2)) h.funs (fun x hx => IntsF.ofRow (h.pars x hx) fun b hb => by
      obtain ⟨c', hc⟩ := own_ty (h.pars x hx) hb
      exact .inl ⟨_, _, hc⟩) fun b hb => by
        obtain ⟨c', hc⟩ := own_ty h.funs hb
        have := World.ownsRow.lt h.funs b hb
        exact .inr ⟨by omega, this.2, nb hc (by decide)⟩
    rw [hf] at h1
    exact h1
  · have h1 := World.ownsRow.lt hr.row b hb
    obtain ⟨c', hc⟩ := own_ty hr.row hb
    exact .inr ⟨h1.1, h1.2, nb hc (by decide)⟩
theorem ext_take {α : Type} {a b : List α} (hl : a.length = b.length) (h : ∀ j, j < a.length → a[j]? = b[j]?) : a = b :=
  List.ext_getElem? fun i => by
    by_cases hi : i < a.length
    · exact h i hi
    · rw [List.getElem?_eq_none (by omega), List.getElem?_eq_none (by omega)]
theorem Made.put {w : World} {base g cap N : Nat} {vs : List Value} {L : List (List Int)} {n : Nat} {v : Value} {l : List Int} (hr : w.ownsRow base 45 1 (.slice (some ⟨g, 0, none⟩) N cap) N vs) (hm : Made w vs L) (hL : L.length = N) (hv : IntsT w v l) (hn : n < N) :
    (w.setCell ⟨g, n, none⟩ v).ownsRow base 45 1 (.slice (some ⟨g, 0, none⟩) N cap) N (vs.set n v) ∧ Made (w.setCell ⟨g, n, none⟩ v) (vs.set n v) (L.set n l) ∧ Keep (fun q => q = g) w (w.setCell ⟨g, n, none⟩ v) := by
  have k : Keep (fun q => q = g) w (w.setCell ⟨g, n, none⟩ v) := Keep.set (X := fun q => q = g) (Keep.refl _ _) rfl _
  have hni : ∀ b, b = g → ¬ IsInt w b := fun b e => by
    subst e
    obtain ⟨c, hc⟩ := own_ty hr (k := b) rfl
    exact notInt hc (by decide)
  have hvs := hm.1
  refine ⟨own_set hr n (by omega) v, ⟨by rw [List.length_set, List.length_set]; exact hvs, fun i u m hu hl => ?_⟩, k⟩
  by_cases hi : n = i
  · subst hi
    rw [List.getElem?_set_self (by omega)] at hu hl
    obtain rfl := Option.some.inj hu
    obtain rfl := Option.some.inj hl
    exact hv.keep k hni
  · rw [List.getElem?_set_ne hi] at hu hl
    exact (hm.2 i u m hu hl).keep k hni
theorem Made.one {w : World} {base g cap N : Nat} {vs : List Value} {S : List (List Int)} (hr : w.ownsRow base 45 1 (.slice (some ⟨g, 0, none⟩) N cap) N vs) (hm : Made w vs S) (hL : S.length = N) {n : Nat} (hn : n < N) : ∃ a c, w.cell? ⟨g, n, none⟩ = some (.slice a (S.getD n []).length c) ∧ IntsR w w.heap.size (.slice a (S.getD n []).length c) (S.getD n []) := by
  have hvs := hm.1
  have h1 : vs[n]? = some (vs[n]'(by omega)) := List.getElem?_eq_getElem (by omega)
  have h2 : S[n]? = some (S[n]'(by omega)) := List.getElem?_eq_getElem (by omega)
  have hT := hm.2 n _ _ h1 h2
  obtain ⟨a, c, ha⟩ := hT.form
  have e : S.getD n [] = S[n]'(by omega) := by rw [List.getD_eq_getElem?_getD, h2]; rfl
  rw [e]
  rw [ha] at h1
  exact ⟨a, c, own_get hr n h1, by rw [← ha]; exact hT.1⟩
theorem first_of {p : Nat → Prop} : ∀ n, p n → ∃ m, p m ∧ ∀ k, k < m → ¬ p k := fun n => by
  induction n using Nat.strongRecOn with
  | _ n ih =>
    intro hn
    rcases Classical.em (∃ k, k < n ∧ p k) with ⟨k, hk, hp⟩ | h
    · exact ih k hk hp
    · exact ⟨n, hn, fun k hk hp => h ⟨k, hk, hp⟩⟩
theorem iter_total {P : PP} (hw : P.Well) : ∀ n, (∀ m, m < n → P.roundV (P.iterV m) ≠ P.iterV m) → n ≤ total (P.iterV n)
  | 0, _ => Nat.zero_le _
  | n + 1, h => by
    have h1 := iter_total hw n fun m hm => h m (by omega)
    have h2 := iter_grows hw n (h n (by omega))
    omega
theorem least_exists {P : PP} (hw : P.Well) : ∃ n S, LeastAt P n S := by
  have h : ∃ n, P.roundV (P.iterV n) = P.iterV n := by
    rcases Classical.em (∃ n, P.roundV (P.iterV n) = P.iterV n) with h | h
    · exact h
    · have h1 := iter_total hw 200000 fun m _ e => h ⟨m, e⟩
      have h2 := iter_few hw 200000
      omega
  obtain ⟨n, hn⟩ := h
  obtain ⟨m, hm, hf⟩ := first_of (p := fun n => P.roundV (P.iterV n) = P.iterV n) n hn
  exact ⟨m, P.iterV m, rfl, hm, hf⟩
theorem LeastAt.few {P : PP} (hw : P.Well) {n : Nat} {S : List (List Int)} (h : LeastAt P n S) : n ≤ 120000 := by
  have h1 := iter_total hw n fun m hm => h.first m hm
  have h2 := iter_few hw n
  omega
theorem made_nil (w : World) (N : Nat) : Made w (List.replicate N (.slice none 0 0)) (List.replicate N []) := by
  refine ⟨by simp, fun i v l hv hl => ?_⟩
  obtain rfl := List.eq_of_mem_replicate (List.mem_of_getElem? hv)
  obtain rfl := List.eq_of_mem_replicate (List.mem_of_getElem? hl)
  exact IntsT.nil w
theorem setok_few {l : List Int} (h : chkE l = 0) (i : Nat) : l.getD i 0 ≤ 9223372036854775807 := by
  rw [List.getD_eq_getElem?_getD]
  cases hx : l[i]? with
  | none => exact (by decide : (0 : Int) ≤ 9223372036854775807)
  | some x =>
    have := (chkE_zero.1 h).1 x (List.mem_of_getElem? hx)
    show x ≤ _
    omega
set_option maxRecDepth 100000 in
set_option maxHeartbeats 1600000 in
theorem samesets_any (va vb : Value) (A B : List (List Int)) (w : World) (n0 : Nat) (ha : SetsR w n0 va A) (hb : SetsR w n0 vb B) (ka : ∀ l ∈ A, chkE l = 0) (kb : ∀ l ∈ B, chkE l = 0) :
    Calls Tryz.prog 82 #[va, vb] w fun e w' => e = .returned (.bool (decide (A = B))) ∧ Ext w w' := by
  have hal := ha.len
  have hbl := hb.len
  have HA := hid ha
  have HB := hid hb
  have HKa := hid ka
  have HKb := hid kb
  obtain ⟨aa, ca, rfl⟩ := ha.form
  obtain ⟨ab, cb, rfl⟩ := hb.form
  clear ha hb ka kb
  by_cases hl : A.length = B.length
  · have Hl := hid hl
    have e0 : ((A.length : Int) != (B.length : Int)) = false := by rw [hl]; simp
    clear hl
    go_enter Tryz.func82, Tryz.ntmps82
    go_wp2
    clear e0
    go_loopw [5] (fun t5 wr => ∃ k : Nat, t5 = .int .i64 (k : Int) ∧ k ≤ A.length ∧ (∀ j, j < k → A[j]? = B[j]?) ∧ Ext w wr) (fun t5 _ => A.length - (intOf t5).toNat)
    case atStart => exact ⟨0, rfl, Nat.zero_le _, fun j h => by omega, Ext.refl _⟩
    case round =>
      obtain ⟨k, rfl, hk, hp, hx⟩ := hrel
      have Hp := hid hp
      have Hx := hid hx
      clear hp hx
      by_cases hlt : k < A.length
      · have hlt2 : k < B.length := by rw [← Hl.out]; exact hlt
        obtain ⟨ya, l, bl, cl, hya, hpk, hcp, hI⟩ := (HA.out.ext Hx.out).at hlt
        subst hya
        obtain ⟨yb, m, bm, cm, hyb, hqk, hcq, hI'⟩ := (HB.out.ext Hx.out).at hlt2
        subst hyb
        have hll := hI.len
        have hml := hI'.len
        have HC := fun w1 (x : Ext wr w1) => hid (sameints_any bl bm l.length m.length cl cm l m w1 (IntsR.ints (hI.old (x.old _)) (setok_few (HKa.out l (List.mem_of_getElem? hpk)))) (IntsR.ints (hI'.old (x.old _)) (setok_few (HKb.out m (List.mem_of_getElem? hqk)))) hll hml)
        have c0 : ∀ w1, Keep (fun _ => False) wr w1 → w1.cell? (ya.add k) = some (.slice bl l.length cl) := fun w1 k => k.ext.cellx hcp
        have c1 : ∀ w1, Keep (fun _ => False) wr w1 → w1.cell? (yb.add k) = some (.slice bm m.length cm) := fun w1 k => k.ext.cellx hcq
        obtain ⟨d, hd⟩ : ∃ d, d = decide (l = m) := ⟨_, rfl⟩
        rw [← hd] at HC
        have Hd := hid hd
        have Hpk := hid hpk
        have Hqk := hid hqk
        clear hpk hqk hI hI' hd hcp hcq
        go_wp2
        refine wp_flowT (fun _ => False) (by kernel_rfl) (by kernel_rfl) ?_
        repeat (apply FlowT.d; (intro w1 hk; unfold does; go_simp; (try go_ints); (first | exact DetR.mk | (simp only [↓IntWalk.iteOmega, Oper.doesUpon_value]; exact DetR.mk) | (simp only [↓IntWalk.iteOmega]; go_simp; (try go_ints); exact DetR.mk))); simp only [Act.put, qS0, qS1, qS2])
        apply FlowT.d
        · intro w1 hk
          unfold does
          go_simp
          exact CallR.det ((HC w1 hk.ext).out)
        simp only [Act.put, qS0, qS1, qS2]
        repeat (apply FlowT.d; (intro w1 hk; unfold does; go_simp; (try go_ints); (first | exact DetR.mk | (simp only [↓IntWalk.iteOmega, Oper.doesUpon_value]; exact DetR.mk) | (simp only [↓IntWalk.iteOmega]; go_simp; (try go_ints); exact DetR.mk))); simp only [Act.put, qS0, qS1, qS2])
        refine FlowT.fin fun w1 hx1 hk1 => ?_
        have Hx1 := hid (Hx.out.trans hx1)
        clear HC hx1 hk1 c0 c1
        cases d with
        | true =>
          have He : Hid (l = m) := hid (of_decide_eq_true Hd.out.symm)
          go_wp2
          go_roundw
          case rel =>
            refine ⟨k + 1, by go_num, by omega, fun j hj => ?_, Hx1.out⟩
            by_cases hjk : j = k
            · subst hjk; rw [Hpk.out, Hqk.out, He.out]
            · exact Hp.out j (by omega)
          case measure => simp [intOf]; omega
        | false =>
          have Hne : Hid (decide (A = B) = false) := hid (decide_eq_false fun h => (of_decide_eq_false Hd.out.symm) (by
            have h1 := Hpk.out
            rw [h] at h1
            exact Option.some.inj (h1.symm.trans Hqk.out)))
          go_wp2
          go_ret
          exact ⟨by rw [Hne.out]; rfl, Hx1.out⟩
      · have Heq : Hid (decide (A = B) = true) := hid (decide_eq_true (ext_take Hl.out fun j hj => Hp.out j (by omega)))
        obtain rfl : k = A.length := by omega
        go_wp2
        go_ret
        exact ⟨by rw [Heq.out]; rfl, Hx.out⟩
  · have e0 : ((A.length : Int) != (B.length : Int)) = true := bne_iff_ne.2 (fun h => hl (Int.ofNat_inj.1 h))
    have Hne : Hid (decide (A = B) = false) := hid (decide_eq_false fun h => hl (by rw [h]))
    clear hl
    go_enter Tryz.func82, Tryz.ntmps82
    go_wp2
    go_ret
    exact ⟨by rw [Hne.out]; rfl, Ext.refl _⟩
def fixedP : PP := ⟨[⟨#[97]⟩, ⟨#[98]⟩], [], [⟨⟨#[97, 100, 100, 114]⟩, 0, 1, []⟩, ⟨⟨#[99, 111, 112, 121]⟩, 1, 0, []⟩]⟩
theorem fixed_well : fixedP.Well := by
  refine ⟨by decide +kernel, fun j t hj ht => ?_⟩
  have hj2 : j < 2 := hj
  rcases (by omega : j = 0 ∨ j = 1) with rfl | rfl
  · obtain rfl := Option.some.inj ht
    decide +kernel
  · obtain rfl := Option.some.inj ht
    decide +kernel
theorem fixed_least : LeastAt fixedP 2 [[1], [1]] := by
  refine ⟨by decide +kernel, by decide +kernel, fun m hm => ?_⟩
  rcases (by omega : m = 0 ∨ m = 1) with rfl | rfl <;> decide +kernel
theorem fixed_nodes : fixedP.nodesV = 2 := by decide +kernel
def fixedS : Array Value := #[.string ⟨#[97, 100, 100, 114]⟩, .int .i64 0, .int .i64 1, .slice none 0 0, .string ⟨#[99, 111, 112, 121]⟩, .int .i64 1, .int .i64 0, .slice none 0 0]
theorem fixed_prog {w : World} {a b n0 : Nat} (ha : Blk w a #[.string ⟨#[97]⟩, .string ⟨#[98]⟩] 9) (hb : Blk w b fixedS 77) (h1 : a < n0) (h2 : b < n0) : ProgR w n0 (.slice (some ⟨a, 0, none⟩) 2 2) (.slice none 0 0) (.slice (some ⟨b, 0, none⟩) 2 2) fixedP := by
  refine ⟨⟨_, 2, rfl, by decide, by decide, fun _ => ⟨_, rfl⟩, fun y hy _ => ?_⟩, ⟨_, 0, rfl, by decide, by decide, fun h => absurd h (by decide), fun y hy => by cases hy⟩, ⟨_, 2, rfl, by decide, by decide, fun _ => ⟨_, rfl⟩, fun y hy _ => ?_⟩⟩
  · obtain rfl := Option.some.inj hy
    refine ⟨h1, fun i hi s hs => ?_⟩
    have hi2 : i < 2 := hi
    rcases (by omega : i = 0 ∨ i = 1) with rfl | rfl
    · obtain rfl := Option.some.inj hs
      exact ha.av 0 rfl
    · obtain rfl := Option.some.inj hs
      exact ha.av 1 rfl
  · obtain rfl := Option.some.inj hy
    refine ⟨h2, fun i hi s hs => ?_⟩
    have hi2 : i < 2 := hi
    have hn : IntsR w n0 (.slice none 0 0) [] := ⟨none, 0, rfl, by decide, by decide, fun h => absurd h (by decide), fun y hy => by cases hy⟩
    rcases (by omega : i = 0 ∨ i = 1) with rfl | rfl
    · obtain rfl := Option.some.inj hs
      exact ⟨.slice none 0 0, hb.av 0 rfl, hb.av 1 rfl, hb.av 2 rfl, hb.av 3 rfl, hn⟩
    · obtain rfl := Option.some.inj hs
      exact ⟨.slice none 0 0, hb.av 4 rfl, hb.av 5 rfl, hb.av 6 rfl, hb.av 7 rfl, hn⟩
end Go.Proofs.YtbagppdibncfdaaGreatDoor
