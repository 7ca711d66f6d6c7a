/- Texts of one proof, put together: ZZYh ZZYj ZZYk ZZYl ZZYp E3 E4 E5 E6 ZZYq ZZYm ZZYn ZZYr ZW. -/
import Derived.Test.YtihdpijgngooaaaGreatDoorHHT02
import Derived.Test.YtihdpijgngooaaaGreatDoorHHT05
import Derived.Test.YtihdpijgngooaaaGreatDoorHHT06
import Derived.Test.YtihdpijgngooaaaGreatDoorHHT07
import Derived.Test.YtihdpijgngooaaaGreatDoorHHT08
import Derived.Test.YtihdpijgngooaaaGreatDoorHHT09
import Derived.Test.YtihdpijgngooaaaGreatDoorHHT10
import Derived.OwnWalk
import Derived.Test.YtihdpijgngooaaaGreatDoorHHT01
set_option linter.unusedSimpArgs false
set_option linter.unusedVariables false
namespace Go.Proofs.YtihdpijgngooaaaGreatDoor
open Go Go.RowKit
theorem edge_load {me k : Int} {s : SH} (e : Int × Int) : (s.edge me k e).load ≤ s.load + 1 := by
  unfold SH.edge
  split
  · omega
  · rw [tell_load]; omega
theorem edges_load {me k : Int} : ∀ (l : List (Int × Int)) {s : SH}, (l.foldl (SH.edge me k) s).load ≤ s.load + l.length
  | [], _ => Nat.le_refl _
  | e :: l, s => by
    have h1 := edges_load (me := me) (k := k) l (s := s.edge me k e)
    have h2 := edge_load (me := me) (k := k) (s := s) e
    rw [List.foldl_cons, List.length_cons]
    omega
set_option maxRecDepth 100000 in
set_option maxHeartbeats 3200000 in
theorem shardfire_b (c : SC) (s : SH) (r : RV) (aa : Option Addr) (ca : Nat) (o : Nat) (w : World) (G F : Nat → Prop) (g : Nat) (hS : ShAt w G F g c s) (ho : o < c.P.objectsV) (ha : IntsF w F (.slice aa r.args.length ca) r.args) (hE : r.fired = true → ∀ e ∈ c.P.fires r (o : Int), EdIn c.P e) (hld : s.load ≤ 800000000) (hkc : (r.kind.toList == [99, 97, 108, 108]) = true) (hin : (c.P.nodesV : Int) ≤ (o : Int)) :
    Calls Tryz.prog 107 #[.pointer (some ⟨g, 0, none⟩), r.val (.slice aa r.args.length ca), .int .i64 (o : Int)] w fun x w' => x = .returned (.tuple #[]) ∧ ShAt w' G F g c (s.fire c.P (c.me : Nat) (c.k : Nat) r (o : Int)) ∧ Keep (fun b => ¬ F b) w w' := by
  have hS0 := hS
  obtain ⟨m1, m2, f1, f2, vt, vo, ts, os, h⟩ := hS
  have hw := h.con.well
  obtain ⟨hn1, hn2⟩ := hw.nodes
  obtain ⟨W, hW⟩ : ∃ W, W = w.alloc (.cells #[.string r.kind, .int .i64 r.a, .int .i64 r.b, .int .i64 r.k, .slice aa r.args.length ca] 90) := ⟨_, rfl⟩
  have HX : Hid (Ext w W) := hid (by rw [hW]; exact (Ext.refl _).alloc _)
  have HBx : Hid (Blk W w.heap.size #[.string r.kind, .int .i64 r.a, .int .i64 r.b, .int .i64 r.k, .slice aa r.args.length ca] 90) := hid (by rw [hW]; exact Blk.new _ _ _)
  have HWe : Hid (W = w.alloc (.cells #[.string r.kind, .int .i64 r.a, .int .i64 r.b, .int .i64 r.k, .slice aa r.args.length ca] 90)) := hid hW
  have HSa := hid (hS0.ext HX.out)
  have HS := hid (h.ext HX.out)
  have HA := hid (ha.keep (HX.out.keep fun _ => False) (fun _ _ h => h) fun _ h => h)
  have al := ha.form
  have hal : (r.args.length : Int) ≤ 9223372036854775807 := by obtain ⟨a, cap, h1, h2, h3, _⟩ := al; omega
  have Hw := hid hw
  have HE := hid hE
  have Hld := hid hld
  have hob : o < 126 := by omega
  have Ho := hid ho
  have m0 := HBx.out.av 0 rfl
  have m1' := HBx.out.av 1 rfl
  have m2' := HBx.out.av 2 rfl
  have b6 := HS.out.blk.av 6 rfl
  simp only [shCells, qA0, qA1, qA2] at m0 m1' m2' b6
  unfold RV.val
  clear hS0 h hW ha al hw hE hld ho
  obtain ⟨N, hN0⟩ : ∃ N, N = o - c.P.nodesV := ⟨_, rfl⟩
  have hN : N < c.P.funs.length := by have := Ho.out; unfold PP.objectsV at this; omega
  have hsub : (o : Int) - (c.P.nodesV : Int) = (N : Int) := by omega
  have hFd := HS.out.con.funs
  obtain ⟨af, cf, hvf, -⟩ := hFd.form
  rw [hvf] at hFd
  obtain ⟨yf, f, afp, cfp, hyf, hfk, e0, e1, e2, hIp⟩ := (FunsF.toR hFd fun b hb => HS.out.flt b (HS.out.gf b hb)).at hN
  have hfm : f ∈ c.P.funs := List.mem_of_getElem? hfk
  have hq4 := called_few Hw.out hfm r
  have hpf := (PP.goodF (PP.funs_ok Hw.out.1) hfm).few
  obtain ⟨q, hq⟩ : ∃ q, q = calledV f r := ⟨_, rfl⟩
  have hfr : c.P.fires r (o : Int) = q := by
    unfold PP.fires kCall
    rw [hkc, cond_true]
    have hfv : c.P.funV (o : Int) = (N : Int) := by
      unfold PP.funV
      rw [if_pos (by omega)]; omega
    unfold PP.callsOf
    rw [hfv, if_pos (by omega), hq]
    show calledV ((c.P.funs.getD N _)) r = _
    rw [List.getD_eq_getElem?_getD, hfk]; rfl
  have Hr : Hid (s.fire c.P (c.me : Nat) (c.k : Nat) r (o : Int) = q.foldl (SH.edge (c.me : Nat) (c.k : Nat)) s) := hid (by
    unfold SH.fire RV.fired kCall
    rw [hfr, hkc, Bool.or_true]; rfl)
  have hfd : r.fired = true := by unfold RV.fired kCall; rw [hkc, Bool.or_true]
  have HSq : Hid (∀ e ∈ q, EdIn c.P e) := hid fun e he => HE.out hfd e (by rw [hfr]; exact he)
  have HCl := fun wx (x : Ext W wx) => hid (conscalled_any f r (.slice afp f.params.length cfp) (.slice aa r.args.length ca) wx W.heap.size (hIp.old (x.old _)) ((HA.out.toR HS.out.flt).old (x.old _)) (by omega))
  rw [← hq] at HCl hq4
  unfold RV.val at HCl
  subst hyf
  have b1 := HS.out.blk.av 1 rfl
  have b1k := HS.out.blk.kc (X := fun _ => False) (fun e => e) 1 rfl
  have b6k := HS.out.blk.kc (X := fun _ => False) (fun e => e) 6 rfl
  have f0 : ∀ wx, Keep (fun _ => False) W wx → wx.cell? (yf.add (N * 3)) = some (.string f.name) := fun wx kk => kk.ext.cellx e0
  have f1' : ∀ wx, Keep (fun _ => False) W wx → wx.cell? ⟨(yf.add (N * 3)).block, (yf.add (N * 3)).off + 1, none⟩ = some (.slice afp f.params.length cfp) := fun wx kk => kk.ext.cellx e1
  have f2' : ∀ wx, Keep (fun _ => False) W wx → wx.cell? ⟨(yf.add (N * 3)).block, (yf.add (N * 3)).off + 2, none⟩ = some (.int .i64 f.ret) := fun wx kk => kk.ext.cellx e2
  have k0 := HBx.out.kc (X := fun _ => False) (fun e => e) 0 rfl
  have k1 := HBx.out.kc (X := fun _ => False) (fun e => e) 1 rfl
  have k2 := HBx.out.kc (X := fun _ => False) (fun e => e) 2 rfl
  have k3 := HBx.out.kc (X := fun _ => False) (fun e => e) 3 rfl
  have k4 := HBx.out.kc (X := fun _ => False) (fun e => e) 4 rfl
  simp only [shCells, qA0, qA1, qA2] at b1 b1k b6k k0 k1 k2 k3 k4
  rw [hvf] at b1 b1k
  have hfl : c.P.funs.length ≤ 1000000 := by have := Hw.out.few; omega
  clear hfk e0 e1 e2 hIp hfm hq hfr hvf hFd hfd hN0
  generalize c.P.nodesV = NN at *
  go_enter Tryz.func107, Tryz.ntmps107
  rw [HWe.out] at m0 m1' m2' b6
  go_wp2
  rw [← HWe.out]
  refine wp_flow (fun _ => False) (by kernel_rfl) (by kernel_rfl) ?_
  apply Flow.d 0 _ rfl (by simp) (by kernel_rfl)
  · intro w1 hk; unfold does; go_simp; (try go_ints); exact DetR.mk
  simp only [qA0, qA1, qA2, Act.put, qS0, qS1, qS2]
  apply Flow.d 1 _ rfl (by simp) (by kernel_rfl)
  · intro w1 hk; unfold does; go_simp; (try go_ints); exact DetR.mk
  simp only [qA0, qA1, qA2, Act.put, qS0, qS1, qS2]
  apply Flow.d 2 _ rfl (by simp) (by kernel_rfl)
  · intro w1 hk; unfold does; go_simp; (try go_ints); exact DetR.mk
  simp only [qA0, qA1, qA2, Act.put, qS0, qS1, qS2]
  apply Flow.d 3 _ rfl (by simp) (by kernel_rfl)
  · intro w1 hk; unfold does; go_simp; (try go_ints); exact DetR.mk
  simp only [qA0, qA1, qA2, Act.put, qS0, qS1, qS2]
  apply Flow.d 4 _ rfl (by simp) (by kernel_rfl)
  · intro w1 hk; unfold does; go_simp; (try go_ints); exact DetR.mk
  simp only [qA0, qA1, qA2, Act.put, qS0, qS1, qS2]
  apply Flow.d 5 _ rfl (by simp) (by kernel_rfl)
  · intro w1 hk; unfold does; go_simp; (try go_ints); exact DetR.mk
  simp only [qA0, qA1, qA2, Act.put, qS0, qS1, qS2]
  apply Flow.d 6 _ rfl (by simp) (by kernel_rfl)
  · intro w1 hk; unfold does; go_simp; (try go_ints); exact DetR.mk
  simp only [qA0, qA1, qA2, Act.put, qS0, qS1, qS2]
  apply Flow.d 7 _ rfl (by simp) (by kernel_rfl)
  · intro w1 hk; unfold does; go_simp; (try go_ints); exact DetR.mk
  simp only [qA0, qA1, qA2, Act.put, qS0, qS1, qS2]
  apply Flow.d 8 _ rfl (by simp) (by kernel_rfl)
  · intro w1 hk; unfold does; go_simp; (try go_ints); exact DetR.mk
  simp only [qA0, qA1, qA2, Act.put, qS0, qS1, qS2]
  apply Flow.d 9 _ rfl (by simp) (by kernel_rfl)
  · intro w1 hk; unfold does; go_simp; (try go_ints); exact DetR.mk
  simp only [qA0, qA1, qA2, Act.put, qS0, qS1, qS2]
  apply Flow.d 10 _ rfl (by simp) (by kernel_rfl)
  · intro w1 hk; unfold does; go_simp; (try go_ints); exact DetR.mk
  simp only [qA0, qA1, qA2, Act.put, qS0, qS1, qS2]
  apply Flow.d 11 _ rfl (by simp) (by kernel_rfl)
  · intro w1 hk; unfold does; go_simp; (try go_ints); exact DetR.mk
  simp only [qA0, qA1, qA2, Act.put, qS0, qS1, qS2]
  apply Flow.d 12 _ rfl (by simp) (by kernel_rfl)
  · intro w1 hk; unfold does; go_simp; (try go_ints); exact DetR.mk
  simp only [qA0, qA1, qA2, Act.put, qS0, qS1, qS2]
  apply Flow.d 13 _ rfl (by simp) (by kernel_rfl)
  · intro w1 hk; unfold does; go_simp; (try go_ints); exact DetR.mk
  simp only [qA0, qA1, qA2, Act.put, qS0, qS1, qS2]
  apply Flow.d 16 _ rfl (by simp) (by kernel_rfl)
  · intro w1 hk; unfold does; go_simp; (try go_ints); exact DetR.mk
  simp only [qA0, qA1, qA2, Act.put, qS0, qS1, qS2]
  refine Flow.one 14 _ rfl (by kernel_rfl) (fun v w' => (∃ a c, v = .slice a q.length c) ∧ ERow w.heap.size w' v q ∧ Ext W w') (fun _ _ _ ⟨h1, h2, h3⟩ y => ⟨h1, h2.ext y, h3.trans y⟩) (fun w2 hC hk2 => ?_) ?_
  · unfold does
    go_simp
    refine CallR.act ((HCl w2 hC).out.mono ?_)
    rintro e w3 ⟨v, rfl, hr, hx⟩
    exact ⟨v, rfl, hk2.trans (hx.keep _), row_form hr, hr.low (HX.out.trans hC).size, hC.trans hx⟩
  rintro _ ⟨_, ⟨a8, c8, rfl⟩, _, _⟩
  simp only [qA0, qA1, qA2, Act.put, qS0, qS1, qS2]
  apply Flow.d 15 _ rfl (by simp) (by kernel_rfl)
  · intro w1 hk; unfold does; go_simp; (try go_ints); exact DetR.mk
  simp only [qA0, qA1, qA2, Act.put, qS0, qS1, qS2]
  refine Flow.fin (by kernel_rfl) fun w4 hC4 hk4 => ?_
  obtain ⟨_, h5, h6⟩ := hC4
  have Hx4 := hid (HX.out.trans h6)
  have H5 := hid h5
  have HS4 : Hid (ShAt w4 G (fun b => F b ∨ (W.heap.size ≤ b ∧ b < w4.heap.size)) g c s) := hid (HSa.out.frz h6)
  have Hrf : Hid (∀ b, (Value.slice a8 q.length c8).ownBlock = some b → F b ∨ (W.heap.size ≤ b ∧ b < w4.heap.size)) := hid fun b hb => by
    have h1 := World.ownsRow.lt h5 b hb
    rcases Nat.lt_or_ge b W.heap.size with g1 | g1
    · exact .inr ⟨by
        have h2 : W.heap.size = w.heap.size + 1 := by rw [HWe.out, heap_size_alloc]
        have h3 : b ≠ w.heap.size := by
          rintro rfl
          obtain ⟨c', hc⟩ := own_ty h5 hb
          exact (HBx.out.ext h6).ty_ne hc (by decide) rfl
        omega, h1.2⟩
    · exact .inr ⟨g1, h1.2⟩
  have HGF := hid HS.out.gf
  clear h5 h6 hk4 HCl f0 f1' f2' b1 b1k b6k k0 k1 k2 k3 k4 m0 m1' m2' b6 HS
  generalize hF' : (fun b => F b ∨ (W.heap.size ≤ b ∧ b < w4.heap.size)) = F' at HS4
  have HF1 : Hid (∀ b, F b → F' b) := hid fun b hb => by rw [← hF']; exact .inl hb
  have HrF : Hid (∀ b, (Value.slice a8 q.length c8).ownBlock = some b → F' b) := hid fun b hb => by rw [← hF']; exact Hrf.out b hb
  clear hF' Hrf
  go_wp2
  go_loopw [36] (fun t36 wr => ∃ k : Nat, t36 = .int .i64 (k : Int) ∧ k ≤ q.length ∧ ShAt wr G F' g c ((q.take k).foldl (SH.edge (c.me : Nat) (c.k : Nat)) s) ∧ ERow w.heap.size wr (.slice a8 q.length c8) q ∧ Keep (fun b => ¬ F b) w wr) (fun t36 _ => q.length - (intOf t36).toNat)
  case atStart => exact ⟨0, rfl, Nat.zero_le _, HS4.out, H5.out, Hx4.out.keep _⟩
  case round =>
    obtain ⟨k, rfl, hk, hS, hR, hK⟩ := hrel
    have HR := hid hR
    have HK := hid hK
    by_cases hlt : k < q.length
    · obtain ⟨x, hqx⟩ : ∃ x, q[k]? = some x := ⟨_, List.getElem?_eq_getElem hlt⟩
      obtain ⟨g8, cp8, hge⟩ := own_some hR (by omega)
      simp only [Value.slice.injEq] at hge
      obtain ⟨rfl, -, rfl⟩ := hge
      obtain ⟨q0, q1⟩ := own_e2 hR hqx
      obtain ⟨⟨k1, k2⟩, k3, k4⟩ := HSq.out x (List.mem_of_getElem? hqx)
      have Hn : Hid ((q.take (k + 1)).foldl (SH.edge (c.me : Nat) (c.k : Nat)) s = SH.edge (c.me : Nat) (c.k : Nat) ((q.take k).foldl (SH.edge (c.me : Nat) (c.k : Nat)) s) x) := hid (by rw [List.take_add_one, hqx, List.foldl_append]; rfl)
      obtain ⟨x1, x2⟩ := x
      simp only at q0 q1 k1 k2 k3 k4
      obtain ⟨i, rfl⟩ := Int.eq_ofNat_of_zero_le k1
      obtain ⟨j, rfl⟩ := Int.eq_ofNat_of_zero_le k3
      obtain ⟨wA, hwA⟩ : ∃ wA, wA = wr.alloc (.cells #[.int .i64 (i : Int), .int .i64 (j : Int)] 95) := ⟨_, rfl⟩
      have hxA : Ext wr wA := by rw [hwA]; exact (Ext.refl _).alloc _
      have HxA := hid hxA
      have hload : ((q.take k).foldl (SH.edge (c.me : Nat) (c.k : Nat)) s).load ≤ 900000000 := by
        have h1 := edges_load (me := (c.me : Nat)) (k := (c.k : Nat)) (q.take k) (s := s)
        rw [List.length_take] at h1
        have := Hld.out
        omega
      have hnv := Hw.out.nodes
      have HE2 := hid (shardedge_any c ((q.take k).foldl (SH.edge (c.me : Nat) (c.k : Nat)) s) i j wA G F' g (hS.ext hxA) (by omega) (by omega) hload)
      have HwA := hid hwA
      clear hS hR hK hqx k1 k2 k3 k4 hxA hwA hload hnv
      go_wp2_with fail
      rw [← HwA.out]
      refine HE2.out.mono ?_
      intro z w5 hx
      obtain ⟨rfl, hS5, hK5⟩ := hx
      have HS5 := hid hS5
      have HK5 := hid hK5
      clear hS5 hK5 HE2 q0 q1
      go_wp2
      go_roundw
      case rel =>
        refine ⟨k + 1, by go_num, by omega, ?_, ?_, ?_⟩
        · rw [Hn.out]; exact HS5.out
        · exact row_keep (HR.out.ext HxA.out) HK5.out fun b hb hx => hx (HrF.out b hb)
        · exact (HK.out.ext_r HxA.out).trans (HK5.out.mono fun b _ hx hF => hx (HF1.out b hF))
      case measure => simp [intOf]; omega
    · obtain rfl : k = q.length := by omega
      rw [List.take_length] at hS
      have HSz := hid (hS.less HGF.out HF1.out)
      clear hS hR hK
      go_wp2
      go_end0
      exact ⟨rfl, by rw [Hr.out]; exact HSz.out, HK.out⟩
theorem shardfire_any (c : SC) (s : SH) (r : RV) (aa : Option Addr) (ca : Nat) (o : Nat) (w : World) (G F : Nat → Prop) (g : Nat) (hS : ShAt w G F g c s) (ho : o < c.P.objectsV) (ha : IntsF w F (.slice aa r.args.length ca) r.args) (hE : r.fired = true → ∀ e ∈ c.P.fires r (o : Int), EdIn c.P e) (hld : s.load ≤ 800000000) :
    Calls Tryz.prog 107 #[.pointer (some ⟨g, 0, none⟩), r.val (.slice aa r.args.length ca), .int .i64 (o : Int)] w fun x w' => x = .returned (.tuple #[]) ∧ ShAt w' G F g c (s.fire c.P (c.me : Nat) (c.k : Nat) r (o : Int)) ∧ Keep (fun b => ¬ F b) w w' := by
  cases hkc : (r.kind.toList == [99, 97, 108, 108]) with
  | true =>
    by_cases hin : (o : Int) < (c.P.nodesV : Int)
    · exact shardfire_a c s r aa ca o w G F g hS ho ha hE hld hkc hin
    · exact shardfire_b c s r aa ca o w G F g hS ho ha hE hld hkc (by omega)
  | false =>
  cases hkl : (r.kind.toList == [108, 111, 97, 100]) with
  | true =>
    by_cases hin : (o : Int) < (c.P.nodesV : Int)
    · exact shardfire_c c s r aa ca o w G F g hS ho ha hE hld hkc hkl hin
    · exact shardfire_d c s r aa ca o w G F g hS ho ha hE hld hkc hkl (by omega)
  | false =>
  cases hks : (r.kind.toList == [115, 116, 111, 114, 101]) with
  | true =>
    by_cases hin : (o : Int) < (c.P.nodesV : Int)
    · exact shardfire_e c s r aa ca o w G F g hS ho ha hE hld hkc hkl hks hin
    · exact shardfire_f c s r aa ca o w G F g hS ho ha hE hld hkc hkl hks (by omega)
  | false => exact shardfire_g c s r aa ca o w G F g hS ho ha hE hld hkc hkl hks
theorem asks_load {P : PP} {me k : Int} (hw : P.Well) (s : SH) {f : Int × Int} (h1 : 0 ≤ f.1 ∧ f.1 < P.nodesV) (h2 : 0 ≤ f.2 ∧ f.2 < P.objectsV) (j : Nat) : ((P.rulesV.take j).foldl (SH.ask P me k f) s).load ≤ s.load + 320 := by
  have hl := rulesV_len P
  have hf := hw.few
  have h := (fold_adds (SH.ask P me k f) 4 (P.rulesV.take j) s fun r hr u => ask_adds (me := me) (k := k) hw u h1 h2 (List.mem_of_mem_take hr)).load
  rw [List.length_take] at h
  have : 4 * min j P.rulesV.length ≤ 4 * 80 := by omega
  omega
set_option maxRecDepth 100000 in
set_option maxHeartbeats 12800000 in
theorem shardcame_any (c : SC) (s : SH) (a b : Nat) (w : World) (G F : Nat → Prop) (g : Nat) (hS : ShAt w G F g c s) (hok : s.Ok c.P (c.me : Nat) (c.k : Nat)) (ha : a < c.P.nodesV) (hb : b < c.P.objectsV) (hld : s.load ≤ 700000000) :
    Calls Tryz.prog 81 #[.pointer (some ⟨g, 0, none⟩), .int .i64 (a : Int), .int .i64 (b : Int)] w fun x w' => x = .returned (.tuple #[]) ∧ ShAt w' G F g c (s.came c.P (c.me : Nat) (c.k : Nat) ((a : Int), (b : Int))) ∧ Keep (fun b => ¬ F b) w w' := by
  have hS0 := hS
  obtain ⟨m1, m2, f1, f2, vt, vo, ts, os, h⟩ := hS
  have hnn := h.con.well.nodes
  have ha' : a < 126 := by omega
  have hb' : b < 126 := by omega
  have Hn126 := hid (hok.nxt126 h.con.well)
  have Hw := hid h.con.well
  have Han := hid ha
  have Hbo := hid hb
  obtain ⟨v, hv, l1, l2⟩ := h.mm1.look2 (b := (a : Int)) (a := (b : Int)) (by omega) (by omega)
  have HS := hid h
  have HSa := hid hS0
  have Hld := hid hld
  have b8a := h.blk.av 8 rfl
  simp only [shCells, qA0, qA1, qA2] at b8a
  clear hS0 hok hld hnn
  by_cases hm : ((a : Int), (b : Int)) ∈ s.has
  · have Hr : Hid (s.came c.P (c.me : Nat) (c.k : Nat) ((a : Int), (b : Int)) = s) := hid (by rw [came_eq, if_pos hm])
    rw [decide_eq_true hm] at l2
    clear hm h hv ha hb
    go_enter Tryz.func81, Tryz.ntmps81
    go_wp2
    refine bodyPost_ret (v := .tuple #[]) (results_none (by kernel_rfl) _ _ _) rfl ?_
    exact ⟨rfl, by rw [Hr.out]; exact HSa.out, Keep.refl _ _⟩
  · rw [decide_eq_false hm] at l2
    have Hce : Hid (s.came c.P (c.me : Nat) (c.k : Nat) ((a : Int), (b : Int)) = c.P.rulesV.foldl (SH.ask c.P (c.me : Nat) (c.k : Nat) ((a : Int), (b : Int))) (s.sent (c.me : Nat) (c.k : Nat) ((a : Int), (b : Int)))) := hid (by rw [came_eq, if_neg hm])
    clear hm ha hb HSa
    rcases h.mm1.val (a : Int) with ⟨g1, -⟩ | ⟨q, g1, -, -⟩
    · rw [g1] at hv
      simp only [Option.getD_none, Value.map.injEq] at hv
      subst hv
      obtain ⟨w2, hup, hM2, hI2, hK2⟩ := room_run h.mm1 g1 (by omega)
      have HS2 := hid (h.setHas hK2 hM2 hI2)
      have HK2 : Hid (Keep (fun b => ¬ F b) w w2) := hid (hK2.mono fun q _ hq => hq.elim (fun e => h.own q (.inr (.inl e))) fun hi => h.own q (.inr (.inr (.inr (.inl hi)))))
      have hmm := @run_makeMap Tryz.prog
      have heq := shmmEql_none
      have Hf2 : Hid ((fun l => if l = (a : Int) then some (.map (some w.heap.size)) else f1 l) (a : Int) = some (Value.map (some w.heap.size))) := hid (by simp)
      generalize (fun l => if l = (a : Int) then some (.map (some w.heap.size)) else f1 l) = f1' at HS2 Hf2
      clear h g1 hM2 hI2 hK2
      go_enter Tryz.func81, Tryz.ntmps81
      have hfx := Hf2.out
      obtain ⟨Kq, Sq⟩ := HS2.out.mm1.at hfx
      have l3 := HS2.out.mm1.look1 (b := (a : Int)) (by omega)
      rw [hfx] at l3
      simp only [Option.getD_some] at l3
      obtain ⟨w3, hput, hk3, hs3, hkp3⟩ := run_kmap_put_stm Tryz.underlying99 Kq Sq (k := (b : Int)) (by omega) (.bool true)
      obtain ⟨hM3, hkp⟩ := HS2.out.mm1.put hfx hk3 hs3 hkp3
      have HS3 := hid (HS2.out.setHas hkp hM3 fun q hq => .inl hq)
      have HK3 : Hid (Keep (fun b => ¬ F b) w w3) := hid (HK2.out.trans (hkp.mono fun q _ hq => hq.elim (fun e => HS2.out.own q (.inr (.inl e))) fun hi => HS2.out.own q (.inr (.inr (.inr (.inl hi))))))
      have l4 := HS3.out.mm2.look1 (b := (a : Int)) (by omega)
      have HKy := hid (shardkeys_any (a : Int) w3 HS3.out.mm2 Hn126.out)
      obtain ⟨vk, hvk⟩ : ∃ vk, vk = (f2 (a : Int)).getD (.map none) := ⟨_, rfl⟩
      rw [← hvk] at l4 HKy
      have b8 := HS2.out.blk.av 8 rfl
      have b9 := HS3.out.blk.av 9 rfl
      simp only [shCells, qA0, qA1, qA2] at b9 b8
      clear hfx Kq Sq hk3 hs3 hkp3 hM3 hkp hvk
      go_wp2_with fail
      refine HKy.out.mono ?_
      intro e w4 hx
      obtain ⟨v4, rfl, hr4, hx4⟩ := hx
      have Hfl : Hid ((keysL s.nxt (a : Int)).foldl (SH.sendTo (c.me : Nat) (c.k : Nat) (b : Int)) { s with has := s.has ++ [((a : Int), (b : Int))] } = s.sent (c.me : Nat) (c.k : Nat) ((a : Int), (b : Int))) := hid rfl
      have Hin : Hid (∀ o ∈ keysL s.nxt (a : Int), 0 ≤ o ∧ o < 126) := hid fun o ho => (keysL_in ho).2
      have hlen := keysL_few s.nxt (a : Int)
      generalize keysL s.nxt (a : Int) = L at hr4 Hfl Hin hlen
      obtain ⟨av, cv, rfl⟩ := row_form hr4
      have HS4 : Hid (ShAt w4 G (fun b => F b ∨ (w3.heap.size ≤ b ∧ b < w4.heap.size)) g c { s with has := s.has ++ [((a : Int), (b : Int))] }) := hid (ShAt.frz ⟨_, _, _, _, _, _, _, _, HS3.out⟩ hx4)
      have Hrf : Hid (∀ q, (Value.slice av L.length cv).ownBlock = some q → F q ∨ (w3.heap.size ≤ q ∧ q < w4.heap.size)) := hid fun q hq => .inr (hr4.lt hq)
      have HR4 := hid hr4
      have HK4 := hid (HK3.out.ext_r hx4)
      have HGF := hid HS3.out.gf
      obtain ⟨s1, hs1⟩ : ∃ s1 : SH, s1 = { s with has := s.has ++ [((a : Int), (b : Int))] } := ⟨_, rfl⟩
      have Hld1 : Hid (s1.load ≤ 700000000) := hid (by rw [hs1]; exact Hld.out)
      rw [← hs1] at HS4 Hfl
      generalize hF' : (fun b => F b ∨ (w3.heap.size ≤ b ∧ b < w4.heap.size)) = F' at HS4
      have HF1 : Hid (∀ b, F b → F' b) := hid fun b hb => by rw [← hF']; exact .inl hb
      have HrF : Hid (∀ b, (Value.slice av L.length cv).ownBlock = some b → F' b) := hid fun b hb => by rw [← hF']; exact Hrf.out b hb
      clear HKy hr4 hx4 l3 l4 hput b9 b8 HS3 HK3 Hrf hF' hs1
      go_wp2
      go_loopw [47] (fun t47 wr => ∃ j : Nat, t47 = .int .i64 (j : Int) ∧ j ≤ L.length ∧ ShAt wr G F' g c ((L.take j).foldl (SH.sendTo (c.me : Nat) (c.k : Nat) (b : Int)) s1) ∧ IRow w3.heap.size wr (.slice av L.length cv) L ∧ Keep (fun b => ¬ F b) w wr) (fun t47 _ => L.length - (intOf t47).toNat)
      case atStart => exact ⟨0, rfl, Nat.zero_le _, HS4.out, HR4.out, HK4.out⟩
      case round =>
        obtain ⟨j, rfl, hj, hS5, hR5, hK5⟩ := hrel
        have HR5 := hid hR5
        have HK5 := hid hK5
        by_cases hlt : j < L.length
        · obtain ⟨x, hqx⟩ : ∃ x, L[j]? = some x := ⟨_, List.getElem?_eq_getElem hlt⟩
          obtain ⟨g8, cp8, hge⟩ := own_some hR5 (by omega)
          simp only [Value.slice.injEq] at hge
          obtain ⟨rfl, -, rfl⟩ := hge
          have q0 := own_i hR5 hqx
          obtain ⟨hx0, hx1⟩ := Hin.out x (List.mem_of_getElem? hqx)
          obtain ⟨o, rfl⟩ := Int.eq_ofNat_of_zero_le hx0
          have Hn : Hid ((L.take (j + 1)).foldl (SH.sendTo (c.me : Nat) (c.k : Nat) (b : Int)) s1 = SH.tell (c.me : Nat) (c.k : Nat) ((L.take j).foldl (SH.sendTo (c.me : Nat) (c.k : Nat) (b : Int)) s1) (o : Nat) 100 [(o : Int), (b : Int)]) := hid (by rw [List.take_add_one, hqx, List.foldl_append]; rfl)
          have hl5 : ((L.take j).foldl (SH.sendTo (c.me : Nat) (c.k : Nat) (b : Int)) s1).load ≤ 900000000 := by
            rw [sendsTo_load, List.length_take]
            have := Hld1.out
            omega
          obtain ⟨wA, hwA⟩ : ∃ wA, wA = wr.alloc (.cells #[.int .i64 (o : Int), .int .i64 (b : Int)] 3) := ⟨_, rfl⟩
          have hxA : Ext wr wA := by rw [hwA]; exact (Ext.refl _).alloc _
          have HxA := hid hxA
          have hrow : IRow 0 wA (.slice (some ⟨wr.heap.size, 0, none⟩) 2 2) [(o : Int), (b : Int)] := by
            rw [hwA]
            exact irow_two wr o b
          have HT := hid (shardtell_any c ((L.take j).foldl (SH.sendTo (c.me : Nat) (c.k : Nat) (b : Int)) s1) o 100 [(o : Int), (b : Int)] _ wA G F' g (hS5.ext hxA) hrow (by omega) hl5)
          have HwA := hid hwA
          clear hS5 hR5 hK5 hqx hx0 hx1 hxA hwA hl5 hrow
          go_wp2_with fail
          rw [← HwA.out]
          refine HT.out.mono ?_
          intro z w6 hx
          obtain ⟨rfl, hS6, hK6⟩ := hx
          have HS6 := hid hS6
          have HK6 := hid hK6
          clear hS6 hK6 HT q0
          go_wp2
          go_roundw
          case rel =>
            refine ⟨j + 1, by go_num, by omega, ?_, ?_, ?_⟩
            · rw [Hn.out]; exact HS6.out
            · exact row_keep (own_ext HR5.out HxA.out) HK6.out fun b hb hx => hx (HrF.out b hb)
            · exact (HK5.out.ext_r HxA.out).trans (HK6.out.mono fun b _ hx hF => hx (HF1.out b hF))
          case measure => simp [intOf]; omega
        · obtain rfl : j = L.length := by omega
          rw [List.take_length, Hfl.out] at hS5
          have hl2 : (s.sent (c.me : Nat) (c.k : Nat) ((a : Int), (b : Int))).load ≤ 700000200 := by
            rw [← Hfl.out, sendsTo_load]
            have := Hld1.out
            omega
          have HS2 := hid (hS5.less HGF.out HF1.out)
          have Hc2 := Hce
          generalize s.sent (c.me : Nat) (c.k : Nat) ((a : Int), (b : Int)) = s2 at HS2 hl2 Hc2
          have Hl2 := hid hl2
          have HK2 := hid hK5
          clear hS5 hR5 hK5 hl2 HS4 HR4 HK4 HF1 HrF
          obtain ⟨m1b, m2b, f1b, f2b, vtb, vob, tsb, osb, hh⟩ := HS2.out
          have b3 := hh.blk.av 3 rfl
          simp only [shCells, qA0, qA1, qA2] at b3
          obtain ⟨ar, cr, hvr⟩ := row_form hh.con.rrow
          rw [hvr] at b3
          have hR80 : c.P.rulesV.length ≤ 80 := by have := Hw.out.few; rw [rulesV_len]; omega
          have hRe : Hid (c.P.rulesV.length = c.rs.length) := hid (by rw [← hh.con.req, List.length_map])
          have Hvr := hid hvr
          clear hh hvr
          go_wp2
          go_loopw [63] (fun t63 wr => ∃ j : Nat, t63 = .int .i64 (j : Int) ∧ j ≤ c.P.rulesV.length ∧ ShAt wr G F g c ((c.P.rulesV.take j).foldl (SH.ask c.P (c.me : Nat) (c.k : Nat) ((a : Int), (b : Int))) s2) ∧ Keep (fun b => ¬ F b) w wr) (fun t63 _ => c.P.rulesV.length - (intOf t63).toNat)
          case atStart => exact ⟨0, rfl, Nat.zero_le _, HS2.out, HK2.out⟩
          case round =>
            clear b3
            obtain ⟨j, rfl, hj, hS9, hK9⟩ := hrel
            have HK9 := hid hK9
            by_cases hlt : j < c.P.rulesV.length
            · obtain ⟨T0, hT0⟩ : ∃ T0, T0 = (c.P.rulesV.take j).foldl (SH.ask c.P (c.me : Nat) (c.k : Nat) ((a : Int), (b : Int))) s2 := ⟨_, rfl⟩
              rw [← hT0] at hS9
              have HS9 := hid hS9
              obtain ⟨m1', m2', f1', f2', vt', vo', ts', os', hh⟩ := hS9
              have hrr := hh.con.rrow
              rw [Hvr.out] at hrr
              obtain ⟨gr, cr', hge⟩ := own_some hrr (by omega)
              simp only [Value.slice.injEq] at hge
              obtain ⟨rfl, -, rfl⟩ := hge
              obtain ⟨x, hxk⟩ : ∃ x, c.rs[j]? = some x := ⟨_, List.getElem?_eq_getElem (by rw [← hRe.out]; exact hlt)⟩
              obtain ⟨q0, q1, q2, q3, q4⟩ := own_r hrr hxk
              have hI := hh.con.rargs x (List.mem_of_getElem? hxk)
              obtain ⟨aa, ca, hav, -⟩ := hI.form
              have hsk : c.P.rulesV[j]? = some x.r := by rw [← hh.con.req, List.getElem?_map, hxk]; rfl
              have hgf := hh.gf
              obtain ⟨r, xv⟩ := x
              simp only at hav q0 q1 q2 q3 q4 hI hsk
              subst hav
              have Hrv : Hid (r ∈ c.P.rulesV) := hid (List.mem_of_getElem? hsk)
              have Hn : Hid ((c.P.rulesV.take (j + 1)).foldl (SH.ask c.P (c.me : Nat) (c.k : Nat) ((a : Int), (b : Int))) s2 = SH.ask c.P (c.me : Nat) (c.k : Nat) ((a : Int), (b : Int)) T0 r) := hid (by rw [List.take_add_one, hsk, List.foldl_append, hT0]; rfl)
              have Hl9 : Hid (T0.load ≤ 800000000) := hid (by
                rw [hT0]
                have := asks_load (me := (c.me : Nat)) (k := (c.k : Nat)) Hw.out s2 (f := ((a : Int), (b : Int))) (by have := Han.out; simp only; omega) (by have := Hbo.out; simp only; omega) j
                have := Hl2.out
                omega)
              have HA9 := hid (hI.keep (Keep.refl (fun _ => False) wr) (fun _ _ h => h) fun b hb => hgf b hb)
              obtain ⟨V, hV⟩ : ∃ V, V = wr.alloc (.cells #[.string r.kind, .int .i64 r.a, .int .i64 r.b, .int .i64 r.k, .slice aa r.args.length ca] 90) := ⟨_, rfl⟩
              have HVe := hid hV
              have HVx : Hid (Ext wr V) := hid (by rw [hV]; exact (Ext.refl _).alloc _)
              have hBr : Blk V wr.heap.size #[.string r.kind, .int .i64 r.a, .int .i64 r.b, .int .i64 r.k, .slice aa r.args.length ca] 90 := by rw [hV]; exact Blk.new _ _ _
              have m0 := hBr.av 0 rfl
              have m1' := hBr.av 1 rfl
              have m2' := hBr.av 2 rfl
              have m3' := hBr.av 3 rfl
              have m4' := hBr.av 4 rfl
              simp only [qA0, qA1, qA2] at m0 m1' m2' m3' m4'
              rw [hV] at m0 m1' m2' m3' m4'
              have hal : (r.args.length : Int) ≤ 9223372036854775807 := by obtain ⟨_, cap, h1, h2, h3, _⟩ := hI.form; omega
              clear hh hrr hxk hI hsk hV hT0 hgf hBr hK9
              cases hks : (r.kind.toList == [115, 116, 111, 114, 101]) with
              | true =>
                have hpv : r.pivot = r.b := by unfold RV.pivot kStore; rw [hks]; rfl
                by_cases hp : r.b = (a : Int)
                · have hpb : (r.b == (a : Int)) = true := by simpa using hp
                  have hpv2 : r.pivot = (a : Int) := hpv.trans hp
                  have Hn2 : Hid ((c.P.rulesV.take (j + 1)).foldl (SH.ask c.P (c.me : Nat) (c.k : Nat) ((a : Int), (b : Int))) s2 = SH.fire c.P (c.me : Nat) (c.k : Nat) T0 r (b : Int)) := hid (by rw [Hn.out]; unfold SH.ask; rw [if_pos hpv2])
                  have HFi := hid (shardfire_any c T0 r aa ca b V G F g (HS9.out.ext HVx.out) Hbo.out (HA9.out.keep (HVx.out.keep fun _ => False) (fun _ _ h => h) fun _ h => h) (fun hf e he => fires_ed Hw.out Hrv.out hf (by have := Hbo.out; omega) (by rw [hpv2]; have := Han.out; omega) he) Hl9.out)
                  unfold RV.val at HFi
                  clear hp hpv2 hpv
                  go_wp2_with fail
                  rw [← HVe.out]
                  refine HFi.out.mono ?_
                  intro z w6 hx
                  obtain ⟨rfl, hS6, hK6⟩ := hx
                  have HS6 := hid hS6
                  have HK6 := hid hK6
                  clear hS6 hK6 HFi q0 q1 q2 q3 q4 m0 m1' m2' m3' m4'
                  go_wp2
                  go_roundw
                  case rel =>
                    refine ⟨j + 1, by go_num, by omega, ?_, ?_⟩
                    · rw [Hn2.out]; exact HS6.out
                    · exact (HK9.out.ext_r HVx.out).trans HK6.out
                  case measure => simp [intOf]; omega
                · have hpb : (r.b == (a : Int)) = false := beq_eq_false_iff_ne.2 hp
                  have hpv2 : ¬ r.pivot = (a : Int) := fun e => hp (hpv.symm.trans e)
                  have Hn2 : Hid ((c.P.rulesV.take (j + 1)).foldl (SH.ask c.P (c.me : Nat) (c.k : Nat) ((a : Int), (b : Int))) s2 = T0) := hid (by rw [Hn.out]; unfold SH.ask; rw [if_neg hpv2])
                  clear hp hpv2 hpv
                  go_wp2
                  rw [← HVe.out]
                  go_roundw
                  case rel =>
                    refine ⟨j + 1, by go_num, by omega, ?_, ?_⟩
                    · rw [Hn2.out]; exact HS9.out.ext HVx.out
                    · exact HK9.out.ext_r HVx.out
                  case measure => simp [intOf]; omega
              | false =>
                have hpv : r.pivot = r.a := by unfold RV.pivot kStore; rw [hks]; rfl
                by_cases hp : r.a = (a : Int)
                · have hpb : (r.a == (a : Int)) = true := by simpa using hp
                  have hpv2 : r.pivot = (a : Int) := hpv.trans hp
                  have Hn2 : Hid ((c.P.rulesV.take (j + 1)).foldl (SH.ask c.P (c.me : Nat) (c.k : Nat) ((a : Int), (b : Int))) s2 = SH.fire c.P (c.me : Nat) (c.k : Nat) T0 r (b : Int)) := hid (by rw [Hn.out]; unfold SH.ask; rw [if_pos hpv2])
                  have HFi := hid (shardfire_any c T0 r aa ca b V G F g (HS9.out.ext HVx.out) Hbo.out (HA9.out.keep (HVx.out.keep fun _ => False) (fun _ _ h => h) fun _ h => h) (fun hf e he => fires_ed Hw.out Hrv.out hf (by have := Hbo.out; omega) (by rw [hpv2]; have := Han.out; omega) he) Hl9.out)
                  unfold RV.val at HFi
                  clear hp hpv2 hpv
                  go_wp2_with fail
                  rw [← HVe.out]
                  refine HFi.out.mono ?_
                  intro z w6 hx
                  obtain ⟨rfl, hS6, hK6⟩ := hx
                  have HS6 := hid hS6
                  have HK6 := hid hK6
                  clear hS6 hK6 HFi q0 q1 q2 q3 q4 m0 m1' m2' m3' m4'
                  go_wp2
                  go_roundw
                  case rel =>
                    refine ⟨j + 1, by go_num, by omega, ?_, ?_⟩
                    · rw [Hn2.out]; exact HS6.out
                    · exact (HK9.out.ext_r HVx.out).trans HK6.out
                  case measure => simp [intOf]; omega
                · have hpb : (r.a == (a : Int)) = false := beq_eq_false_iff_ne.2 hp
                  have hpv2 : ¬ r.pivot = (a : Int) := fun e => hp (hpv.symm.trans e)
                  have Hn2 : Hid ((c.P.rulesV.take (j + 1)).foldl (SH.ask c.P (c.me : Nat) (c.k : Nat) ((a : Int), (b : Int))) s2 = T0) := hid (by rw [Hn.out]; unfold SH.ask; rw [if_neg hpv2])
                  clear hp hpv2 hpv
                  go_wp2
                  rw [← HVe.out]
                  go_roundw
                  case rel =>
                    refine ⟨j + 1, by go_num, by omega, ?_, ?_⟩
                    · rw [Hn2.out]; exact HS9.out.ext HVx.out
                    · exact HK9.out.ext_r HVx.out
                  case measure => simp [intOf]; omega
            · obtain rfl : j = c.P.rulesV.length := by omega
              rw [List.take_length, ← Hc2.out] at hS9
              have HS9 := hid hS9
              clear hS9 hK9
              go_wp2
              go_end0
              exact ⟨rfl, HS9.out, HK9.out⟩
    · rw [g1] at hv
      simp only [Option.getD_some, Value.map.injEq] at hv
      subst hv
      have heq := shmmEql_some
      have Hf2 := hid g1
      clear h g1
      go_enter Tryz.func81, Tryz.ntmps81
      have hfx := Hf2.out
      obtain ⟨Kq, Sq⟩ := HS.out.mm1.at hfx
      have l3 := HS.out.mm1.look1 (b := (a : Int)) (by omega)
      rw [hfx] at l3
      simp only [Option.getD_some] at l3
      obtain ⟨w3, hput, hk3, hs3, hkp3⟩ := run_kmap_put_stm Tryz.underlying99 Kq Sq (k := (b : Int)) (by omega) (.bool true)
      obtain ⟨hM3, hkp⟩ := HS.out.mm1.put hfx hk3 hs3 hkp3
      have HS3 := hid (HS.out.setHas hkp hM3 fun q hq => .inl hq)
      have HK3 : Hid (Keep (fun b => ¬ F b) w w3) := hid ((Keep.refl (fun b => ¬ F b) w).trans (hkp.mono fun q _ hq => hq.elim (fun e => HS.out.own q (.inr (.inl e))) fun hi => HS.out.own q (.inr (.inr (.inr (.inl hi))))))
      have l4 := HS3.out.mm2.look1 (b := (a : Int)) (by omega)
      have HKy := hid (shardkeys_any (a : Int) w3 HS3.out.mm2 Hn126.out)
      obtain ⟨vk, hvk⟩ : ∃ vk, vk = (f2 (a : Int)).getD (.map none) := ⟨_, rfl⟩
      rw [← hvk] at l4 HKy
      have b8 := HS.out.blk.av 8 rfl
      have b9 := HS3.out.blk.av 9 rfl
      simp only [shCells, qA0, qA1, qA2] at b9 b8
      clear hfx Kq Sq hk3 hs3 hkp3 hM3 hkp hvk
      go_wp2_with fail
      refine HKy.out.mono ?_
      intro e w4 hx
      obtain ⟨v4, rfl, hr4, hx4⟩ := hx
      have Hfl : Hid ((keysL s.nxt (a : Int)).foldl (SH.sendTo (c.me : Nat) (c.k : Nat) (b : Int)) { s with has := s.has ++ [((a : Int), (b : Int))] } = s.sent (c.me : Nat) (c.k : Nat) ((a : Int), (b : Int))) := hid rfl
      have Hin : Hid (∀ o ∈ keysL s.nxt (a : Int), 0 ≤ o ∧ o < 126) := hid fun o ho => (keysL_in ho).2
      have hlen := keysL_few s.nxt (a : Int)
      generalize keysL s.nxt (a : Int) = L at hr4 Hfl Hin hlen
      obtain ⟨av, cv, rfl⟩ := row_form hr4
      have HS4 : Hid (ShAt w4 G (fun b => F b ∨ (w3.heap.size ≤ b ∧ b < w4.heap.size)) g c { s with has := s.has ++ [((a : Int), (b : Int))] }) := hid (ShAt.frz ⟨_, _, _, _, _, _, _, _, HS3.out⟩ hx4)
      have Hrf : Hid (∀ q, (Value.slice av L.length cv).ownBlock = some q → F q ∨ (w3.heap.size ≤ q ∧ q < w4.heap.size)) := hid fun q hq => .inr (hr4.lt hq)
      have HR4 := hid hr4
      have HK4 := hid (HK3.out.ext_r hx4)
      have HGF := hid HS3.out.gf
      obtain ⟨s1, hs1⟩ : ∃ s1 : SH, s1 = { s with has := s.has ++ [((a : Int), (b : Int))] } := ⟨_, rfl⟩
      have Hld1 : Hid (s1.load ≤ 700000000) := hid (by rw [hs1]; exact Hld.out)
      rw [← hs1] at HS4 Hfl
      generalize hF' : (fun b => F b ∨ (w3.heap.size ≤ b ∧ b < w4.heap.size)) = F' at HS4
      have HF1 : Hid (∀ b, F b → F' b) := hid fun b hb => by rw [← hF']; exact .inl hb
      have HrF : Hid (∀ b, (Value.slice av L.length cv).ownBlock = some b → F' b) := hid fun b hb => by rw [← hF']; exact Hrf.out b hb
      clear HKy hr4 hx4 l3 l4 hput b9 b8 HS3 HK3 Hrf hF' hs1
      go_wp2
      go_loopw [47] (fun t47 wr => ∃ j : Nat, t47 = .int .i64 (j : Int) ∧ j ≤ L.length ∧ ShAt wr G F' g c ((L.take j).foldl (SH.sendTo (c.me : Nat) (c.k : Nat) (b : Int)) s1) ∧ IRow w3.heap.size wr (.slice av L.length cv) L ∧ Keep (fun b => ¬ F b) w wr) (fun t47 _ => L.length - (intOf t47).toNat)
      case atStart => exact ⟨0, rfl, Nat.zero_le _, HS4.out, HR4.out, HK4.out⟩
      case round =>
        obtain ⟨j, rfl, hj, hS5, hR5, hK5⟩ := hrel
        have HR5 := hid hR5
        have HK5 := hid hK5
        by_cases hlt : j < L.length
        · obtain ⟨x, hqx⟩ : ∃ x, L[j]? = some x := ⟨_, List.getElem?_eq_getElem hlt⟩
          obtain ⟨g8, cp8, hge⟩ := own_some hR5 (by omega)
          simp only [Value.slice.injEq] at hge
          obtain ⟨rfl, -, rfl⟩ := hge
          have q0 := own_i hR5 hqx
          obtain ⟨hx0, hx1⟩ := Hin.out x (List.mem_of_getElem? hqx)
          obtain ⟨o, rfl⟩ := Int.eq_ofNat_of_zero_le hx0
          have Hn : Hid ((L.take (j + 1)).foldl (SH.sendTo (c.me : Nat) (c.k : Nat) (b : Int)) s1 = SH.tell (c.me : Nat) (c.k : Nat) ((L.take j).foldl (SH.sendTo (c.me : Nat) (c.k : Nat) (b : Int)) s1) (o : Nat) 100 [(o : Int), (b : Int)]) := hid (by rw [List.take_add_one, hqx, List.foldl_append]; rfl)
          have hl5 : ((L.take j).foldl (SH.sendTo (c.me : Nat) (c.k : Nat) (b : Int)) s1).load ≤ 900000000 := by
            rw [sendsTo_load, List.length_take]
            have := Hld1.out
            omega
          obtain ⟨wA, hwA⟩ : ∃ wA, wA = wr.alloc (.cells #[.int .i64 (o : Int), .int .i64 (b : Int)] 3) := ⟨_, rfl⟩
          have hxA : Ext wr wA := by rw [hwA]; exact (Ext.refl _).alloc _
          have HxA := hid hxA
          have hrow : IRow 0 wA (.slice (some ⟨wr.heap.size, 0, none⟩) 2 2) [(o : Int), (b : Int)] := by
            rw [hwA]
            exact irow_two wr o b
          have HT := hid (shardtell_any c ((L.take j).foldl (SH.sendTo (c.me : Nat) (c.k : Nat) (b : Int)) s1) o 100 [(o : Int), (b : Int)] _ wA G F' g (hS5.ext hxA) hrow (by omega) hl5)
          have HwA := hid hwA
          clear hS5 hR5 hK5 hqx hx0 hx1 hxA hwA hl5 hrow
          go_wp2_with fail
          rw [← HwA.out]
          refine HT.out.mono ?_
          intro z w6 hx
          obtain ⟨rfl, hS6, hK6⟩ := hx
          have HS6 := hid hS6
          have HK6 := hid hK6
          clear hS6 hK6 HT q0
          go_wp2
          go_roundw
          case rel =>
            refine ⟨j + 1, by go_num, by omega, ?_, ?_, ?_⟩
            · rw [Hn.out]; exact HS6.out
            · exact row_keep (own_ext HR5.out HxA.out) HK6.out fun b hb hx => hx (HrF.out b hb)
            · exact (HK5.out.ext_r HxA.out).trans (HK6.out.mono fun b _ hx hF => hx (HF1.out b hF))
          case measure => simp [intOf]; omega
        · obtain rfl : j = L.length := by omega
          rw [List.take_length, Hfl.out] at hS5
          have hl2 : (s.sent (c.me : Nat) (c.k : Nat) ((a : Int), (b : Int))).load ≤ 700000200 := by
            rw [← Hfl.out, sendsTo_load]
            have := Hld1.out
            omega
          have HS2 := hid (hS5.less HGF.out HF1.out)
          have Hc2 := Hce
          generalize s.sent (c.me : Nat) (c.k : Nat) ((a : Int), (b : Int)) = s2 at HS2 hl2 Hc2
          have Hl2 := hid hl2
          have HK2 := hid hK5
          clear hS5 hR5 hK5 hl2 HS4 HR4 HK4 HF1 HrF
          obtain ⟨m1b, m2b, f1b, f2b, vtb, vob, tsb, osb, hh⟩ := HS2.out
          have b3 := hh.blk.av 3 rfl
          simp only [shCells, qA0, qA1, qA2] at b3
          obtain ⟨ar, cr, hvr⟩ := row_form hh.con.rrow
          rw [hvr] at b3
          have hR80 : c.P.rulesV.length ≤ 80 := by have := Hw.out.few; rw [rulesV_len]; omega
          have hRe : Hid (c.P.rulesV.length = c.rs.length) := hid (by rw [← hh.con.req, List.length_map])
          have Hvr := hid hvr
          clear hh hvr
          go_wp2
          go_loopw [63] (fun t63 wr => ∃ j : Nat, t63 = .int .i64 (j : Int) ∧ j ≤ c.P.rulesV.length ∧ ShAt wr G F g c ((c.P.rulesV.take j).foldl (SH.ask c.P (c.me : Nat) (c.k : Nat) ((a : Int), (b : Int))) s2) ∧ Keep (fun b => ¬ F b) w wr) (fun t63 _ => c.P.rulesV.length - (intOf t63).toNat)
          case atStart => exact ⟨0, rfl, Nat.zero_le _, HS2.out, HK2.out⟩
          case round =>
            clear b3
            obtain ⟨j, rfl, hj, hS9, hK9⟩ := hrel
            have HK9 := hid hK9
            by_cases hlt : j < c.P.rulesV.length
            · obtain ⟨T0, hT0⟩ : ∃ T0, T0 = (c.P.rulesV.take j).foldl (SH.ask c.P (c.me : Nat) (c.k : Nat) ((a : Int), (b : Int))) s2 := ⟨_, rfl⟩
              rw [← hT0] at hS9
              have HS9 := hid hS9
              obtain ⟨m1', m2', f1', f2', vt', vo', ts', os', hh⟩ := hS9
              have hrr := hh.con.rrow
              rw [Hvr.out] at hrr
              obtain ⟨gr, cr', hge⟩ := own_some hrr (by omega)
              simp only [Value.slice.injEq] at hge
              obtain ⟨rfl, -, rfl⟩ := hge
              obtain ⟨x, hxk⟩ : ∃ x, c.rs[j]? = some x := ⟨_, List.getElem?_eq_getElem (by rw [← hRe.out]; exact hlt)⟩
              obtain ⟨q0, q1, q2, q3, q4⟩ := own_r hrr hxk
              have hI := hh.con.rargs x (List.mem_of_getElem? hxk)
              obtain ⟨aa, ca, hav, -⟩ := hI.form
              have hsk : c.P.rulesV[j]? = some x.r := by rw [← hh.con.req, List.getElem?_map, hxk]; rfl
              have hgf := hh.gf
              obtain ⟨r, xv⟩ := x
              simp only at hav q0 q1 q2 q3 q4 hI hsk
              subst hav
              have Hrv : Hid (r ∈ c.P.rulesV) := hid (List.mem_of_getElem? hsk)
              have Hn : Hid ((c.P.rulesV.take (j + 1)).foldl (SH.ask c.P (c.me : Nat) (c.k : Nat) ((a : Int), (b : Int))) s2 = SH.ask c.P (c.me : Nat) (c.k : Nat) ((a : Int), (b : Int)) T0 r) := hid (by rw [List.take_add_one, hsk, List.foldl_append, hT0]; rfl)
              have Hl9 : Hid (T0.load ≤ 800000000) := hid (by
                rw [hT0]
                have := asks_load (me := (c.me : Nat)) (k := (c.k : Nat)) Hw.out s2 (f := ((a : Int), (b : Int))) (by have := Han.out; simp only; omega) (by have := Hbo.out; simp only; omega) j
                have := Hl2.out
                omega)
              have HA9 := hid (hI.keep (Keep.refl (fun _ => False) wr) (fun _ _ h => h) fun b hb => hgf b hb)
              obtain ⟨V, hV⟩ : ∃ V, V = wr.alloc (.cells #[.string r.kind, .int .i64 r.a, .int .i64 r.b, .int .i64 r.k, .slice aa r.args.length ca] 90) := ⟨_, rfl⟩
              have HVe := hid hV
              have HVx : Hid (Ext wr V) := hid (by rw [hV]; exact (Ext.refl _).alloc _)
              have hBr : Blk V wr.heap.size #[.string r.kind, .int .i64 r.a, .int .i64 r.b, .int .i64 r.k, .slice aa r.args.length ca] 90 := by rw [hV]; exact Blk.new _ _ _
              have m0 := hBr.av 0 rfl
              have m1' := hBr.av 1 rfl
              have m2' := hBr.av 2 rfl
              have m3' := hBr.av 3 rfl
              have m4' := hBr.av 4 rfl
              simp only [qA0, qA1, qA2] at m0 m1' m2' m3' m4'
              rw [hV] at m0 m1' m2' m3' m4'
              have hal : (r.args.length : Int) ≤ 9223372036854775807 := by obtain ⟨_, cap, h1, h2, h3, _⟩ := hI.form; omega
              clear hh hrr hxk hI hsk hV hT0 hgf hBr hK9
              cases hks : (r.kind.toList == [115, 116, 111, 114, 101]) with
              | true =>
                have hpv : r.pivot = r.b := by unfold RV.pivot kStore; rw [hks]; rfl
                by_cases hp : r.b = (a : Int)
                · have hpb : (r.b == (a : Int)) = true := by simpa using hp
                  have hpv2 : r.pivot = (a : Int) := hpv.trans hp
                  have Hn2 : Hid ((c.P.rulesV.take (j + 1)).foldl (SH.ask c.P (c.me : Nat) (c.k : Nat) ((a : Int), (b : Int))) s2 = SH.fire c.P (c.me : Nat) (c.k : Nat) T0 r (b : Int)) := hid (by rw [Hn.out]; unfold SH.ask; rw [if_pos hpv2])
                  have HFi := hid (shardfire_any c T0 r aa ca b V G F g (HS9.out.ext HVx.out) Hbo.out (HA9.out.keep (HVx.out.keep fun _ => False) (fun _ _ h => h) fun _ h => h) (fun hf e he => fires_ed Hw.out Hrv.out hf (by have := Hbo.out; omega) (by rw [hpv2]; have := Han.out; omega) he) Hl9.out)
                  unfold RV.val at HFi
                  clear hp hpv2 hpv
                  go_wp2_with fail
                  rw [← HVe.out]
                  refine HFi.out.mono ?_
                  intro z w6 hx
                  obtain ⟨rfl, hS6, hK6⟩ := hx
                  have HS6 := hid hS6
                  have HK6 := hid hK6
                  clear hS6 hK6 HFi q0 q1 q2 q3 q4 m0 m1' m2' m3' m4'
                  go_wp2
                  go_roundw
                  case rel =>
                    refine ⟨j + 1, by go_num, by omega, ?_, ?_⟩
                    · rw [Hn2.out]; exact HS6.out
                    · exact (HK9.out.ext_r HVx.out).trans HK6.out
                  case measure => simp [intOf]; omega
                · have hpb : (r.b == (a : Int)) = false := beq_eq_false_iff_ne.2 hp
                  have hpv2 : ¬ r.pivot = (a : Int) := fun e => hp (hpv.symm.trans e)
                  have Hn2 : Hid ((c.P.rulesV.take (j + 1)).foldl (SH.ask c.P (c.me : Nat) (c.k : Nat) ((a : Int), (b : Int))) s2 = T0) := hid (by rw [Hn.out]; unfold SH.ask; rw [if_neg hpv2])
                  clear hp hpv2 hpv
                  go_wp2
                  rw [← HVe.out]
                  go_roundw
                  case rel =>
                    refine ⟨j + 1, by go_num, by omega, ?_, ?_⟩
                    · rw [Hn2.out]; exact HS9.out.ext HVx.out
                    · exact HK9.out.ext_r HVx.out
                  case measure => simp [intOf]; omega
              | false =>
                have hpv : r.pivot = r.a := by unfold RV.pivot kStore; rw [hks]; rfl
                by_cases hp : r.a = (a : Int)
                · have hpb : (r.a == (a : Int)) = true := by simpa using hp
                  have hpv2 : r.pivot = (a : Int) := hpv.trans hp
                  have Hn2 : Hid ((c.P.rulesV.take (j + 1)).foldl (SH.ask c.P (c.me : Nat) (c.k : Nat) ((a : Int), (b : Int))) s2 = SH.fire c.P (c.me : Nat) (c.k : Nat) T0 r (b : Int)) := hid (by rw [Hn.out]; unfold SH.ask; rw [if_pos hpv2])
                  have HFi := hid (shardfire_any c T0 r aa ca b V G F g (HS9.out.ext HVx.out) Hbo.out (HA9.out.keep (HVx.out.keep fun _ => False) (fun _ _ h => h) fun _ h => h) (fun hf e he => fires_ed Hw.out Hrv.out hf (by have := Hbo.out; omega) (by rw [hpv2]; have := Han.out; omega) he) Hl9.out)
                  unfold RV.val at HFi
                  clear hp hpv2 hpv
                  go_wp2_with fail
                  rw [← HVe.out]
                  refine HFi.out.mono ?_
                  intro z w6 hx
                  obtain ⟨rfl, hS6, hK6⟩ := hx
                  have HS6 := hid hS6
                  have HK6 := hid hK6
                  clear hS6 hK6 HFi q0 q1 q2 q3 q4 m0 m1' m2' m3' m4'
                  go_wp2
                  go_roundw
                  case rel =>
                    refine ⟨j + 1, by go_num, by omega, ?_, ?_⟩
                    · rw [Hn2.out]; exact HS6.out
                    · exact (HK9.out.ext_r HVx.out).trans HK6.out
                  case measure => simp [intOf]; omega
                · have hpb : (r.a == (a : Int)) = false := beq_eq_false_iff_ne.2 hp
                  have hpv2 : ¬ r.pivot = (a : Int) := fun e => hp (hpv.symm.trans e)
                  have Hn2 : Hid ((c.P.rulesV.take (j + 1)).foldl (SH.ask c.P (c.me : Nat) (c.k : Nat) ((a : Int), (b : Int))) s2 = T0) := hid (by rw [Hn.out]; unfold SH.ask; rw [if_neg hpv2])
                  clear hp hpv2 hpv
                  go_wp2
                  rw [← HVe.out]
                  go_roundw
                  case rel =>
                    refine ⟨j + 1, by go_num, by omega, ?_, ?_⟩
                    · rw [Hn2.out]; exact HS9.out.ext HVx.out
                    · exact HK9.out.ext_r HVx.out
                  case measure => simp [intOf]; omega
            · obtain rfl : j = c.P.rulesV.length := by omega
              rw [List.take_length, ← Hc2.out] at hS9
              have HS9 := hid hS9
              clear hS9 hK9
              go_wp2
              go_end0
              exact ⟨rfl, HS9.out, HK9.out⟩
inductive Runs (P : PP) (me k : Int) (s : SH) : SH → Prop
  | refl : Runs P me k s s
  | step {t : SH} : Runs P me k s t → t.todo ≠ [] → Runs P me k s (t.step P me k)
theorem Runs.ok {P : PP} {me k : Int} {s t : SH} (hw : P.Well) (h : Runs P me k s t) (hs : s.Ok P me k) : t.Ok P me k ∧ t.phi ≤ s.phi := by
  induction h with
  | refl => exact ⟨hs, Nat.le_refl _⟩
  | step _ hne ih =>
    obtain ⟨g1, g2⟩ := step_less hw ih.1 hne
    exact ⟨g1, Nat.le_trans (Nat.le_of_lt g2) ih.2⟩
theorem Runs.keeps {P : PP} {me k : Int} {s t : SH} (h : Runs P me k s t) (I : SH → Prop) (hI : ∀ u, I u → u.todo ≠ [] → I (u.step P me k)) (hs : I s) : I t := by
  induction h with
  | refl => exact hs
  | step _ hne ih => exact hI _ ih hne
theorem least_num (p : Nat → Prop) (h : ∃ n, p n) : ∃ m, p m ∧ ∀ k, p k → m ≤ k := by
  obtain ⟨n, hn⟩ := h
  induction n using Nat.strongRecOn with
  | ind n ih =>
    by_cases hm : ∃ m, m < n ∧ p m
    · obtain ⟨m, h1, h2⟩ := hm
      exact ih m h1 h2
    · exact ⟨n, hn, fun k hk => Nat.le_of_not_lt fun hl => hm ⟨k, hl, hk⟩⟩
noncomputable def infM (p : Nat → Prop) : Nat := Classical.epsilon fun m => p m ∧ ∀ k, p k → m ≤ k
theorem infM_of {p : Nat → Prop} (h : ∃ n, p n) : p (infM p) ∧ ∀ k, p k → infM p ≤ k := Classical.epsilon_spec (least_num p h)
section
variable {w w' : World} {G F : Nat → Prop} {g : Nat} {c : SC} {m1 m2 : Nat} {f1 f2 : Int → Option Value} {vt vo : Value} {ts os : List N2} {s : SH}
theorem N2.cells_len (x : N2) : x.cells.length = 3 := rfl
theorem ShB.cutTodo {gq off cap n : Nat} {x : N2} {tr : List N2} (h : ShB w G F g c m1 m2 f1 f2 (.slice (some ⟨gq, off, none⟩) n cap) vo (x :: tr) os s) {l : List NV} (hl : s.todo = x.n :: l) :
    ShB (w.setCell ⟨g, 10, none⟩ (.slice (some (if cap = 1 then ⟨gq, off, none⟩ else ⟨gq, off + 3, none⟩)) (n - 1) (cap - 1))) G F g c m1 m2 f1 f2 (.slice (some (if cap = 1 then ⟨gq, off, none⟩ else ⟨gq, off + 3, none⟩)) (n - 1) (cap - 1)) vo tr os { s with todo := l } := by
  have hr := h.tq
  obtain ⟨a', c', e'⟩ := hr.form
  simp only [Value.slice.injEq] at e'
  obtain ⟨rfl, rfl, rfl⟩ := e'
  rw [hl] at hr
  have ht := hr.tail (by rw [List.length_cons]; omega)
  have hn := h.tn
  rw [hl, List.map_cons] at hn
  refine h.setTodo (Keep.refl _ w) (List.cons.inj hn).2 ?_ (fun y hy => h.tr y (List.mem_cons_of_mem _ hy)) fun b hb => .inl ?_
  · rw [hl]
    exact ht
  · rw [← hb]
    show some gq = some (if cap = 1 then (⟨gq, off, none⟩ : Addr) else ⟨gq, off + 3, none⟩).block
    split <;> rfl
theorem ShB.whole (h : ShB w G F g c m1 m2 f1 f2 vt vo ts os s) : ShB w G (fun b => b < w.heap.size ∧ ¬ ShOwn g m1 m2 f1 f2 vt vo b) g c m1 m2 f1 f2 vt vo ts os s :=
  h.turn (fun b hb hx => hx.2 hb) (fun b hb => ⟨h.flt b (h.gf b hb), fun q => h.own b q (h.gf b hb)⟩) fun b hb => hb.1
theorem ShB.not_own (h : ShB w G F g c m1 m2 f1 f2 vt vo ts os s) {b : Nat} {cs : Array Value} {e : TypeId} (hb : Blk w b cs e) (h1 : e ≠ 88) (h2 : e ≠ 58) : ¬ ShOwn g m1 m2 f1 f2 vt vo b := by
  rintro (rfl | rfl | rfl | ho | ho | ho | ho)
  · exact off_of hb h1 ⟨_, h.blk⟩
  · exact h.mm1.map.not_blk hb
  · exact h.mm2.map.not_blk hb
  · exact h.mm1.in_blk ho hb
  · exact h.mm2.in_blk ho hb
  · obtain ⟨c', hc⟩ := h.tblk ho
    exact off_of hb h2 ⟨_, hc⟩
  · obtain ⟨c', hc⟩ := h.oblk ho
    exact off_of hb h2 ⟨_, hc⟩
theorem ShB.not_int (h : ShB w G F g c m1 m2 f1 f2 vt vo ts os s) {b : Nat} (hb : IsInt w b) : ¬ ShOwn g m1 m2 f1 f2 vt vo b := by
  have hne : ∀ {e : TypeId} {cs : Array Value}, Blk w b cs e → e ≠ 3 → False := fun hc he => by
    obtain ⟨c', z, hz⟩ := hb
    have := hc.symm.trans hz
    simp at this
    exact he this.2.1
  rintro (rfl | rfl | rfl | ho | ho | ho | ho)
  · exact hne h.blk (by decide)
  · exact h.mm1.map.not_int hb
  · exact h.mm2.map.not_int hb
  · obtain ⟨_, hm⟩ := h.mm1.in_map ho
    exact hm.not_int hb
  · obtain ⟨_, hm⟩ := h.mm2.in_map ho
    exact hm.not_int hb
  · obtain ⟨c', hc⟩ := h.tblk ho
    exact hne hc (by decide)
  · obtain ⟨c', hc⟩ := h.oblk ho
    exact hne hc (by decide)
theorem IsInt.lt {b : Nat} (h : IsInt w b) : b < w.heap.size := by
  obtain ⟨c', z, hz⟩ := h
  exact (Array.getElem?_eq_some_iff.1 hz).1
end
structure NotesR (w : World) (F : Nat → Prop) (v : Value) (l : List NV) (os : List N2) : Prop where
  row : OwnsQ w 0 58 3 v l.length (os.flatMap N2.cells)
  eq : os.map N2.n = l
  nums : ∀ x ∈ os, IRow 0 w x.v x.n.nums
  fr : ∀ b, v.ownBlock = some b → F b
  fn : ∀ x ∈ os, ∀ b, x.v.ownBlock = some b → F b
noncomputable def shMes (G F : Nat → Prop) (g : Nat) (c : SC) (s : SH) (w : World) : Nat := infM fun n => ∃ t, Runs c.P (c.me : Nat) (c.k : Nat) s t ∧ ShAt w G F g c t ∧ t.phi = n
theorem shMes_of {G F : Nat → Prop} {g : Nat} {c : SC} {s t : SH} {w : World} (h : Runs c.P (c.me : Nat) (c.k : Nat) s t) (hS : ShAt w G F g c t) : ∃ u, Runs c.P (c.me : Nat) (c.k : Nat) s u ∧ ShAt w G F g c u ∧ u.phi = shMes G F g c s w :=
  (infM_of (p := fun n => ∃ t, Runs c.P (c.me : Nat) (c.k : Nat) s t ∧ ShAt w G F g c t ∧ t.phi = n) ⟨_, t, h, hS, rfl⟩).1
theorem shMes_le {G F : Nat → Prop} {g : Nat} {c : SC} {s t : SH} {w : World} (h : Runs c.P (c.me : Nat) (c.k : Nat) s t) (hS : ShAt w G F g c t) : shMes G F g c s w ≤ t.phi :=
  (infM_of (p := fun n => ∃ t, Runs c.P (c.me : Nat) (c.k : Nat) s t ∧ ShAt w G F g c t ∧ t.phi = n) ⟨_, t, h, hS, rfl⟩).2 _ ⟨t, h, hS, rfl⟩
theorem load_phi (s : SH) : s.load ≤ s.phi := by unfold SH.phi; omega
theorem comes_take {P : PP} {me k : Int} {s : SH} (hw : P.Well) {n : Int} (h1 : 0 ≤ n ∧ n < P.nodesV) (h3 : n % k = me) {l : List Int} (h : s.Ok P me k) (hl : ∀ o ∈ l, 0 ≤ o ∧ o < P.objectsV) (j : Nat) : ((l.take j).foldl (SH.comes P me k n) s).Ok P me k ∧ ((l.take j).foldl (SH.comes P me k n) s).phi ≤ s.phi := by
  obtain ⟨g1, _⟩ := comes_grows hw h1 h3 (l.take j) h fun o ho => hl o (List.mem_of_mem_take ho)
  exact ⟨g1.ok, g1.phi⟩
set_option maxRecDepth 100000 in
set_option maxHeartbeats 12800000 in
theorem shardwork_any (c : SC) (s : SH) (w : World) (G F : Nat → Prop) (g : Nat) (hS : ShAt w G F g c s) (hok : s.Ok c.P (c.me : Nat) (c.k : Nat)) (hph : s.phi ≤ 600000000) :
    Calls Tryz.prog 49 #[.pointer (some ⟨g, 0, none⟩)] w fun x w' => ∃ (v : Value) (t : SH) (os : List N2) (F' : Nat → Prop), x = .returned v ∧ Runs c.P (c.me : Nat) (c.k : Nat) s t ∧ t.todo = [] ∧ ShAt w' G F' g c { t with out := [] } ∧ NotesR w' F' v t.out os ∧ (∀ b, F b → F' b) ∧ (∀ b, IsInt w' b → F' b) ∧ Keep (fun b => ¬ F b) w w' := by
  have HOk0 := hid hok
  have Hph := hid hph
  have hw : c.P.Well := by obtain ⟨_, _, _, _, _, _, _, _, h⟩ := hS; exact h.con.well
  have HS0 := hid hS
  have Hw := hid hw
  clear hS hok hph hw
  go_enter Tryz.func49, Tryz.ntmps49
  go_wp2
  go_loopw [3] (fun _ wr => ∃ t, Runs c.P (c.me : Nat) (c.k : Nat) s t ∧ ShAt wr G F g c t ∧ Keep (fun b => ¬ F b) w wr) (fun _ wr => shMes G F g c s wr)
  case atStart => exact ⟨s, .refl, HS0.out, Keep.refl _ _⟩
  case round =>
    clear HS0
    obtain ⟨t0, hr0, hS0, hK⟩ := hrel
    obtain ⟨t, hrt, hSt, hmu⟩ := shMes_of hr0 hS0
    have HK := hid hK
    have Hrt := hid hrt
    have Hmu := hid hmu
    have Hok := hid (hrt.ok Hw.out HOk0.out)
    clear hr0 hS0 hK hrt hmu
    obtain ⟨m1, m2, f1, f2, vt, vo, ts, os, hS⟩ := hSt
    by_cases hne : t.todo = []
    · obtain ⟨av, cv, rfl⟩ := hS.tq.form
      obtain ⟨ao, co, rfl⟩ := hS.oq.form
      have b10 := hS.blk.av 10 rfl
      have b11 := hS.blk.av 11 rfl
      have f11 := hS.blk.free 11
      simp only [shCells, qA0, qA1, qA2] at b10 b11
      rw [hne, List.length_nil] at b10
      have HSo := hid (hS.setOut (Keep.refl _ wr) (vo' := .slice none 0 0) (os' := []) (l := []) rfl (OwnsQ.nil _ _ _ _) (fun _ h => (by cases h)) (fun _ h => (by cases h)))
      have Hne := hid hne
      have HSk := hid hS
      clear hne hS
      go_wp2
      go_ret
      have kg : Keep (fun q => q = g) wr (wr.setCell ⟨g, 11, none⟩ (.slice none 0 0)) := (Keep.refl (fun q => q = g) wr).set rfl _
      have hnum : ∀ x ∈ os, IRow 0 (wr.setCell ⟨g, 11, none⟩ (.slice none 0 0)) x.v x.n.nums := fun x hx => own_off (HSk.out.or x hx) kg fun b hb => by rw [hb]; exact off_of HSk.out.blk (by decide)
      refine ⟨_, t, os, _, rfl, Hrt.out, Hne.out, ⟨_, _, _, _, _, _, _, _, HSo.out.whole⟩, ⟨HSk.out.oq.off kg fun b hb => (by rw [hb]; exact off_of HSk.out.blk (by decide)), HSk.out.on, hnum, fun b hb => ⟨?_, ?_⟩, fun x hx b hb => ?_⟩, fun b hb => ⟨HSo.out.flt b hb, fun q => HSo.out.own b q hb⟩, fun b hb => ⟨hb.lt, HSo.out.not_int hb⟩, HK.out.set (HSk.out.own g (.inl rfl)) _⟩
      · obtain ⟨c', hc⟩ := HSk.out.oblk hb
        exact Nat.lt_of_lt_of_le hc.lt kg.size
      · obtain ⟨c', hc⟩ := HSk.out.oblk hb
        rintro (rfl | rfl | rfl | ho | ho | ho | ho)
        · exact off_of hc (by decide) ⟨_, HSk.out.blk⟩
        · exact HSk.out.mm1.map.not_blk hc
        · exact HSk.out.mm2.map.not_blk hc
        · exact HSk.out.mm1.in_blk ho hc
        · exact HSk.out.mm2.in_blk ho hc
        · exact HSk.out.ne b ho hb
        · cases ho
      · obtain ⟨c', hc⟩ := own_ty (hnum x hx) hb
        exact ⟨hc.lt, HSo.out.not_own hc (by decide) (by decide)⟩
    · obtain ⟨x, tr, rfl⟩ : ∃ x tr, ts = x :: tr := by
        cases ts with
        | nil => exact absurd hS.tn.symm hne
        | cons x tr => exact ⟨x, tr, rfl⟩
      have hl : t.todo = x.n :: tr.map N2.n := hS.tn.symm
      obtain ⟨gq, off, cap, rfl, hcap⟩ := hS.tq.pos (by rw [hl, List.length_cons]; omega)
      have hnum := hS.tr x List.mem_cons_self
      obtain ⟨hxi, hxm⟩ := Hok.out.1.todo x.n (by rw [hl]; exact List.mem_cons_self)
      have hxi := hxi.is
      obtain ⟨xn, xv⟩ := x
      obtain ⟨xto, xk, xl⟩ := xn
      simp only at hnum hxi hxm hl
      obtain ⟨av, cv, rfl⟩ := row_form hnum
      have q0 := hS.tq.get 0 (u := .int .i64 xto) rfl
      have q1 := hS.tq.get 1 (u := .int .u8 xk) rfl
      have q2 := hS.tq.get 2 (u := .slice av xl.length cv) rfl
      simp only [Nat.add_zero] at q0
      have b10 := hS.blk.av 10 rfl
      have f10 := hS.blk.free 10
      simp only [shCells, qA0, qA1, qA2] at b10
      obtain ⟨W1, hW1⟩ : ∃ W1, W1 = wr.alloc (.cells #[.int .i64 xto, .int .u8 xk, .slice av xl.length cv] 58) := ⟨_, rfl⟩
      have hx1 : Ext wr W1 := by rw [hW1]; exact (Ext.refl _).alloc _
      have hBx : Blk W1 wr.heap.size #[.int .i64 xto, .int .u8 xk, .slice av xl.length cv] 58 := by rw [hW1]; exact Blk.new _ _ _
      have hcr : t.todo.length ≤ cap ∧ 1 ≤ t.todo.length := by
        refine ⟨?_, by rw [hl, List.length_cons]; omega⟩
        rcases hS.tq.2 with ⟨hx, _⟩ | ⟨g', off', cap', cur, hx, _, _, hx4, _⟩
        · cases hx
        · simp only [Value.slice.injEq] at hx
          rw [hx.2.2]; exact hx4
      have hcut := (hS.ext hx1).cutTodo hl
      obtain ⟨s1, hs1⟩ : ∃ s1 : SH, s1 = { t with todo := tr.map N2.n } := ⟨_, rfl⟩
      obtain ⟨vt', hvt⟩ : ∃ vt', vt' = Value.slice (some (if cap = 1 then (⟨gq, off, none⟩ : Addr) else ⟨gq, off + 3, none⟩)) (t.todo.length - 1) (cap - 1) := ⟨_, rfl⟩
      have hvb : vt'.ownBlock = (Value.slice (some ⟨gq, off, none⟩) t.todo.length cap).ownBlock := by
        rw [hvt]
        show some (if cap = 1 then (⟨gq, off, none⟩ : Addr) else ⟨gq, off + 3, none⟩).block = some gq
        split <;> rfl
      obtain ⟨m, hm⟩ : ∃ m, t.todo.length = m + 1 := ⟨t.todo.length - 1, by omega⟩
      have hvt2 : vt' = Value.slice (some (if cap = 1 then (⟨gq, off, none⟩ : Addr) else ⟨gq, off + 3, none⟩)) m (cap - 1) := by rw [hvt, hm, Nat.add_sub_cancel]
      obtain ⟨W3, hW3⟩ : ∃ W3, W3 = W1.setCell ⟨g, 10, none⟩ vt' := ⟨_, rfl⟩
      rw [← hvt, ← hs1, ← hW3] at hcut
      have b10' := (hS.blk.ext hx1).av 10 rfl
      have f10' := (hS.blk.ext hx1).free 10
      simp only [shCells, qA0, qA1, qA2] at b10'
      rw [hm] at b10 b10'
      rw [hW1] at b10' f10'
      clear f10
      by_cases hc1 : cap = 1
      · have hm0 : m = 0 := by omega
        have hvt3 : vt' = .slice (some ⟨gq, off, none⟩) 0 0 := by rw [hvt2, if_pos hc1, hc1, hm0]
        have HW3 : Hid (W3 = (wr.alloc (.cells #[.int .i64 xto, .int .u8 xk, .slice av xl.length cv] 58)).setCell ⟨g, 10, none⟩ (.slice (some ⟨gq, off, none⟩) 0 0)) := hid (by rw [hW3, hW1, hvt3])
        rw [hm0, hc1, Nat.zero_add] at b10 b10'
        have HS3 := hid hcut
        have Hnum : Hid (IRow 0 W3 (.slice av xl.length cv) xl) := hid (by
          rw [hW3]
          refine own_off (own_ext hnum hx1) ((Keep.refl (fun q => q = g) W1).set rfl _) fun b hb => ?_
          rw [hb]; exact off_of (hS.blk.ext hx1) (by decide))
        have HBx3 : Hid (Blk W3 wr.heap.size #[.int .i64 xto, .int .u8 xk, .slice av xl.length cv] 58) := hid (by
          rw [hW3]
          exact hBx.set_ne (fun e => (hS.blk.ext hx1).ty_ne hBx (by decide) e) _)
        have Hnew : Hid (¬ ShOwn g m1 m2 f1 f2 vt' vo wr.heap.size) := hid fun hb => by
          have h1 : ShOwn g m1 m2 f1 f2 (.slice (some ⟨gq, off, none⟩) t.todo.length cap) vo wr.heap.size := by
            rcases hb with hb | hb | hb | hb | hb | hb | hb
            · exact .inl hb
            · exact .inr (.inl hb)
            · exact .inr (.inr (.inl hb))
            · exact .inr (.inr (.inr (.inl hb)))
            · exact .inr (.inr (.inr (.inr (.inl hb))))
            · exact .inr (.inr (.inr (.inr (.inr (.inl (by rw [← hvb]; exact hb))))))
            · exact .inr (.inr (.inr (.inr (.inr (.inr hb)))))
          have := hS.own_lt h1
          omega
        have HK3 : Hid (Keep (fun b => ¬ F b) w W3) := hid (by
          rw [hW3]
          exact (HK.out.ext_r hx1).set (hS.own g (.inl rfl)) _)
        clear hvt hvt2 hvt3 hvb hW1 hx1 hBx hcut hW3 hm hm0 hcr hcap hne hnum hc1
        rcases hxi with ⟨hk, n, l, hxl, hn, hto, hlo⟩ | ⟨hk, a, b, hxl, ha, hto, hb⟩
        · simp only at hk hxl hto
          subst hk
          subst hxl
          obtain ⟨n, rfl⟩ := Int.eq_ofNat_of_zero_le hn.1
          simp only [List.length_cons] at q2 b10' f10' HW3 HBx3 Hnum
          have Hok1 : Hid (s1.Ok c.P (c.me : Nat) (c.k : Nat)) := hid (by rw [hs1]; exact todo_ok Hok.out.1 hl)
          have Hph1 : Hid (s1.phi ≤ 600000000) := hid (by
            have h1 := load_phi s1
            have h2 := Hok.out.2
            have h3 := Hph.out
            have h4 : s1.phi ≤ t.phi := by
              rw [hs1]
              unfold SH.phi SH.load
              rw [hl, List.length_cons]
              simp only
              omega
            omega)
          have Hless := hid (step_less Hw.out Hok.out.1 (by rw [hl]; simp)).2
          have Hrs := hid (Hrt.out.step (by rw [hl]; simp))
          have Hstp : Hid (t.step c.P (c.me : Nat) (c.k : Nat) = s1.note c.P (c.me : Nat) (c.k : Nat) ⟨xto, 100, ((n : Int) :: l)⟩) := hid (by unfold SH.step; rw [hl, hs1])
          have Hlo := hid hlo
          have Hn := hid hn
          have Hnm : Hid ((n : Int) % (c.k : Int) = (c.me : Int)) := hid (hto.symm.trans hxm)
          have Hst1 : Hid (t.step c.P (c.me : Nat) (c.k : Nat) = l.foldl (SH.comes c.P (c.me : Nat) (c.k : Nat) (n : Int)) s1) := hid (by rw [Hstp.out]; rfl)
          clear hlo hn hto hxm hl hs1 hS
          have HSx := hid HS3.out.whole
          have Hwh : Hid (∀ b, F b → b < W3.heap.size ∧ ¬ ShOwn g m1 m2 f1 f2 vt' vo b) := hid fun b hb => ⟨HS3.out.flt b hb, fun q => HS3.out.own b q hb⟩
          have Hnf : Hid (∀ b, (Value.slice av (l.length + 1) cv).ownBlock = some b → b < W3.heap.size ∧ ¬ ShOwn g m1 m2 f1 f2 vt' vo b) := hid fun b hb => by
            obtain ⟨c', hc⟩ := own_ty Hnum.out hb
            exact ⟨hc.lt, HS3.out.not_own hc (by decide) (by decide)⟩
          have Hbf : Hid (wr.heap.size < W3.heap.size ∧ ¬ ShOwn g m1 m2 f1 f2 vt' vo wr.heap.size) := hid ⟨HBx3.out.lt, Hnew.out⟩
          have HSat : Hid (ShAt W3 G (fun b => b < W3.heap.size ∧ ¬ ShOwn g m1 m2 f1 f2 vt' vo b) g c s1) := hid ⟨_, _, _, _, _, _, _, _, HSx.out⟩
          generalize hF' : (fun b => b < W3.heap.size ∧ ¬ ShOwn g m1 m2 f1 f2 vt' vo b) = F' at HSat
          have HF1 : Hid (∀ b, F b → F' b) := hid fun b hb => by rw [← hF']; exact Hwh.out b hb
          have HnF : Hid (∀ b, (Value.slice av (l.length + 1) cv).ownBlock = some b → F' b) := hid fun b hb => by rw [← hF']; exact Hnf.out b hb
          have HbF : Hid (F' wr.heap.size) := hid (by rw [← hF']; exact Hbf.out)
          have HgF := hid HS3.out.gf
          clear hF' Hwh Hnf Hbf HSx
          have dk2 := HBx3.out.kc (X := fun b => ¬ F' b) (fun h => h HbF.out) 2 rfl
          have d1 := HBx3.out.av 1 rfl
          have d2 := HBx3.out.av 2 rfl
          simp only [qA0, qA1, qA2] at dk2 d1 d2
          obtain ⟨gn, cn, hge⟩ := own_some Hnum.out (by simp)
          simp only [Value.slice.injEq] at hge
          obtain ⟨rfl, -, rfl⟩ := hge
          have hgn : ¬ ¬ F' gn := fun h => h (HnF.out gn rfl)
          have n0 : ∀ w1, Keep (fun b => ¬ F' b) W3 w1 → w1.cell? ⟨gn, 0, none⟩ = some (.int .i64 (n : Int)) := fun w1 k => k.cellx (own_i Hnum.out (i := 0) (x := (n : Int)) rfl) hgn
          have hcl : l.length + 1 ≤ cv ∧ (cv : Int) ≤ 9223372036854775807 := by
            obtain ⟨_, hx | ⟨_, _, _, hx, _, _, hx4, hx5, _⟩⟩ := Hnum.out
            · cases hx.1
            · simp only [Value.slice.injEq] at hx
              unfold maxLen at hx5
              rw [hx.2.2]
              simp only [List.length_cons] at hx4
              exact ⟨hx4, by omega⟩
          rw [HW3.out] at d1 d2
          by_cases hcv : cv = 1
          · subst hcv
            obtain rfl : l = [] := List.eq_nil_of_length_eq_zero (by omega)
            simp only [List.length_nil, Nat.zero_add] at q2 b10' f10' HW3 HBx3 Hnum dk2 d1 d2
            go_wp2
            rw [← HW3.out]
            go_loopw [44] (fun t44 w2 => t44 = .int .i64 0 ∧ w2 = W3) (fun _ _ => 0)
            case atStart => exact ⟨rfl, rfl⟩
            case round =>
              clear d1 d2 dk2 n0
              obtain ⟨rfl, hw2⟩ := hrel
              rw [hw2]
              have HS7 : Hid (ShAt W3 G F g c (t.step c.P (c.me : Nat) (c.k : Nat))) := hid (by rw [Hst1.out]; exact HSat.out.less HgF.out HF1.out)
              go_wp2
              go_roundw
              case rel => exact ⟨_, Hrs.out, HS7.out, HK3.out⟩
              case measure =>
                rw [← Hmu.out]
                exact Nat.lt_of_le_of_lt (shMes_le Hrs.out HS7.out) Hless.out
          · have nj : ∀ (j : Nat) (x : Int), l[j]? = some x → ∀ w1, Keep (fun b => ¬ F' b) W3 w1 → w1.cell? ⟨gn, 1 + j, none⟩ = some (.int .i64 x) := fun j x h w1 k => k.cellx (own_i Hnum.out (i := 1 + j) (x := x) (by rw [Nat.add_comm, List.getElem?_cons_succ]; exact h)) hgn
            go_wp2
            rw [← HW3.out]
            go_loopw [44] (fun t44 w2 => ∃ j : Nat, t44 = .int .i64 (j : Int) ∧ j ≤ l.length ∧ ShAt w2 G F' g c ((l.take j).foldl (SH.comes c.P (c.me : Nat) (c.k : Nat) (n : Int)) s1) ∧ Keep (fun b => ¬ F' b) W3 w2) (fun t44 _ => l.length - (intOf t44).toNat)
            case atStart => exact ⟨0, rfl, Nat.zero_le _, HSat.out, Keep.refl _ _⟩
            case round =>
              clear d1
              obtain ⟨j, rfl, hj, hS5, hK5⟩ := hrel
              have HK5 := hid hK5
              have e2 := dk2 _ hK5
              have e0 := n0 _ hK5
              by_cases hlt : j < l.length
              · obtain ⟨x, hqx⟩ : ∃ x, l[j]? = some x := ⟨_, List.getElem?_eq_getElem hlt⟩
                obtain ⟨hx0, hx1⟩ := Hlo.out x (List.mem_of_getElem? hqx)
                obtain ⟨o, rfl⟩ := Int.eq_ofNat_of_zero_le hx0
                have e1 := nj j (o : Int) hqx _ hK5
                obtain ⟨hokj, hphj⟩ := comes_take (j := j) Hw.out Hn.out Hnm.out Hok1.out Hlo.out
                have Hn2 : Hid ((l.take (j + 1)).foldl (SH.comes c.P (c.me : Nat) (c.k : Nat) (n : Int)) s1 = SH.came c.P (c.me : Nat) (c.k : Nat) ((l.take j).foldl (SH.comes c.P (c.me : Nat) (c.k : Nat) (n : Int)) s1) ((n : Int), (o : Int))) := hid (by rw [List.take_add_one, hqx, List.foldl_append]; rfl)
                have HC := hid (shardcame_any c ((l.take j).foldl (SH.comes c.P (c.me : Nat) (c.k : Nat) (n : Int)) s1) n o _ G F' g hS5 hokj (by have := Hn.out; omega) (by omega) (by have := load_phi ((l.take j).foldl (SH.comes c.P (c.me : Nat) (c.k : Nat) (n : Int)) s1); have := Hph1.out; omega))
                clear hS5 hK5 hqx hx0 hx1 hokj hphj
                go_wp2_with fail
                refine HC.out.mono ?_
                intro z w6 hx
                obtain ⟨rfl, hS6, hK6⟩ := hx
                have HS6 := hid hS6
                have HK6 := hid hK6
                clear hS6 hK6 HC e0 e1 e2
                go_wp2
                go_roundw
                case rel =>
                  refine ⟨j + 1, by go_num, by omega, ?_, ?_⟩
                  · rw [Hn2.out]; exact HS6.out
                  · exact HK5.out.trans HK6.out
                case measure => simp [intOf]; omega
              · obtain rfl : j = l.length := by omega
                rw [List.take_length, ← Hst1.out] at hS5
                have HS7 := hid (hS5.less HgF.out HF1.out)
                have HK7 := hid (HK3.out.trans (HK5.out.mono fun b _ hx hF => hx (HF1.out b hF)))
                clear hS5 hK5 e0 e2
                go_wp2
                go_roundw
                case rel => exact ⟨_, Hrs.out, HS7.out, HK7.out⟩
                case measure =>
                  rw [← Hmu.out]
                  exact Nat.lt_of_le_of_lt (shMes_le Hrs.out HS7.out) Hless.out
        · simp only at hk hxl hto
          subst hk
          subst hxl
          obtain ⟨a, rfl⟩ := Int.eq_ofNat_of_zero_le ha.1
          obtain ⟨b, rfl⟩ := Int.eq_ofNat_of_zero_le hb.1
          simp only [List.length_cons, List.length_nil, Nat.zero_add, Nat.reduceAdd] at q2 b10' f10' HW3 HBx3 Hnum
          have Hok1 : Hid (s1.Ok c.P (c.me : Nat) (c.k : Nat)) := hid (by rw [hs1]; exact todo_ok Hok.out.1 hl)
          have Hph1 : Hid (s1.phi ≤ 600000000) := hid (by
            have h1 := load_phi s1
            have h2 := Hok.out.2
            have h3 := Hph.out
            have h4 : s1.phi ≤ t.phi := by
              rw [hs1]
              unfold SH.phi SH.load
              rw [hl, List.length_cons]
              simp only
              omega
            omega)
          have Hless := hid (step_less Hw.out Hok.out.1 (by rw [hl]; simp)).2
          have Hrs := hid (Hrt.out.step (by rw [hl]; simp))
          have Hstp : Hid (t.step c.P (c.me : Nat) (c.k : Nat) = s1.note c.P (c.me : Nat) (c.k : Nat) ⟨xto, 101, [(a : Int), (b : Int)]⟩) := hid (by unfold SH.step; rw [hl, hs1])
          clear hto hxm hl hs1 hS
          have HSx := hid HS3.out.whole
          have Hwh : Hid (∀ b, F b → b < W3.heap.size ∧ ¬ ShOwn g m1 m2 f1 f2 vt' vo b) := hid fun b hb => ⟨HS3.out.flt b hb, fun q => HS3.out.own b q hb⟩
          have Hnf : Hid (∀ b, (Value.slice av 2 cv).ownBlock = some b → b < W3.heap.size ∧ ¬ ShOwn g m1 m2 f1 f2 vt' vo b) := hid fun b hb => by
            obtain ⟨c', hc⟩ := own_ty Hnum.out hb
            exact ⟨hc.lt, HS3.out.not_own hc (by decide) (by decide)⟩
          have Hbf : Hid (wr.heap.size < W3.heap.size ∧ ¬ ShOwn g m1 m2 f1 f2 vt' vo wr.heap.size) := hid ⟨HBx3.out.lt, Hnew.out⟩
          have HSat : Hid (ShAt W3 G (fun b => b < W3.heap.size ∧ ¬ ShOwn g m1 m2 f1 f2 vt' vo b) g c s1) := hid ⟨_, _, _, _, _, _, _, _, HSx.out⟩
          generalize hF' : (fun b => b < W3.heap.size ∧ ¬ ShOwn g m1 m2 f1 f2 vt' vo b) = F' at HSat
          have HF1 : Hid (∀ b, F b → F' b) := hid fun b hb => by rw [← hF']; exact Hwh.out b hb
          have HnF : Hid (∀ b, (Value.slice av 2 cv).ownBlock = some b → F' b) := hid fun b hb => by rw [← hF']; exact Hnf.out b hb
          have HbF : Hid (F' wr.heap.size) := hid (by rw [← hF']; exact Hbf.out)
          have HgF := hid HS3.out.gf
          clear hF' Hwh Hnf Hbf HSx
          have dk2 := HBx3.out.kc (X := fun b => ¬ F' b) (fun h => h HbF.out) 2 rfl
          have d1 := HBx3.out.av 1 rfl
          simp only [qA0, qA1, qA2] at dk2 d1
          obtain ⟨gn, cn, hge⟩ := own_some Hnum.out (by simp)
          simp only [Value.slice.injEq] at hge
          obtain ⟨rfl, -, rfl⟩ := hge
          have hgn : ¬ ¬ F' gn := fun h => h (HnF.out gn rfl)
          have n0 : ∀ w1, Keep (fun b => ¬ F' b) W3 w1 → w1.cell? ⟨gn, 0, none⟩ = some (.int .i64 (a : Int)) := fun w1 k => k.cellx (own_i Hnum.out (i := 0) (x := (a : Int)) rfl) hgn
          have n1 : ∀ w1, Keep (fun b => ¬ F' b) W3 w1 → w1.cell? ⟨gn, 1, none⟩ = some (.int .i64 (b : Int)) := fun w1 k => k.cellx (own_i Hnum.out (i := 1) (x := (b : Int)) rfl) hgn
          have HJ := fun w5 (x : Ext W3 w5) => hid (shardjoined_any c s1 a b w5 G F' g (HSat.out.ext x) Hok1.out (by omega) (by omega) (by have := load_phi s1; have := Hph1.out; omega))
          have hcl : 2 ≤ cv := by
            obtain ⟨_, hx | ⟨_, _, _, hx, _, _, hx4, _⟩⟩ := Hnum.out
            · cases hx.1
            · simp only [Value.slice.injEq] at hx
              rw [hx.2.2]; exact hx4
          rw [HW3.out] at d1
          go_wp2
          rw [← HW3.out]
          refine wp_flowT (fun b => ¬ F' b) (by kernel_rfl) (by kernel_rfl) ?_
          repeat (apply FlowT.d; (intro w1 hk; unfold does; go_simp; (try go_ints); (first | exact DetR.mk | (simp only [↓IntWalk.iteOmega, Oper.doesUpon_value]; exact DetR.mk) | (simp only [↓IntWalk.iteOmega]; go_simp; (try go_ints); exact DetR.mk))); simp only [Act.put, qS0, qS1, qS2])
          refine FlowT.s (fun v w' => v = .tuple #[] ∧ ShAt w' G F' g c (s1.joined (c.me : Nat) (c.k : Nat) ((a : Int), (b : Int))) ∧ Keep (fun b => ¬ F' b) W3 w') 9 rfl (by kernel_rfl) (fun _ _ _ ⟨h1, h2, h3⟩ y => ⟨h1, h2.ext y, h3.ext_r y⟩) (fun w5 hC hk => ?_) ?_
          · unfold does
            go_simp
            refine CallR.act ((HJ w5 hC).out.mono ?_)
            rintro e w6 ⟨rfl, h2, h3⟩
            exact ⟨_, rfl, hk.trans h3, rfl, h2, (hC.keep _).trans h3⟩
          rintro _ ⟨_, rfl, _, _⟩
          simp only [Act.put, qS0, qS1, qS2]
          refine FlowT.fin fun w7 hC7 hk7 => ?_
          obtain ⟨_, hS7, hK7⟩ := hC7
          have HS7 := hid (hS7.less HgF.out HF1.out)
          have HK7 := hid (HK3.out.trans (hK7.mono fun b _ hx hF => hx (HF1.out b hF)))
          clear hS7 hK7 hk7 dk2 d1 n0 n1 HJ
          go_wp2
          go_roundw
          case rel => exact ⟨_, Hrs.out, by rw [Hstp.out]; exact HS7.out, HK7.out⟩
          case measure =>
            rw [← Hmu.out]
            exact Nat.lt_of_le_of_lt (shMes_le Hrs.out (by rw [Hstp.out]; exact HS7.out)) Hless.out
      · have hvt3 : vt' = .slice (some ⟨gq, off + 3, none⟩) m (cap - 1) := by rw [hvt2, if_neg hc1]
        have HW3 : Hid (W3 = (wr.alloc (.cells #[.int .i64 xto, .int .u8 xk, .slice av xl.length cv] 58)).setCell ⟨g, 10, none⟩ (.slice (some ⟨gq, off + 3, none⟩) m (cap - 1))) := hid (by rw [hW3, hW1, hvt3])
        have hmc : m + 1 ≤ cap := by omega
        have HS3 := hid hcut
        have Hnum : Hid (IRow 0 W3 (.slice av xl.length cv) xl) := hid (by
          rw [hW3]
          refine own_off (own_ext hnum hx1) ((Keep.refl (fun q => q = g) W1).set rfl _) fun b hb => ?_
          rw [hb]; exact off_of (hS.blk.ext hx1) (by decide))
        have HBx3 : Hid (Blk W3 wr.heap.size #[.int .i64 xto, .int .u8 xk, .slice av xl.length cv] 58) := hid (by
          rw [hW3]
          exact hBx.set_ne (fun e => (hS.blk.ext hx1).ty_ne hBx (by decide) e) _)
        have Hnew : Hid (¬ ShOwn g m1 m2 f1 f2 vt' vo wr.heap.size) := hid fun hb => by
          have h1 : ShOwn g m1 m2 f1 f2 (.slice (some ⟨gq, off, none⟩) t.todo.length cap) vo wr.heap.size := by
            rcases hb with hb | hb | hb | hb | hb | hb | hb
            · exact .inl hb
            · exact .inr (.inl hb)
            · exact .inr (.inr (.inl hb))
            · exact .inr (.inr (.inr (.inl hb)))
            · exact .inr (.inr (.inr (.inr (.inl hb))))
            · exact .inr (.inr (.inr (.inr (.inr (.inl (by rw [← hvb]; exact hb))))))
            · exact .inr (.inr (.inr (.inr (.inr (.inr hb)))))
          have := hS.own_lt h1
          omega
        have HK3 : Hid (Keep (fun b => ¬ F b) w W3) := hid (by
          rw [hW3]
          exact (HK.out.ext_r hx1).set (hS.own g (.inl rfl)) _)
        clear hvt hvt2 hvt3 hvb hW1 hx1 hBx hcut hW3 hm hcr hcap hne hnum
        rcases hxi with ⟨hk, n, l, hxl, hn, hto, hlo⟩ | ⟨hk, a, b, hxl, ha, hto, hb⟩
        · simp only at hk hxl hto
          subst hk
          subst hxl
          obtain ⟨n, rfl⟩ := Int.eq_ofNat_of_zero_le hn.1
          simp only [List.length_cons] at q2 b10' f10' HW3 HBx3 Hnum
          have Hok1 : Hid (s1.Ok c.P (c.me : Nat) (c.k : Nat)) := hid (by rw [hs1]; exact todo_ok Hok.out.1 hl)
          have Hph1 : Hid (s1.phi ≤ 600000000) := hid (by
            have h1 := load_phi s1
            have h2 := Hok.out.2
            have h3 := Hph.out
            have h4 : s1.phi ≤ t.phi := by
              rw [hs1]
              unfold SH.phi SH.load
              rw [hl, List.length_cons]
              simp only
              omega
            omega)
          have Hless := hid (step_less Hw.out Hok.out.1 (by rw [hl]; simp)).2
          have Hrs := hid (Hrt.out.step (by rw [hl]; simp))
          have Hstp : Hid (t.step c.P (c.me : Nat) (c.k : Nat) = s1.note c.P (c.me : Nat) (c.k : Nat) ⟨xto, 100, ((n : Int) :: l)⟩) := hid (by unfold SH.step; rw [hl, hs1])
          have Hlo := hid hlo
          have Hn := hid hn
          have Hnm : Hid ((n : Int) % (c.k : Int) = (c.me : Int)) := hid (hto.symm.trans hxm)
          have Hst1 : Hid (t.step c.P (c.me : Nat) (c.k : Nat) = l.foldl (SH.comes c.P (c.me : Nat) (c.k : Nat) (n : Int)) s1) := hid (by rw [Hstp.out]; rfl)
          clear hlo hn hto hxm hl hs1 hS
          have HSx := hid HS3.out.whole
          have Hwh : Hid (∀ b, F b → b < W3.heap.size ∧ ¬ ShOwn g m1 m2 f1 f2 vt' vo b) := hid fun b hb => ⟨HS3.out.flt b hb, fun q => HS3.out.own b q hb⟩
          have Hnf : Hid (∀ b, (Value.slice av (l.length + 1) cv).ownBlock = some b → b < W3.heap.size ∧ ¬ ShOwn g m1 m2 f1 f2 vt' vo b) := hid fun b hb => by
            obtain ⟨c', hc⟩ := own_ty Hnum.out hb
            exact ⟨hc.lt, HS3.out.not_own hc (by decide) (by decide)⟩
          have Hbf : Hid (wr.heap.size < W3.heap.size ∧ ¬ ShOwn g m1 m2 f1 f2 vt' vo wr.heap.size) := hid ⟨HBx3.out.lt, Hnew.out⟩
          have HSat : Hid (ShAt W3 G (fun b => b < W3.heap.size ∧ ¬ ShOwn g m1 m2 f1 f2 vt' vo b) g c s1) := hid ⟨_, _, _, _, _, _, _, _, HSx.out⟩
          generalize hF' : (fun b => b < W3.heap.size ∧ ¬ ShOwn g m1 m2 f1 f2 vt' vo b) = F' at HSat
          have HF1 : Hid (∀ b, F b → F' b) := hid fun b hb => by rw [← hF']; exact Hwh.out b hb
          have HnF : Hid (∀ b, (Value.slice av (l.length + 1) cv).ownBlock = some b → F' b) := hid fun b hb => by rw [← hF']; exact Hnf.out b hb
          have HbF : Hid (F' wr.heap.size) := hid (by rw [← hF']; exact Hbf.out)
          have HgF := hid HS3.out.gf
          clear hF' Hwh Hnf Hbf HSx
          have dk2 := HBx3.out.kc (X := fun b => ¬ F' b) (fun h => h HbF.out) 2 rfl
          have d1 := HBx3.out.av 1 rfl
          have d2 := HBx3.out.av 2 rfl
          simp only [qA0, qA1, qA2] at dk2 d1 d2
          obtain ⟨gn, cn, hge⟩ := own_some Hnum.out (by simp)
          simp only [Value.slice.injEq] at hge
          obtain ⟨rfl, -, rfl⟩ := hge
          have hgn : ¬ ¬ F' gn := fun h => h (HnF.out gn rfl)
          have n0 : ∀ w1, Keep (fun b => ¬ F' b) W3 w1 → w1.cell? ⟨gn, 0, none⟩ = some (.int .i64 (n : Int)) := fun w1 k => k.cellx (own_i Hnum.out (i := 0) (x := (n : Int)) rfl) hgn
          have hcl : l.length + 1 ≤ cv ∧ (cv : Int) ≤ 9223372036854775807 := by
            obtain ⟨_, hx | ⟨_, _, _, hx, _, _, hx4, hx5, _⟩⟩ := Hnum.out
            · cases hx.1
            · simp only [Value.slice.injEq] at hx
              unfold maxLen at hx5
              rw [hx.2.2]
              simp only [List.length_cons] at hx4
              exact ⟨hx4, by omega⟩
          rw [HW3.out] at d1 d2
          by_cases hcv : cv = 1
          · subst hcv
            obtain rfl : l = [] := List.eq_nil_of_length_eq_zero (by omega)
            simp only [List.length_nil, Nat.zero_add] at q2 b10' f10' HW3 HBx3 Hnum dk2 d1 d2
            go_wp2
            rw [← HW3.out]
            go_loopw [44] (fun t44 w2 => t44 = .int .i64 0 ∧ w2 = W3) (fun _ _ => 0)
            case atStart => exact ⟨rfl, rfl⟩
            case round =>
              clear d1 d2 dk2 n0
              obtain ⟨rfl, hw2⟩ := hrel
              rw [hw2]
              have HS7 : Hid (ShAt W3 G F g c (t.step c.P (c.me : Nat) (c.k : Nat))) := hid (by rw [Hst1.out]; exact HSat.out.less HgF.out HF1.out)
              go_wp2
              go_roundw
              case rel => exact ⟨_, Hrs.out, HS7.out, HK3.out⟩
              case measure =>
                rw [← Hmu.out]
                exact Nat.lt_of_le_of_lt (shMes_le Hrs.out HS7.out) Hless.out
          · have nj : ∀ (j : Nat) (x : Int), l[j]? = some x → ∀ w1, Keep (fun b => ¬ F' b) W3 w1 → w1.cell? ⟨gn, 1 + j, none⟩ = some (.int .i64 x) := fun j x h w1 k => k.cellx (own_i Hnum.out (i := 1 + j) (x := x) (by rw [Nat.add_comm, List.getElem?_cons_succ]; exact h)) hgn
            go_wp2
            rw [← HW3.out]
            go_loopw [44] (fun t44 w2 => ∃ j : Nat, t44 = .int .i64 (j : Int) ∧ j ≤ l.length ∧ ShAt w2 G F' g c ((l.take j).foldl (SH.comes c.P (c.me : Nat) (c.k : Nat) (n : Int)) s1) ∧ Keep (fun b => ¬ F' b) W3 w2) (fun t44 _ => l.length - (intOf t44).toNat)
            case atStart => exact ⟨0, rfl, Nat.zero_le _, HSat.out, Keep.refl _ _⟩
            case round =>
              clear d1
              obtain ⟨j, rfl, hj, hS5, hK5⟩ := hrel
              have HK5 := hid hK5
              have e2 := dk2 _ hK5
              have e0 := n0 _ hK5
              by_cases hlt : j < l.length
              · obtain ⟨x, hqx⟩ : ∃ x, l[j]? = some x := ⟨_, List.getElem?_eq_getElem hlt⟩
                obtain ⟨hx0, hx1⟩ := Hlo.out x (List.mem_of_getElem? hqx)
                obtain ⟨o, rfl⟩ := Int.eq_ofNat_of_zero_le hx0
                have e1 := nj j (o : Int) hqx _ hK5
                obtain ⟨hokj, hphj⟩ := comes_take (j := j) Hw.out Hn.out Hnm.out Hok1.out Hlo.out
                have Hn2 : Hid ((l.take (j + 1)).foldl (SH.comes c.P (c.me : Nat) (c.k : Nat) (n : Int)) s1 = SH.came c.P (c.me : Nat) (c.k : Nat) ((l.take j).foldl (SH.comes c.P (c.me : Nat) (c.k : Nat) (n : Int)) s1) ((n : Int), (o : Int))) := hid (by rw [List.take_add_one, hqx, List.foldl_append]; rfl)
                have HC := hid (shardcame_any c ((l.take j).foldl (SH.comes c.P (c.me : Nat) (c.k : Nat) (n : Int)) s1) n o _ G F' g hS5 hokj (by have := Hn.out; omega) (by omega) (by have := load_phi ((l.take j).foldl (SH.comes c.P (c.me : Nat) (c.k : Nat) (n : Int)) s1); have := Hph1.out; omega))
                clear hS5 hK5 hqx hx0 hx1 hokj hphj
                go_wp2_with fail
                refine HC.out.mono ?_
                intro z w6 hx
                obtain ⟨rfl, hS6, hK6⟩ := hx
                have HS6 := hid hS6
                have HK6 := hid hK6
                clear hS6 hK6 HC e0 e1 e2
                go_wp2
                go_roundw
                case rel =>
                  refine ⟨j + 1, by go_num, by omega, ?_, ?_⟩
                  · rw [Hn2.out]; exact HS6.out
                  · exact HK5.out.trans HK6.out
                case measure => simp [intOf]; omega
              · obtain rfl : j = l.length := by omega
                rw [List.take_length, ← Hst1.out] at hS5
                have HS7 := hid (hS5.less HgF.out HF1.out)
                have HK7 := hid (HK3.out.trans (HK5.out.mono fun b _ hx hF => hx (HF1.out b hF)))
                clear hS5 hK5 e0 e2
                go_wp2
                go_roundw
                case rel => exact ⟨_, Hrs.out, HS7.out, HK7.out⟩
                case measure =>
                  rw [← Hmu.out]
                  exact Nat.lt_of_le_of_lt (shMes_le Hrs.out HS7.out) Hless.out
        · simp only at hk hxl hto
          subst hk
          subst hxl
          obtain ⟨a, rfl⟩ := Int.eq_ofNat_of_zero_le ha.1
          obtain ⟨b, rfl⟩ := Int.eq_ofNat_of_zero_le hb.1
          simp only [List.length_cons, List.length_nil, Nat.zero_add, Nat.reduceAdd] at q2 b10' f10' HW3 HBx3 Hnum
          have Hok1 : Hid (s1.Ok c.P (c.me : Nat) (c.k : Nat)) := hid (by rw [hs1]; exact todo_ok Hok.out.1 hl)
          have Hph1 : Hid (s1.phi ≤ 600000000) := hid (by
            have h1 := load_phi s1
            have h2 := Hok.out.2
            have h3 := Hph.out
            have h4 : s1.phi ≤ t.phi := by
              rw [hs1]
              unfold SH.phi SH.load
              rw [hl, List.length_cons]
              simp only
              omega
            omega)
          have Hless := hid (step_less Hw.out Hok.out.1 (by rw [hl]; simp)).2
          have Hrs := hid (Hrt.out.step (by rw [hl]; simp))
          have Hstp : Hid (t.step c.P (c.me : Nat) (c.k : Nat) = s1.note c.P (c.me : Nat) (c.k : Nat) ⟨xto, 101, [(a : Int), (b : Int)]⟩) := hid (by unfold SH.step; rw [hl, hs1])
          clear hto hxm hl hs1 hS
          have HSx := hid HS3.out.whole
          have Hwh : Hid (∀ b, F b → b < W3.heap.size ∧ ¬ ShOwn g m1 m2 f1 f2 vt' vo b) := hid fun b hb => ⟨HS3.out.flt b hb, fun q => HS3.out.own b q hb⟩
          have Hnf : Hid (∀ b, (Value.slice av 2 cv).ownBlock = some b → b < W3.heap.size ∧ ¬ ShOwn g m1 m2 f1 f2 vt' vo b) := hid fun b hb => by
            obtain ⟨c', hc⟩ := own_ty Hnum.out hb
            exact ⟨hc.lt, HS3.out.not_own hc (by decide) (by decide)⟩
          have Hbf : Hid (wr.heap.size < W3.heap.size ∧ ¬ ShOwn g m1 m2 f1 f2 vt' vo wr.heap.size) := hid ⟨HBx3.out.lt, Hnew.out⟩
          have HSat : Hid (ShAt W3 G (fun b => b < W3.heap.size ∧ ¬ ShOwn g m1 m2 f1 f2 vt' vo b) g c s1) := hid ⟨_, _, _, _, _, _, _, _, HSx.out⟩
          generalize hF' : (fun b => b < W3.heap.size ∧ ¬ ShOwn g m1 m2 f1 f2 vt' vo b) = F' at HSat
          have HF1 : Hid (∀ b, F b → F' b) := hid fun b hb => by rw [← hF']; exact Hwh.out b hb
          have HnF : Hid (∀ b, (Value.slice av 2 cv).ownBlock = some b → F' b) := hid fun b hb => by rw [← hF']; exact Hnf.out b hb
          have HbF : Hid (F' wr.heap.size) := hid (by rw [← hF']; exact Hbf.out)
          have HgF := hid HS3.out.gf
          clear hF' Hwh Hnf Hbf HSx
          have dk2 := HBx3.out.kc (X := fun b => ¬ F' b) (fun h => h HbF.out) 2 rfl
          have d1 := HBx3.out.av 1 rfl
          simp only [qA0, qA1, qA2] at dk2 d1
          obtain ⟨gn, cn, hge⟩ := own_some Hnum.out (by simp)
          simp only [Value.slice.injEq] at hge
          obtain ⟨rfl, -, rfl⟩ := hge
          have hgn : ¬ ¬ F' gn := fun h => h (HnF.out gn rfl)
          have n0 : ∀ w1, Keep (fun b => ¬ F' b) W3 w1 → w1.cell? ⟨gn, 0, none⟩ = some (.int .i64 (a : Int)) := fun w1 k => k.cellx (own_i Hnum.out (i := 0) (x := (a : Int)) rfl) hgn
          have n1 : ∀ w1, Keep (fun b => ¬ F' b) W3 w1 → w1.cell? ⟨gn, 1, none⟩ = some (.int .i64 (b : Int)) := fun w1 k => k.cellx (own_i Hnum.out (i := 1) (x := (b : Int)) rfl) hgn
          have HJ := fun w5 (x : Ext W3 w5) => hid (shardjoined_any c s1 a b w5 G F' g (HSat.out.ext x) Hok1.out (by omega) (by omega) (by have := load_phi s1; have := Hph1.out; omega))
          have hcl : 2 ≤ cv := by
            obtain ⟨_, hx | ⟨_, _, _, hx, _, _, hx4, _⟩⟩ := Hnum.out
            · cases hx.1
            · simp only [Value.slice.injEq] at hx
              rw [hx.2.2]; exact hx4
          rw [HW3.out] at d1
          go_wp2
          rw [← HW3.out]
          refine wp_flowT (fun b => ¬ F' b) (by kernel_rfl) (by kernel_rfl) ?_
          repeat (apply FlowT.d; (intro w1 hk; unfold does; go_simp; (try go_ints); (first | exact DetR.mk | (simp only [↓IntWalk.iteOmega, Oper.doesUpon_value]; exact DetR.mk) | (simp only [↓IntWalk.iteOmega]; go_simp; (try go_ints); exact DetR.mk))); simp only [Act.put, qS0, qS1, qS2])
          refine FlowT.s (fun v w' => v = .tuple #[] ∧ ShAt w' G F' g c (s1.joined (c.me : Nat) (c.k : Nat) ((a : Int), (b : Int))) ∧ Keep (fun b => ¬ F' b) W3 w') 9 rfl (by kernel_rfl) (fun _ _ _ ⟨h1, h2, h3⟩ y => ⟨h1, h2.ext y, h3.ext_r y⟩) (fun w5 hC hk => ?_) ?_
          · unfold does
            go_simp
            refine CallR.act ((HJ w5 hC).out.mono ?_)
            rintro e w6 ⟨rfl, h2, h3⟩
            exact ⟨_, rfl, hk.trans h3, rfl, h2, (hC.keep _).trans h3⟩
          rintro _ ⟨_, rfl, _, _⟩
          simp only [Act.put, qS0, qS1, qS2]
          refine FlowT.fin fun w7 hC7 hk7 => ?_
          obtain ⟨_, hS7, hK7⟩ := hC7
          have HS7 := hid (hS7.less HgF.out HF1.out)
          have HK7 := hid (HK3.out.trans (hK7.mono fun b _ hx hF => hx (HF1.out b hF)))
          clear hS7 hK7 hk7 dk2 d1 n0 n1 HJ
          go_wp2
          go_roundw
          case rel => exact ⟨_, Hrs.out, by rw [Hstp.out]; exact HS7.out, HK7.out⟩
          case measure =>
            rw [← Hmu.out]
            exact Nat.lt_of_le_of_lt (shMes_le Hrs.out (by rw [Hstp.out]; exact HS7.out)) Hless.out
section
variable {P : Program} {ops : Array Oper} {X : Nat → Prop} {w0 : World} {Q : Act → World → Prop} {L : List Nat}
theorem Flow.par2j {listed : Array Bool} {C : World → Prop} {a : Act} (i j : Nat) (oi oj : Oper) (hoi : ops[i]? = some oi) (hoj : ops[j]? = some oj) (hij : i ≠ j)
    (hsi : ∀ cs b, oi.op ≠ .select cs b) (hsj : ∀ cs b, oj.op ≠ .select cs b) (hap : oi.apart ops oj = true)
    (r0 : (Region.ready .any ops listed == [i, j]) = true) (r1 : (Region.ready .any ops (listed.setIfInBounds i true) == [j]) = true) (r2 : (Region.ready .any ops (listed.setIfInBounds j true) == [i]) = true)
    (A B : Value → World → Prop) (D : Value → Value → World → Prop) (hC : ∀ w w', C w → Ext w w' → C w') (hA : ∀ v w w', A v w → Ext w w' → A v w') (hB : ∀ v w w', B v w → Ext w w' → B v w') (hD : ∀ u v w w', D u v w → Ext w w' → D u v w')
    (hi : ∀ w, C w → Keep X w0 w → does P ops oi a w (GenR w A)) (hj : ∀ w, C w → Keep X w0 w → does P ops oj a w (GenR w B))
    (hi2 : ∀ vi w, C w → A vi w → Keep X w0 w → does P ops oj a w (GenR w (D vi))) (hj2 : ∀ vj w, C w → B vj w → Keep X w0 w → does P ops oi a w (GenR w fun vi w' => D vi vj w'))
    (k : ∀ vi vj, (∃ w, D vi vj w) → Flow P ops w0 Q X L ((listed.setIfInBounds i true).setIfInBounds j true) (fun w => C w ∧ D vi vj w) ((a.put oi.dst vi).put oj.dst vj)) :
    Flow P ops w0 Q X L listed C a := by
  have hs := Oper.apart_spec hap
  refine Flow.acts [i, j] r0 (by simp) (fun n => if n = i then oi else oj) (fun n v w => C w ∧ if n = i then A v w else B v w) ?_ ?_ ?_
  · intro n v w w' ⟨h1, h2⟩ hx
    refine ⟨hC _ _ h1 hx, ?_⟩
    split
    · rename_i e; rw [if_pos e] at h2; exact hA _ _ _ h2 hx
    · rename_i e; rw [if_neg e] at h2; exact hB _ _ _ h2 hx
  · intro n hn
    rcases (by simpa using hn : n = i ∨ n = j) with rfl | rfl
    · refine ⟨by simpa using hoi, fun w h1 h2 => ?_⟩
      simp only [if_true]
      exact does_mono (hi w h1 h2) fun v w' ⟨hx, hv⟩ => ⟨h2.ext_r hx, hC _ _ h1 hx, by simpa using hv⟩
    · refine ⟨by simpa [Ne.symm hij] using hoj, fun w h1 h2 => ?_⟩
      simp only [Ne.symm hij, if_false]
      exact does_mono (hj w h1 h2) fun v w' ⟨hx, hv⟩ => ⟨h2.ext_r hx, hC _ _ h1 hx, by simpa [Ne.symm hij] using hv⟩
  · intro n hn v hv
    rcases (by simpa using hn : n = i ∨ n = j) with rfl | rfl
    · simp only [if_true] at hv ⊢
      refine Flow.acts [j] r1 (by simp) (fun _ => oj) (fun _ u w => C w ∧ D v u w) (fun _ u w w' ⟨h1, h2⟩ hx => ⟨hC _ _ h1 hx, hD _ _ _ _ h2 hx⟩) ?_ ?_
      · intro m hm
        obtain rfl : m = j := by simpa using hm
        refine ⟨hoj, fun w ⟨h1, h2⟩ h3 => ?_⟩
        rw [does_put hsj hs.1]
        exact does_mono (hi2 v w h1 h2 h3) fun u w' ⟨hx, hu⟩ => ⟨h3.ext_r hx, hC _ _ h1 hx, hu⟩
      · intro m hm u ⟨w2, _, hu⟩
        obtain rfl : m = j := by simpa using hm
        exact k v u ⟨w2, hu⟩
    · simp only [Ne.symm hij, if_false] at hv ⊢
      refine Flow.acts [i] r2 (by simp) (fun _ => oi) (fun _ u w => C w ∧ D u v w) (fun _ u w w' ⟨h1, h2⟩ hx => ⟨hC _ _ h1 hx, hD _ _ _ _ h2 hx⟩) ?_ ?_
      · intro m hm
        obtain rfl : m = i := by simpa using hm
        refine ⟨hoi, fun w ⟨h1, h2⟩ h3 => ?_⟩
        rw [does_put hsi hs.2.2]
        exact does_mono (hj2 v w h1 h2 h3) fun u w' ⟨hx, hu⟩ => ⟨h3.ext_r hx, hC _ _ h1 hx, hu⟩
      · intro m hm u ⟨w2, _, hu⟩
        obtain rfl : m = i := by simpa using hm
        have := k u v ⟨w2, hu⟩
        rw [Array.setIfInBounds_comm _ _ hij, Act.put_comm a u v hs.2.1] at this
        exact this
end
def NewM (w0 : World) (m : Nat) (w : World) : Prop := KMap Tryz.prog 3 (Value.int .i64) w m (fun _ => none) ∧ Stm w m ∧ w0.heap.size ≤ m
theorem NewM.ext {w0 w w' : World} {m : Nat} (h : NewM w0 m w) (x : Ext w w') : NewM w0 m w' := ⟨h.1.ext x, h.2.1.keep (x.keep fun _ => False) fun h => h, h.2.2⟩
theorem NewM.keep {w0 w w' : World} {m : Nat} {X : Nat → Prop} (h : NewM w0 m w) (k : Keep X w w') (hx : ¬ X m) : NewM w0 m w' := ⟨h.1.keep k hx, h.2.1.keep k hx, h.2.2⟩
theorem NewM.made {w0 w : World} (h : Ext w0 w) : NewM w0 w.heap.size (w.alloc (.map #[] 0)) := ⟨KMap.new _ _ _ _, Stm.new _, h.size⟩
structure MkS (w0 w : World) (g m1 m2 : Nat) (cs : Value → Array Value) (vf : Value) (fs : List F2) : Prop where
  ext : Ext w0 w
  blk : Blk w g (cs vf) 88
  map1 : NewM w0 m1 w
  map2 : NewM w0 m2 w
  gg : w0.heap.size ≤ g
  ne : m1 ≠ m2
  funs : w.ownsRow w0.heap.size 75 3 vf fs.length (fs.flatMap F2.cells)
  pars : ∀ x ∈ fs, IRow w0.heap.size w x.v x.f.params
section
variable {w0 w w' : World} {g m1 m2 : Nat} {cs : Value → Array Value} {vf : Value} {fs : List F2}
theorem MkS.xt (h : MkS w0 w g m1 m2 cs vf fs) (x : Ext w w') : MkS w0 w' g m1 m2 cs vf fs :=
  ⟨h.ext.trans x, h.blk.ext x, h.map1.ext x, h.map2.ext x, h.gg, h.ne, own_ext h.funs x, fun y hy => own_ext (h.pars y hy) x⟩
theorem MkS.push (h : MkS w0 w g m1 m2 cs vf fs) (hcs : ∀ u v, (cs u).setIfInBounds 1 v = cs v) (k : Keep (fun q => vf.ownBlock = some q) w w') {x : F2} {vf' : Value} (hr : w'.ownsRow w0.heap.size 75 3 vf' (fs.length + 1) (fs.flatMap F2.cells ++ x.cells)) (hx : IRow w0.heap.size w' x.v x.f.params) :
    MkS w0 (w'.setCell ⟨g, 1, none⟩ vf') g m1 m2 cs vf' (fs ++ [x]) := by
  have hX : ∀ {b : Nat}, vf.ownBlock = some b → ∃ c, Blk w b c 75 := fun hb => own_ty h.funs hb
  have hg : ¬ vf.ownBlock = some g := fun hb => by
    obtain ⟨c', hc⟩ := hX hb
    exact off_of hc (by decide) ⟨_, h.blk⟩
  have k1 := h.blk.keep k hg
  have kg : Keep (fun q => q = g) w' (w'.setCell ⟨g, 1, none⟩ vf') := (Keep.refl (fun q => q = g) w').set rfl _
  have kk : Keep (fun q => q = g ∨ vf.ownBlock = some q) w (w'.setCell ⟨g, 1, none⟩ vf') := (k.mono fun _ _ h => .inr h).set (.inl rfl) _
  have hoff : ∀ {e : TypeId}, 75 ≠ e → 88 ≠ e → ∀ b, (b = g ∨ vf.ownBlock = some b) → ¬ ∃ c, Blk w b c e := fun he1 he2 b hb => hb.elim (fun e => by rw [e]; exact off_of h.blk he2) fun hb => by
    obtain ⟨c', hc⟩ := hX hb
    exact off_of hc he1
  have hmap : ∀ {m : Nat}, NewM w0 m w → ¬ (m = g ∨ vf.ownBlock = some m) := fun hm hb => hb.elim (fun e => hm.1.not_blk (e ▸ h.blk)) fun hb => by
    obtain ⟨c', hc⟩ := hX hb
    exact hm.1.not_blk hc
  refine ⟨Keep.new h.ext kk fun b hb => hb.elim (fun e => e ▸ h.gg) fun e => (World.ownsRow.lt h.funs b e).1, ?_, h.map1.keep kk (hmap h.map1), h.map2.keep kk (hmap h.map2), h.gg, h.ne, ?_, fun y hy => ?_⟩
  · have := k1.set 1 vf'
    rwa [hcs] at this
  · rw [List.length_append, List.length_singleton, List.flatMap_append]
    have e : [x].flatMap F2.cells = x.cells := by simp
    rw [e]
    exact own_off hr kg fun b hb => by rw [hb]; exact off_of k1 (by decide)
  · rcases List.mem_append.1 hy with hy | hy
    · exact own_off (h.pars y hy) kk (hoff (by decide) (by decide))
    · rw [List.mem_singleton.1 hy]
      exact own_off hx kg fun b hb => by rw [hb]; exact off_of k1 (by decide)
end
theorem IntsF.ofRow {w : World} {F : Nat → Prop} {base : Nat} {v : Value} {l : List Int} (h : IRow base w v l) (hF : ∀ b, v.ownBlock = some b → F b) : IntsF w F v l := by
  rcases id h.2 with ⟨h1, h2⟩ | ⟨g', cap, cur, h1, h2, h3, h4, h5, _⟩
  · exact ⟨none, 0, by rw [h1, h2], by omega, by omega, fun h => by omega, fun y hy => by cases hy⟩
  · subst h1
    refine ⟨_, _, rfl, h4, by unfold maxLen at h5; omega, fun _ => ⟨_, rfl⟩, fun y hy h0 => ?_⟩
    obtain rfl := Option.some.inj hy
    refine ⟨hF _ rfl, fun i hi z hz => ?_⟩
    rw [Addr.add_lit, Nat.zero_add]
    exact own_i h hz
theorem IntsF.ofT {w : World} {F : Nat → Prop} {v : Value} {l : List Int} (h : IntsT w v l) (hF : ∀ b, IsInt w b → F b) : IntsF w F v l := by
  obtain ⟨⟨a, cap, h1, h2, h3, h4, h5⟩, hi⟩ := h
  exact ⟨a, cap, h1, h2, h3, h4, fun y hy h0 => ⟨hF _ (hi _ (by rw [h1, hy]; rfl)), (h5 y hy h0).2⟩⟩
theorem FunsF.ofRow {w : World} {F : Nat → Prop} {base : Nat} {v : Value} {fs : List F2} (h : w.ownsRow base 75 3 v fs.length (fs.flatMap F2.cells)) (hp : ∀ x ∈ fs, IntsF w F x.v x.f.params) (hF : ∀ b, v.ownBlock = some b → F b) : FunsF w F v (fs.map F2.f) := by
  rcases id h.2 with ⟨h1, h2⟩ | ⟨g', cap, cur, h1, h2, h3, h4, h5, _⟩
  · exact ⟨none, 0, by rw [h1, List.length_map, h2], by rw [List.length_map]; omega, by omega, fun h => by rw [List.length_map] at h; omega, fun y hy => by cases hy⟩
  · subst h1
    refine ⟨_, _, by rw [List.length_map], by rw [List.length_map]; exact h4, by unfold maxLen at h5; omega, fun _ => ⟨_, rfl⟩, fun y hy h0 => ?_⟩
    obtain rfl := Option.some.inj hy
    refine ⟨hF _ rfl, fun i hi f hf => ?_⟩
    rw [List.getElem?_map] at hf
    obtain ⟨x, hx, rfl⟩ := Option.map_eq_some_iff.1 hf
    have c : ∀ j u, x.cells[j]? = some u → j < 3 → w.cell? ⟨g', i * 3 + j, none⟩ = some u := fun j u hu hj => own_get h _ ((fm_get F2.cells 3 F2.cells_len fs i j x hx hj).trans hu)
    rw [Addr.add_lit, Nat.zero_add, Addr.add_lit, Addr.add_lit]
    exact ⟨x.v, c 0 _ rfl (by omega), c 1 _ rfl (by omega), c 2 _ rfl (by omega), hp x (List.mem_of_getElem? hx)⟩
theorem MkS.sh {w w0 wr : World} {g m1 m2 : Nat} {vv vs vr vf : Value} {P : PP} {me k : Nat} {fs : List F2} {rs : List R2} (h : MkS w0 wr g m1 m2 (fun vf => shCells ⟨P, me, k, vv, vf, vs, vr, rs⟩ m1 m2 (.slice none 0 0) (.slice none 0 0)) vf fs) (hx : Ext w w0) (hf : fs.map F2.f = P.funs) (hw : P.Well) (hr : RulesT wr w.heap.size vr P.rulesV rs) (hrl : ∀ b, vr.ownBlock = some b → b < w0.heap.size) (hm : me < k ∧ k ≤ 6) :
    ShAt wr (fun b => IsInt wr b ∨ (w.heap.size ≤ b ∧ b < wr.heap.size ∧ b ≠ g ∧ b ≠ m1 ∧ b ≠ m2)) (fun b => b < wr.heap.size ∧ b ≠ g ∧ b ≠ m1 ∧ b ≠ m2) g ⟨P, me, k, vv, vf, vs, vr, rs⟩ SH.none := by
  have hs := hx.size
  have hs2 := h.ext.size
  have nb : ∀ {b : Nat} {cs : Array Value} {e : TypeId}, Blk wr b cs e → e ≠ 88 → b ≠ g ∧ b ≠ m1 ∧ b ≠ m2 := fun hb he => ⟨fun e => off_of hb he ⟨_, e ▸ h.blk⟩, fun e => h.map1.1.not_blk (e ▸ hb), fun e => h.map2.1.not_blk (e ▸ hb)⟩
  have ib : ∀ {b : Nat}, IsInt wr b → b ≠ g ∧ b ≠ m1 ∧ b ≠ m2 := fun {b} hb => ⟨fun e => by
    obtain ⟨c', z, hz⟩ := hb
    have := (e ▸ h.blk : Blk wr b _ _).symm.trans hz
    simp at this, fun e => h.map1.1.not_int (e ▸ hb), fun e => h.map2.1.not_int (e ▸ hb)⟩
  refine ⟨m1, m2, fun _ => none, fun _ => none, .slice none 0 0, .slice none 0 0, [], [], h.blk, fun b hb hF => ?_, fun b hb => ?_, fun b hb => hb.1, ⟨hw, ?_, own_low hr.row (Nat.zero_le _), hr.eq, fun b hb => ?_, fun x hx => IntsF.ofT (hr.args x hx) fun b hb => .inl hb, hm⟩, ⟨h.map1.1, fun q ⟨_, hq⟩ => (by cases hq), fun n => .inl ⟨rfl, fun o ho => (by cases ho)⟩, fun _ _ _ _ hq => (by cases hq)⟩, ⟨h.map2.1, fun q ⟨_, hq⟩ => (by cases hq), fun n => .inl ⟨rfl, fun o ho => (by cases ho)⟩, fun _ _ _ _ hq => (by cases hq)⟩, h.ne, fun q ⟨_, hq⟩ => (by cases hq), fun q ⟨_, hq⟩ => (by cases hq), OwnsQ.nil _ _ _ _, rfl, fun _ hx => (by cases hx), OwnsQ.nil _ _ _ _, rfl, fun _ hx => (by cases hx), fun _ hb => (by cases hb)⟩
  · rcases hb with rfl | rfl | rfl | ⟨_, hq⟩ | ⟨_, hq⟩ | hq | hq
    · exact hF.2.1 rfl
    · exact hF.2.2.1 rfl
    · exact hF.2.2.2 rfl
    · cases hq
    · cases hq
    · cases hq
    · cases hq
  · rcases hb with hb | hb
    · exact ⟨hb.lt, ib hb⟩
    · exact hb.2
  · have h1 := FunsF.ofRow (F := fun b => IsInt wr b ∨ (w.heap.size ≤ b ∧ b < wr.heap.size ∧ b ≠ g ∧ b ≠ m1 ∧ b ≠ m2)) h.funs (fun x hx => IntsF.ofRow (h.pars x hx) fun b hb => by
      obtain ⟨c', hc⟩ := own_ty (h.pars x hx) hb
      exact .inl ⟨_, _, hc⟩) fun b hb => by
        obtain ⟨c', hc⟩ := own_ty h.funs hb
        have := World.ownsRow.lt h.funs b hb
        exact .inr ⟨by omega, this.2, nb hc (by decide)⟩
    rw [hf] at h1
    exact h1
  · have h1 := World.ownsRow.lt hr.row b hb
    obtain ⟨c', hc⟩ := own_ty hr.row hb
    exact .inr ⟨h1.1, h1.2, nb hc (by decide)⟩
theorem Made.put {w : World} {base g cap N : Nat} {vs : List Value} {L : List (List Int)} {n : Nat} {v : Value} {l : List Int} (hr : w.ownsRow base 43 1 (.slice (some ⟨g, 0, none⟩) N cap) N vs) (hm : Made w vs L) (hL : L.length = N) (hv : IntsT w v l) (hn : n < N) :
    (w.setCell ⟨g, n, none⟩ v).ownsRow base 43 1 (.slice (some ⟨g, 0, none⟩) N cap) N (vs.set n v) ∧ Made (w.setCell ⟨g, n, none⟩ v) (vs.set n v) (L.set n l) ∧ Keep (fun q => q = g) w (w.setCell ⟨g, n, none⟩ v) := by
  have k : Keep (fun q => q = g) w (w.setCell ⟨g, n, none⟩ v) := Keep.set (X := fun q => q = g) (Keep.refl _ _) rfl _
  have hni : ∀ b, b = g → ¬ IsInt w b := fun b e => by
    subst e
    obtain ⟨c, hc⟩ := own_ty hr (k := b) rfl
    exact notInt hc (by decide)
  have hvs := hm.1
  refine ⟨own_set hr n (by omega) v, ⟨by rw [List.length_set, List.length_set]; exact hvs, fun i u m hu hl => ?_⟩, k⟩
  by_cases hi : n = i
  · subst hi
    rw [List.getElem?_set_self (by omega)] at hu hl
    obtain rfl := Option.some.inj hu
    obtain rfl := Option.some.inj hl
    exact hv.keep k hni
  · rw [List.getElem?_set_ne hi] at hu hl
    exact (hm.2 i u m hu hl).keep k hni
theorem Made.one {w : World} {base g cap N : Nat} {vs : List Value} {S : List (List Int)} (hr : w.ownsRow base 43 1 (.slice (some ⟨g, 0, none⟩) N cap) N vs) (hm : Made w vs S) (hL : S.length = N) {n : Nat} (hn : n < N) : ∃ a c, w.cell? ⟨g, n, none⟩ = some (.slice a (S.getD n []).length c) ∧ IntsR w w.heap.size (.slice a (S.getD n []).length c) (S.getD n []) := by
  have hvs := hm.1
  have h1 : vs[n]? = some (vs[n]'(by omega)) := List.getElem?_eq_getElem (by omega)
  have h2 : S[n]? = some (S[n]'(by omega)) := List.getElem?_eq_getElem (by omega)
  have hT := hm.2 n _ _ h1 h2
  obtain ⟨a, c, ha⟩ := hT.form
  have e : S.getD n [] = S[n]'(by omega) := by rw [List.getD_eq_getElem?_getD, h2]; rfl
  rw [e]
  rw [ha] at h1
  exact ⟨a, c, own_get hr n h1, by rw [← ha]; exact hT.1⟩
theorem iter_total {P : PP} (hw : P.Well) : ∀ n, (∀ m, m < n → P.roundV (P.iterV m) ≠ P.iterV m) → n ≤ total (P.iterV n)
  | 0, _ => Nat.zero_le _
  | n + 1, h => by
    have h1 := iter_total hw n fun m hm => h m (by omega)
    have h2 := iter_grows hw n (h n (by omega))
    omega
theorem LeastAt.few {P : PP} (hw : P.Well) {n : Nat} {S : List (List Int)} (h : LeastAt P n S) : n ≤ 120000 := by
  have h1 := iter_total hw n fun m hm => h.first m hm
  have h2 := iter_few hw n
  omega
theorem setok_few {l : List Int} (h : chkE l = 0) (i : Nat) : l.getD i 0 ≤ 9223372036854775807 := by
  rw [List.getD_eq_getElem?_getD]
  cases hx : l[i]? with
  | none => exact (by decide : (0 : Int) ≤ 9223372036854775807)
  | some x =>
    have := (chkE_zero.1 h).1 x (List.mem_of_getElem? hx)
    show x ≤ _
    omega
def fixedP : PP := ⟨[⟨#[97]⟩, ⟨#[98]⟩], [], [⟨⟨#[97, 100, 100, 114]⟩, 0, 1, []⟩, ⟨⟨#[99, 111, 112, 121]⟩, 1, 0, []⟩]⟩
theorem fixed_well : fixedP.Well := by
  refine ⟨by decide +kernel, fun j t hj ht => ?_⟩
  have hj2 : j < 2 := hj
  rcases (by omega : j = 0 ∨ j = 1) with rfl | rfl
  · obtain rfl := Option.some.inj ht
    decide +kernel
  · obtain rfl := Option.some.inj ht
    decide +kernel
theorem fixed_least : LeastAt fixedP 2 [[1], [1]] := by
  refine ⟨by decide +kernel, by decide +kernel, fun m hm => ?_⟩
  rcases (by omega : m = 0 ∨ m = 1) with rfl | rfl <;> decide +kernel
theorem fixed_nodes : fixedP.nodesV = 2 := by decide +kernel
def fixedS : Array Value := #[.string ⟨#[97, 100, 100, 114]⟩, .int .i64 0, .int .i64 1, .slice none 0 0, .string ⟨#[99, 111, 112, 121]⟩, .int .i64 1, .int .i64 0, .slice none 0 0]
theorem fixed_prog {w : World} {a b n0 : Nat} (ha : Blk w a #[.string ⟨#[97]⟩, .string ⟨#[98]⟩] 9) (hb : Blk w b fixedS 73) (h1 : a < n0) (h2 : b < n0) : ProgR w n0 (.slice (some ⟨a, 0, none⟩) 2 2) (.slice none 0 0) (.slice (some ⟨b, 0, none⟩) 2 2) fixedP := by
  refine ⟨⟨_, 2, rfl, by decide, by decide, fun _ => ⟨_, rfl⟩, fun y hy _ => ?_⟩, ⟨_, 0, rfl, by decide, by decide, fun h => absurd h (by decide), fun y hy => by cases hy⟩, ⟨_, 2, rfl, by decide, by decide, fun _ => ⟨_, rfl⟩, fun y hy _ => ?_⟩⟩
  · obtain rfl := Option.some.inj hy
    refine ⟨h1, fun i hi s hs => ?_⟩
    have hi2 : i < 2 := hi
    rcases (by omega : i = 0 ∨ i = 1) with rfl | rfl
    · obtain rfl := Option.some.inj hs
      exact ha.av 0 rfl
    · obtain rfl := Option.some.inj hs
      exact ha.av 1 rfl
  · obtain rfl := Option.some.inj hy
    refine ⟨h2, fun i hi s hs => ?_⟩
    have hi2 : i < 2 := hi
    have hn : IntsR w n0 (.slice none 0 0) [] := ⟨none, 0, rfl, by decide, by decide, fun h => absurd h (by decide), fun y hy => by cases hy⟩
    rcases (by omega : i = 0 ∨ i = 1) with rfl | rfl
    · obtain rfl := Option.some.inj hs
      exact ⟨.slice none 0 0, hb.av 0 rfl, hb.av 1 rfl, hb.av 2 rfl, hb.av 3 rfl, hn⟩
    · obtain rfl := Option.some.inj hs
      exact ⟨.slice none 0 0, hb.av 4 rfl, hb.av 5 rfl, hb.av 6 rfl, hb.av 7 rfl, hn⟩
theorem IsInt.back {w w' : World} {b : Nat} (h : IsInt w' b) (x : Ext w w') (hb : b < w.heap.size) : IsInt w b := by
  obtain ⟨c, z, hz⟩ := h
  obtain ⟨o, ho⟩ : ∃ o, w.heap[b]? = some o := ⟨_, Array.getElem?_eq_getElem hb⟩
  have := (Ext.get x ho).symm.trans hz
  exact ⟨c, z, ho.trans this⟩
def NewV (w0 : World) (v : Value) (w : World) : Prop := ∃ m, v = .map (some m) ∧ NewM w0 m w
theorem NewV.ext {w0 w w' : World} {v : Value} (h : NewV w0 v w) (x : Ext w w') : NewV w0 v w' := by
  obtain ⟨m, h1, h2⟩ := h
  exact ⟨m, h1, h2.ext x⟩
theorem NewV.made {w0 w : World} (h : Ext w0 w) : NewV w0 (.map (some w.heap.size)) (w.alloc (.map #[] 0)) := ⟨_, rfl, NewM.made h⟩
def NewVV (w0 : World) (u v : Value) (w : World) : Prop := ∃ m1 m2, u = .map (some m1) ∧ v = .map (some m2) ∧ m1 ≠ m2 ∧ NewM w0 m1 w ∧ NewM w0 m2 w
theorem NewVV.ext {w0 w w' : World} {u v : Value} (h : NewVV w0 u v w) (x : Ext w w') : NewVV w0 u v w' := by
  obtain ⟨m1, m2, h1, h2, h3, h4, h5⟩ := h
  exact ⟨m1, m2, h1, h2, h3, h4.ext x, h5.ext x⟩
theorem NewV.two {w0 w : World} {u : Value} (h : NewV w0 u w) (x : Ext w0 w) : NewVV w0 u (.map (some w.heap.size)) (w.alloc (.map #[] 0)) ∧ NewVV w0 (.map (some w.heap.size)) u (w.alloc (.map #[] 0)) := by
  obtain ⟨m, rfl, hM⟩ := h
  have hlt := hM.1.lt
  exact ⟨⟨m, _, rfl, rfl, by omega, hM.ext ((Ext.refl _).alloc _), NewM.made x⟩, ⟨_, m, rfl, rfl, by omega, NewM.made x, hM.ext ((Ext.refl _).alloc _)⟩⟩
def NewBox (w0 : World) (m1 m2 : Nat) (cs : Array Value) (v : Value) (w : World) : Prop := ∃ g, v = .pointer (some ⟨g, 0, none⟩) ∧ Blk w g cs 88 ∧ w0.heap.size ≤ g ∧ NewM w0 m1 w ∧ NewM w0 m2 w ∧ Ext w0 w
theorem NewBox.ext {w0 w w' : World} {m1 m2 : Nat} {cs : Array Value} {v : Value} (h : NewBox w0 m1 m2 cs v w) (x : Ext w w') : NewBox w0 m1 m2 cs v w' := by
  obtain ⟨g, h1, h2, h3, h4, h5, h6⟩ := h
  exact ⟨g, h1, h2.ext x, h3, h4.ext x, h5.ext x, h6.trans x⟩
theorem NewBox.made {w0 w : World} {m1 m2 : Nat} (h : Ext w0 w) (h1 : NewM w0 m1 w) (h2 : NewM w0 m2 w) (cs : Array Value) : NewBox w0 m1 m2 cs (.pointer (some ⟨w.heap.size, 0, none⟩)) (w.alloc (.cells cs 88)) :=
  ⟨_, rfl, Blk.new _ _ _, h.size, h1.ext ((Ext.refl _).alloc _), h2.ext ((Ext.refl _).alloc _), h.alloc _⟩
def NewSh (P : PP) (me kk : Nat) (w w' : World) (e : Ending) : Prop :=
  ∃ (g : Nat) (c : SC) (G F : Nat → Prop) (u : Value) (t : SH) (os : List N2), e = .returned (.tuple #[.pointer (some ⟨g, 0, none⟩), u, .nilIface]) ∧ c.P = P ∧ c.me = me ∧ c.k = kk ∧ Runs P (me : Nat) (kk : Nat) (SH.start P (me : Nat) (kk : Nat)) t ∧ t.todo = [] ∧ ShAt w' G F g c { t with out := [] } ∧ NotesR w' F u t.out os ∧ (∀ b, b < w.heap.size → F b) ∧ (∀ b, IsInt w' b → F b) ∧ (∀ b, G b → IsInt w b ∨ w.heap.size ≤ b) ∧ Ext w w'
set_option maxRecDepth 100000 in
set_option maxHeartbeats 12800000 in
theorem shardnew_yes (a1 a2 a3 : Option Addr) (c1 c2 c3 : Nat) (P : PP) (me kk : Nat) (w : World) (n0 : Nat) (ad : Nat → Addr) (h : PW w n0 ad a1 a2 a3 c1 c2 c3 P) (hn0 : n0 ≤ w.heap.size) (hm : me < kk ∧ kk ≤ 6) :
    Calls Tryz.prog 11 #[pval a1 a2 a3 c1 c2 c3 P, .int .i64 (me : Int), .int .i64 (kk : Int)] w fun e w' => NewSh P me kk w w' e := by
  obtain ⟨hf1, hf2, hf3⟩ := h.well.few
  obtain ⟨hnn, hoo⟩ := h.well.nodes
  obtain ⟨W, hW⟩ : ∃ W, W = w.alloc (.cells (pcells a1 a2 a3 c1 c2 c3 P) 26) := ⟨_, rfl⟩
  have HX : Hid (Ext w W) := hid (by rw [hW]; exact (Ext.refl _).alloc _)
  have HBx : Hid (Blk W w.heap.size (pcells a1 a2 a3 c1 c2 c3 P) 26) := hid (by rw [hW]; exact Blk.new _ _ _)
  have HWe : Hid (W = w.alloc (.cells #[.slice a1 P.vars.length c1, .slice a2 P.funs.length c2, .slice a3 P.stmts.length c3] 26)) := hid (by rw [hW]; rfl)
  have HPW := hid (h.ext HX.out)
  have Hwl := hid h.well
  have HC := hid (consof_yes a1 a2 a3 c1 c2 c3 P W n0 ad HPW.out)
  have Hn0 := hid (Nat.le_trans hn0 HX.out.size)
  have d0 := HBx.out.av 0 rfl
  have d1 := HBx.out.av 1 rfl
  have d2 := HBx.out.av 2 rfl
  simp only [pcells, qA0, qA1, qA2] at d0 d1 d2
  rw [HWe.out] at d0 d1 d2
  have Hm := hid hm
  have i1 : decide ((kk : Int) < 1) = false := decide_eq_false (by omega)
  have i2 : decide ((6 : Int) < (kk : Int)) = false := decide_eq_false (by omega)
  have i3 : decide ((me : Int) < 0) = false := decide_eq_false (by omega)
  have i4 : decide ((kk : Int) ≤ (me : Int)) = false := decide_eq_false (by omega)
  have j1 : (kk = 0) = False := by simp; omega
  have j2 : (6 < kk) = False := by simp; omega
  have j3 : (kk ≤ me) = False := by simp; omega
  have j4 : ((kk : Int) < 1) = False := by simp; omega
  have j5 : ((6 : Int) < (kk : Int)) = False := by simp; omega
  unfold pval at HC ⊢
  clear hW h hn0 hm
  go_enter Tryz.func11, Tryz.ntmps11
  go_wp2_with fail
  rw [← HWe.out]
  refine HC.out.mono ?_
  intro e w1 hx
  obtain ⟨v, rs, rfl, hi, hx1⟩ := hx
  obtain ⟨av, cv, rfl⟩ := row_form hi.row
  have HI := hid hi
  have Hx1 := hid hx1
  clear HC hi hx1 d0 d1 d2
  have d0 := (HBx.out.ext Hx1.out).kc (X := fun _ => False) (fun e => e) 0 rfl
  have d1 := (HBx.out.ext Hx1.out).kc (X := fun _ => False) (fun e => e) 1 rfl
  have d2 := (HBx.out.ext Hx1.out).kc (X := fun _ => False) (fun e => e) 2 rfl
  simp only [pcells, qA0, qA1, qA2] at d0 d1 d2
  have HNo := fun w3 (x : Ext w1 w3) => hid (prognodes_any a1 a2 a3 c1 c2 c3 P w3 n0 ad (HPW.out.ext (Hx1.out.trans x)).errs (HPW.out.ext (Hx1.out.trans x)).prog HPW.out.z1 HPW.out.z2 HPW.out.well)
  have HOb := fun w3 (x : Ext w1 w3) => hid (progobjects_any a1 a2 a3 c1 c2 c3 P w3 n0 ad (HPW.out.ext (Hx1.out.trans x)))
  unfold pval at HNo HOb
  have hmm := @run_makeMap Tryz.prog
  go_wp2
  refine wp_flow (fun _ => False) (by kernel_rfl) (by kernel_rfl) ?_
  apply Flow.d 0 _ rfl (by simp) (by kernel_rfl)
  · intro w1 hk; unfold does; go_simp; (try go_ints); exact DetR.mk
  simp only [qA0, qA1, qA2, Act.put, qS0, qS1, qS2]
  apply Flow.d 1 _ rfl (by simp) (by kernel_rfl)
  · intro w1 hk; unfold does; go_simp; (try go_ints); exact DetR.mk
  simp only [qA0, qA1, qA2, Act.put, qS0, qS1, qS2]
  apply Flow.d 2 _ rfl (by simp) (by kernel_rfl)
  · intro w1 hk; unfold does; go_simp; (try go_ints); exact DetR.mk
  simp only [qA0, qA1, qA2, Act.put, qS0, qS1, qS2]
  apply Flow.d 3 _ rfl (by simp) (by kernel_rfl)
  · intro w1 hk; unfold does; go_simp; (try go_ints); exact DetR.mk
  simp only [qA0, qA1, qA2, Act.put, qS0, qS1, qS2]
  apply Flow.d 4 _ rfl (by simp) (by kernel_rfl)
  · intro w1 hk; unfold does; go_simp; (try go_ints); exact DetR.mk
  simp only [qA0, qA1, qA2, Act.put, qS0, qS1, qS2]
  apply Flow.d 5 _ rfl (by simp) (by kernel_rfl)
  · intro w3 hk
    unfold does
    go_simp
    exact CallR.det (HNo w3 hk.ext).out
  simp only [qA0, qA1, qA2, Act.put, qS0, qS1, qS2]
  apply Flow.d 6 _ rfl (by simp) (by kernel_rfl)
  · intro w1 hk; unfold does; go_simp; (try go_ints); exact DetR.mk
  simp only [qA0, qA1, qA2, Act.put, qS0, qS1, qS2]
  apply Flow.d 7 _ rfl (by simp) (by kernel_rfl)
  · intro w3 hk
    unfold does
    go_simp
    exact CallR.det (HOb w3 hk.ext).out
  simp only [qA0, qA1, qA2, Act.put, qS0, qS1, qS2]
  refine Flow.par2j 8 9 _ _ rfl rfl (by decide) (fun _ _ h => by cases h) (fun _ _ h => by cases h) (by kernel_rfl) (by kernel_rfl) (by kernel_rfl) (by kernel_rfl)
    (NewV w1) (NewV w1) (NewVV w1) (fun _ _ h x => h.trans x) (fun _ _ _ h x => h.ext x) (fun _ _ _ h x => h.ext x) (fun _ _ _ _ h x => h.ext x) ?_ ?_ ?_ ?_ ?_
  · intro w3 hC hk
    unfold does
    go_simp
    exact ⟨(Ext.refl _).alloc _, NewV.made hC⟩
  · intro w3 hC hk
    unfold does
    go_simp
    exact ⟨(Ext.refl _).alloc _, NewV.made hC⟩
  · intro vi w3 hC hA hk
    unfold does
    go_simp
    exact ⟨(Ext.refl _).alloc _, (hA.two hC).1⟩
  · intro vi w3 hC hA hk
    unfold does
    go_simp
    exact ⟨(Ext.refl _).alloc _, (hA.two hC).2⟩
  rintro _ _ ⟨_, m1, m2, rfl, rfl, hm12, _⟩
  simp only [qA0, qA1, qA2, Act.put, qS0, qS1, qS2]
  apply Flow.d 10 _ rfl (by simp) (by kernel_rfl)
  · intro w1 hk; unfold does; go_simp; (try go_ints); exact DetR.mk
  simp only [qA0, qA1, qA2, Act.put, qS0, qS1, qS2]
  refine Flow.one 11 _ rfl (by kernel_rfl) (NewBox w1 m1 m2 #[.slice a1 P.vars.length c1, .slice a2 P.funs.length c2, .slice a3 P.stmts.length c3, .slice av P.rulesV.length cv, .int .i64 (me : Int), .int .i64 (kk : Int), .int .i64 (P.nodesV : Int), .int .i64 (P.objectsV : Int), .map (some m1), .map (some m2), .slice none 0 0, .slice none 0 0]) (fun _ _ _ h y => h.ext y) (fun w3 hC hk => ?_) ?_
  · obtain ⟨hx3, m1', m2', e1, e2, _, hM1, hM2⟩ := hC
    simp only [Value.map.injEq, Option.some.injEq] at e1 e2
    subst e1
    subst e2
    unfold does
    go_simp
    exact ⟨hk.alloc _, NewBox.made hx3 hM1 hM2 _⟩
  rintro _ ⟨_, g, rfl, _⟩
  simp only [qA0, qA1, qA2, Act.put, qS0, qS1, qS2]
  apply Flow.d 12 _ rfl (by simp) (by kernel_rfl)
  · intro w1 hk; unfold does; go_simp; (try go_ints); exact DetR.mk
  simp only [qA0, qA1, qA2, Act.put, qS0, qS1, qS2]
  refine Flow.fin (by kernel_rfl) fun w4 hC4 hk4 => ?_
  obtain ⟨g', eg, hB4, hg4, hM1, hM2, hx4⟩ := hC4
  simp only [Value.pointer.injEq, Option.some.injEq, Addr.mk.injEq, and_true] at eg
  subst eg
  have f1 := hB4.free 1
  have hgw : g ≠ w.heap.size := by
    have := HBx.out.lt
    have := Hx1.out.size
    omega
  obtain ⟨W4, hW4⟩ : ∃ W4, W4 = w4.setCell ⟨g, 1, none⟩ (.slice none 0 0) := ⟨_, rfl⟩
  have kW4 : Keep (fun q => q = g) w4 W4 := by rw [hW4]; exact (Keep.refl (fun q => q = g) w4).set rfl _
  have HMk : Hid (MkS w1 W4 g m1 m2 (fun vf => shCells ⟨P, me, kk, .slice a1 P.vars.length c1, vf, .slice a3 P.stmts.length c3, .slice av P.rulesV.length cv, rs⟩ m1 m2 (.slice none 0 0) (.slice none 0 0)) (.slice none 0 0) []) := hid ⟨Keep.new hx4 kW4 fun b hb => hb ▸ hg4, (by
    have := hB4.set 1 (.slice none 0 0)
    rw [← hW4] at this
    exact this), hM1.keep kW4 (fun e => hM1.1.ne hB4 e.symm), hM2.keep kW4 (fun e => hM2.1.ne hB4 e.symm), hg4, hm12, World.ownsRow_nil _ _ _ _, fun _ h => (by cases h)⟩
  have e1 := ((HBx.out.ext (Hx1.out.trans hx4)).keep kW4 hgw.symm).av 1 rfl
  have b1 := hB4.av 1 rfl
  simp only [pcells, qA0, qA1, qA2] at e1 b1
  rw [hW4] at e1
  have HW4 := hid hW4
  clear d0 d1 d2 hB4 hM1 hM2 hx4 hk4 HNo HOb hmm hW4 kW4 hgw hg4 i1 i2 i3 i4 j1 j2 j3 j4 j5
  go_wp2
  rw [← HW4.out]
  go_loopw [59] (fun t59 wr => ∃ (k : Nat) (vf : Value) (fs : List F2), t59 = .int .i64 (k : Int) ∧ k ≤ P.funs.length ∧ fs.length = k ∧ fs.map F2.f = P.funs.take k ∧ MkS w1 wr g m1 m2 (fun vf => shCells ⟨P, me, kk, .slice a1 P.vars.length c1, vf, .slice a3 P.stmts.length c3, .slice av P.rulesV.length cv, rs⟩ m1 m2 (.slice none 0 0) (.slice none 0 0)) vf fs) (fun t59 _ => P.funs.length - (intOf t59).toNat)
  case atStart => exact ⟨0, _, [], rfl, Nat.zero_le _, rfl, by simp, HMk.out⟩
  case round =>
    clear HMk e1 b1 f1
    obtain ⟨k, vf, fs, rfl, hk, hfl, hfm, hMk⟩ := hrel
    have HMk := hid hMk
    have Hfm := hid hfm
    clear hMk hfm
    by_cases hlt : k < P.funs.length
    ·
      obtain ⟨y, f, av2, cv2, rfl, hq, e0, e1, e2, hI⟩ := (HPW.out.ext (Hx1.out.trans HMk.out.ext)).prog.funs.at hlt
      have hpf := (PP.goodF (PP.funs_ok Hwl.out.1) (List.mem_of_getElem? hq)).few
      obtain ⟨fa, fc, hfv⟩ := row_form HMk.out.funs
      rw [hfl] at hfv
      subst hfv
      obtain ⟨W5, hW5⟩ : ∃ W5, W5 = wr.alloc (.cells #[.string f.name, .slice av2 f.params.length cv2, .int .i64 f.ret] 75) := ⟨_, rfl⟩
      have hx5 : Ext wr W5 := by rw [hW5]; exact (Ext.refl _).alloc _
      have HB5 : Hid (Blk W5 wr.heap.size #[.string f.name, .slice av2 f.params.length cv2, .int .i64 f.ret] 75) := hid (by rw [hW5]; exact Blk.new _ _ _)
      have HN := hid (clone_big _ f.params W5 n0 (hI.old (hx5.old _)) (by omega))
      have Hnx : Hid (∀ v, (fs ++ [(⟨f, v⟩ : F2)]).map F2.f = P.funs.take (k + 1)) := hid fun v => by
        rw [List.map_append, Hfm.out, List.take_add_one, hq]; rfl
      have Hx5 := hid hx5
      have HW5 := hid hW5
      have Hfl := hid hfl
      have y1 := HB5.out.av 1 rfl
      simp only [qA0, qA1, qA2] at y1
      rw [hW5] at y1
      clear hq hI hfl hx5 hW5 hpf
      go_wp2_with fail
      rw [← HW5.out]
      refine HN.out.mono ?_
      intro e w6 hx
      obtain ⟨v6, rfl, hx6, hr6⟩ := hx
      obtain ⟨b6, c6, rfl⟩ := row_form hr6
      have hB6 := HB5.out.ext hx6
      have z1 := hB6.av 1 rfl
      have fz1 := hB6.free 1
      have hB7 := hB6.set 1 (.slice b6 f.params.length c6)
      obtain ⟨W7, hW7⟩ : ∃ W7, W7 = w6.setCell ⟨wr.heap.size, 1, none⟩ (.slice b6 f.params.length c6) := ⟨_, rfl⟩
      rw [← hW7] at hB7
      have k7 : Keep (fun q => q = wr.heap.size) w6 W7 := by rw [hW7]; exact Keep.set (X := fun q => q = wr.heap.size) (Keep.refl _ _) rfl _
      simp only [qS0, qS1, qS2, qA0, qA1, qA2] at z1 hB7
      have hx7 : Ext wr W7 := Keep.new (Hx5.out.trans hx6) k7 fun q e => Nat.le_of_eq e.symm
      have HM7 := hid (HMk.out.xt hx7)
      have HR7 : Hid (IRow w1.heap.size W7 (.slice b6 f.params.length c6) f.params) := hid (own_low (row_keep hr6 k7 fun b hb e => by
        have := hr6.lt hb
        rw [e] at this
        have := Hx5.out.size
        have h3 : W5.heap.size = wr.heap.size + 1 := by rw [HW5.out, heap_size_alloc]
        omega) (Nat.le_trans HMk.out.ext.size Hx5.out.size))
      have hXq : ∀ (b : Nat) (e : TypeId), (Value.slice fa k fc).ownBlock = some b → 75 ≠ e → ∀ c, ¬ Blk W7 b c e := fun _ _ hb he c' hc => by
        have h1 := HM7.out.funs
        obtain ⟨c'', hc'⟩ := own_ty h1 hb
        exact off_of hc' he ⟨_, hc⟩
      have hXw : ¬ (Value.slice fa k fc).ownBlock = some wr.heap.size := fun hb => by
        have := World.ownsRow.lt HMk.out.funs _ hb
        omega
      have q1 := HM7.out.blk.kc (X := fun q => (Value.slice fa k fc).ownBlock = some q) (fun hb => hXq _ _ hb (by decide) _ HM7.out.blk) 1 rfl
      have y0 := hB7.kc (X := fun q => (Value.slice fa k fc).ownBlock = some q) hXw 0 rfl
      have y1 := hB7.kc (X := fun q => (Value.slice fa k fc).ownBlock = some q) hXw 1 rfl
      have y2 := hB7.kc (X := fun q => (Value.slice fa k fc).ownBlock = some q) hXw 2 rfl
      simp only [shCells, qA0, qA1, qA2] at y0 y1 y2 q1
      have Hx7 := hid hx7
      have HW7 := hid hW7
      have HXq := hid hXq
      have HRo : Hid (W7.ownsRow w1.heap.size 75 3 (.slice fa k fc) k (fs.flatMap F2.cells)) := hid (by have := HM7.out.funs; rwa [Hfl.out] at this)
      clear HN hx6 hr6 hB6 hB7 k7 hx7 hW7 hXq hXw
      go_wp2
      rw [← HW7.out]
      refine wp_flowT (fun q => (Value.slice fa k fc).ownBlock = some q) (by kernel_rfl) (by kernel_rfl) ?_
      repeat (apply FlowT.d; (intro w1 hk; unfold does; go_simp; (try go_ints); (first | exact DetR.mk | (simp only [↓IntWalk.iteOmega, Oper.doesUpon_value]; exact DetR.mk) | (simp only [↓IntWalk.iteOmega]; go_simp; (try go_ints); exact DetR.mk))); simp only [Act.put, qS0, qS1, qS2])
      refine FlowT.s (fun v' w' => ∃ q, v' = .slice (some ⟨q, 0, none⟩) 1 1 ∧ Blk w' q #[.string f.name, .slice b6 f.params.length c6, .int .i64 f.ret] 75 ∧ Ext W7 w') 7 rfl (by kernel_rfl) (fun _ _ _ ⟨q, h1, h2, h3⟩ he => ⟨q, h1, h2.ext he, h3.trans he⟩) (fun w8 hC hk => ?_) ?_
      · unfold does
        go_simp
        exact ⟨hk.alloc _, _, rfl, Blk.new _ _ _, hC.alloc _⟩
      rintro _ ⟨_, q3, rfl, _, _⟩
      simp only [Act.put, qS0, qS1, qS2]
      refine FlowT.s (fun v' w' => (∃ a c, v' = .slice a (k + 1) c) ∧ w'.ownsRow w1.heap.size 75 3 v' (k + 1) (fs.flatMap F2.cells ++ F2.cells ⟨f, .slice b6 f.params.length c6⟩)) 8 rfl (by kernel_rfl) (fun _ _ _ ⟨h1, h2⟩ he => ⟨h1, own_ext h2 he⟩) (fun w8 hC hk => ?_) ?_
      · obtain ⟨q', e, hg, hE⟩ := hC
        obtain rfl : q3 = q' := by simpa using e
        exact does_append_el w1.heap.size (Nat.le_trans HM7.out.ext.size hE.size) 23 75 (.agg #[.string ⟨#[]⟩, .slice none 0 0, .int .i64 0]) 3 48 Tryz.underlying23 fun_info rfl (by omega) (by omega) rfl _ _ rfl _ _ _ rfl (own_ext HRo.out hE) q3 (F2.cells ⟨f, .slice b6 f.params.length c6⟩) rfl (by simp [F2.cells, Value.oneCell']) rfl hg (by omega) fun v' w' h1 h2 h3 => ⟨hk.trans h2, row_form h1, h1⟩
      rintro _ ⟨_, ⟨a9, c9, rfl⟩, _⟩
      simp only [Act.put, qS0, qS1, qS2]
      apply FlowT.l 9 rfl
      · intro w1; unfold does; go_simp; exact DetR.mk
      simp only [Act.put, qS0, qS1, qS2]
      repeat (apply FlowT.d; (intro w1 hk; unfold does; go_simp; (try go_ints); (first | exact DetR.mk | (simp only [↓IntWalk.iteOmega, Oper.doesUpon_value]; exact DetR.mk) | (simp only [↓IntWalk.iteOmega]; go_simp; (try go_ints); exact DetR.mk))); simp only [Act.put, qS0, qS1, qS2])
      refine FlowT.t (fun q => q = g ∨ (Value.slice fa k fc).ownBlock = some q) (fun _ w' => MkS w1 w' g m1 m2 (fun vf => shCells ⟨P, me, kk, .slice a1 P.vars.length c1, vf, .slice a3 P.stmts.length c3, .slice av P.rulesV.length cv, rs⟩ m1 m2 (.slice none 0 0) (.slice none 0 0)) (.slice a9 (k + 1) c9) (fs ++ [⟨f, .slice b6 f.params.length c6⟩])) 12 rfl (by kernel_rfl) (by kernel_rfl) (fun _ _ _ h y => h.xt y) (fun w8 hC hk => ?_) ?_
      · obtain ⟨_, hq⟩ := hC
        have q8 := q1 w8 hk
        have f8 := (HM7.out.blk.keep hk fun hb => HXq.out _ _ hb (by decide) _ HM7.out.blk).free 1
        unfold does
        go_simp
        refine ⟨(hk.mono fun _ _ h => .inr h).set (.inl rfl) _, HM7.out.push (fun _ _ => rfl) hk (by rw [Hfl.out]; exact hq) ?_⟩
        exact own_off HR7.out hk fun b hb ⟨c', hc⟩ => HXq.out _ _ hb (by decide) c' hc
      rintro _ ⟨_, _⟩
      simp only [Act.put, qS0, qS1, qS2]
      refine FlowT.fin fun w9 hR hk9 => ?_
      have HM9 := hid hR
      clear hR hk9 q1 y0 y1 y2
      go_wp2
      go_roundw
      case rel => exact ⟨k + 1, _, _, by go_num, by omega, by rw [List.length_append, Hfl.out]; rfl, Hnx.out _, HM9.out⟩
      case measure => simp [intOf]; omega
    · obtain rfl : k = P.funs.length := by omega
      rw [List.take_length] at Hfm
      have hx := HX.out.trans Hx1.out
      have hRw : RulesT wr w.heap.size (.slice av P.rulesV.length cv) P.rulesV rs := (HI.out.ext HMk.out.ext).low HX.out.size
      have hSA := HMk.out.sh (w := w) hx Hfm.out Hwl.out hRw (fun b hb => (World.ownsRow.lt HI.out.row b hb).2) Hm.out
      obtain ⟨c, hc⟩ : ∃ c, c = (⟨P, me, kk, .slice a1 P.vars.length c1, vf, .slice a3 P.stmts.length c3, .slice av P.rulesV.length cv, rs⟩ : SC) := ⟨_, rfl⟩
      rw [← hc] at hSA
      have HcR : Hid (c.vr = .slice av P.rulesV.length cv ∧ c.rs = rs ∧ c.P = P ∧ P.rulesV.length = rs.length ∧ rs.map R2.r = P.rulesV ∧ c.me = me ∧ c.k = kk) := hid ⟨by rw [hc], by rw [hc], by rw [hc], by rw [← hRw.eq, List.length_map], hRw.eq, by rw [hc], by rw [hc]⟩
      have HXwr := hid (hx.trans HMk.out.ext)
      have HGi : Hid (∀ b, (IsInt wr b ∨ (w.heap.size ≤ b ∧ b < wr.heap.size ∧ b ≠ g ∧ b ≠ m1 ∧ b ≠ m2)) → IsInt w b ∨ w.heap.size ≤ b) := hid fun b hb => by
        rcases hb with hb | hb
        · rcases Nat.lt_or_ge b w.heap.size with h1 | h1
          · exact .inl (hb.back HXwr.out h1)
          · exact .inr h1
        · exact .inr hb.1
      have HFo : Hid (∀ b, b < w.heap.size → b < wr.heap.size ∧ b ≠ g ∧ b ≠ m1 ∧ b ≠ m2) := hid fun b hb => by
        have h1 := hx.size
        have h2 := HXwr.out.size
        have h3 := HMk.out.gg
        have h4 := HMk.out.map1.2.2
        have h5 := HMk.out.map2.2.2
        omega
      have HFn : Hid (∀ b, b < wr.heap.size ∧ b ≠ g ∧ b ≠ m1 ∧ b ≠ m2 → True) := hid fun _ _ => trivial
      have HSA := hid hSA
      generalize hG : (fun b => IsInt wr b ∨ (w.heap.size ≤ b ∧ b < wr.heap.size ∧ b ≠ g ∧ b ≠ m1 ∧ b ≠ m2)) = G at HSA
      generalize hF : (fun b => b < wr.heap.size ∧ b ≠ g ∧ b ≠ m1 ∧ b ≠ m2) = F at HSA
      have HG : Hid (∀ b, G b → IsInt w b ∨ w.heap.size ≤ b) := hid fun b hb => HGi.out b (by rw [← hG] at hb; exact hb)
      have HF : Hid (∀ b, b < w.heap.size → F b) := hid fun b hb => by rw [← hF]; exact HFo.out b hb
      have hrl : P.rulesV.length ≤ 80 := by rw [rulesV_len]; exact hf3
      obtain ⟨wA, hwA⟩ : ∃ wA, wA = wr := ⟨_, rfl⟩
      rw [← hwA] at HXwr
      have HwA := hid hwA
      clear HMk Hfm hx hRw hSA hc HGi HFo HFn hG hF hwA HI HPW HBx hlt hk hfl
      go_wp2
      go_loopw [82] (fun t82 wr => ∃ j : Nat, t82 = .int .i64 (j : Int) ∧ j ≤ P.rulesV.length ∧ ShAt wr G F g c ((P.rulesV.take j).foldl (SH.begin (me : Nat) (kk : Nat)) SH.none) ∧ Keep (fun b => ¬ F b) wA wr) (fun t82 _ => P.rulesV.length - (intOf t82).toNat)
      case atStart => exact ⟨0, rfl, Nat.zero_le _, HSA.out, by rw [HwA.out]; exact Keep.refl _ _⟩
      case round =>
        clear HSA HwA
        obtain ⟨j, rfl, hj, hS9, hK9⟩ := hrel
        have HK9 := hid hK9
        clear hK9
        by_cases hlt : j < P.rulesV.length
        ·
          obtain ⟨T0, hT0⟩ : ∃ T0, T0 = (P.rulesV.take j).foldl (SH.begin (me : Nat) (kk : Nat)) SH.none := ⟨_, rfl⟩
          rw [← hT0] at hS9
          have HS9 := hid hS9
          obtain ⟨m1b, m2b, f1b, f2b, vtb, vob, tsb, osb, hh⟩ := hS9
          have hrr := hh.con.rrow
          rw [HcR.out.1, HcR.out.2.1, HcR.out.2.2.1] at hrr
          obtain ⟨gr, cr', hge⟩ := own_some hrr (by omega)
          simp only [Value.slice.injEq] at hge
          obtain ⟨rfl, -, rfl⟩ := hge
          obtain ⟨x, hxk⟩ : ∃ x, rs[j]? = some x := ⟨_, List.getElem?_eq_getElem (by rw [← HcR.out.2.2.2.1]; exact hlt)⟩
          obtain ⟨q0, q1, q2, q3, q4⟩ := own_r hrr hxk
          have hI := hh.con.rargs x (by rw [HcR.out.2.1]; exact List.mem_of_getElem? hxk)
          obtain ⟨aa, ca, hav, -⟩ := hI.form
          have hsk : P.rulesV[j]? = some x.r := by rw [← HcR.out.2.2.2.2.1, List.getElem?_map, hxk]; rfl
          obtain ⟨r, xv⟩ := x
          simp only at hav q0 q1 q2 q3 q4 hI hsk
          subst hav
          have hrm : r ∈ P.rulesV := List.mem_of_getElem? hsk
          have hra := rule_a Hwl.out hrm
          have hld : T0.load ≤ 80 := by
            rw [hT0]
            have := (begins_adds (me := (me : Nat)) (k := (kk : Nat)) Hwl.out j).load
            have h0 : SH.none.load = 0 := rfl
            omega
          have Hcp := hid (fun h => rule_copy Hwl.out hrm h)
          have Hn : Hid ((P.rulesV.take (j + 1)).foldl (SH.begin (me : Nat) (kk : Nat)) SH.none = SH.begin (me : Nat) (kk : Nat) T0 r) := hid (by rw [List.take_add_one, hsk, List.foldl_append, hT0]; rfl)
          obtain ⟨V, hV⟩ : ∃ V, V = wr.alloc (.cells #[.string r.kind, .int .i64 r.a, .int .i64 r.b, .int .i64 r.k, .slice aa r.args.length ca] 90) := ⟨_, rfl⟩
          have HVx : Hid (Ext wr V) := hid (by rw [hV]; exact (Ext.refl _).alloc _)
          have hBr : Blk V wr.heap.size #[.string r.kind, .int .i64 r.a, .int .i64 r.b, .int .i64 r.k, .slice aa r.args.length ca] 90 := by rw [hV]; exact Blk.new _ _ _
          obtain ⟨a, ha⟩ := Int.eq_ofNat_of_zero_le hra.1
          have HVe := hid hV
          have HO := hid (shardowner_any c T0 a V G F g (HS9.out.ext HVx.out) (by omega))
          rw [HcR.out.2.2.2.2.2.2] at HO
          have m1' := hBr.av 1 rfl
          simp only [qA0, qA1, qA2] at m1'
          rw [hV, ha] at m1'
          have hal : (r.args.length : Int) ≤ 9223372036854775807 := by obtain ⟨_, cap, h1, h2, h3, _⟩ := hI.form; omega
          have Hra := hid ha
          have hra1 := hid (show (a : Int) < 120 by have := hra.2; rw [ha] at this; omega)
          have Hld := hid hld
          have HBr := hid hBr
          have Hmc : Hid (r.a % ((kk : Nat) : Int) = ((a % kk : Nat) : Int)) := hid (by rw [ha, natmod])
          obtain ⟨ow, how⟩ : ∃ ow, ow = a % kk := ⟨_, rfl⟩
          rw [← how] at HO Hmc
          clear hh hrr hxk hI hsk hV hT0 hBr hra hrm hld ha how
          rw [Hra.out] at q1 HVe
          go_wp2_with fail
          rw [← HVe.out]
          refine HO.out.mono ?_
          intro z w5 hx
          obtain ⟨rfl, hx5⟩ := hx
          have HxV := hid (HVx.out.trans hx5)
          have HS5 := hid (HS9.out.ext HxV.out)
          have HB5 := hid (HBr.out.ext hx5)
          have HK5 := hid (HK9.out.ext_r HxV.out)
          clear HO hx5 m1' q0 q1 q2 q3 q4 HBr HVe HVx HS9 HK9
          have m0 := HB5.out.av 0 rfl
          have m1' := HB5.out.av 1 rfl
          have m2' := HB5.out.av 2 rfl
          simp only [qA0, qA1, qA2] at m0 m1' m2'
          rw [Hra.out] at m1'
          by_cases ho : ow = me
          · have hb : ((ow : Int) == (me : Int)) = true := by rw [ho]; simp
            have hb2 : ((ow : Int) != (me : Int)) = false := by simp only [bne, hb]; rfl
            have Hcon : Hid (r.a % ((kk : Nat) : Int) = ((me : Nat) : Int)) := hid (by rw [Hmc.out, ho])
            have hbb := eq_of_beq bBase_list
            clear ho
            cases hk1 : (r.kind.toList == [98, 97, 115, 101]) with
            | true =>
              have Hnx : Hid ((P.rulesV.take (j + 1)).foldl (SH.begin (me : Nat) (kk : Nat)) SH.none = T0.tell (me : Nat) (kk : Nat) (a : Nat) 100 [(a : Int), r.b]) := hid (by
                rw [Hn.out]
                unfold SH.begin
                rw [if_pos Hcon.out, hbb, hk1, cond_true, Hra.out])
              obtain ⟨W6, hW6⟩ : ∃ W6, W6 = w5.alloc (.cells #[.int .i64 (a : Int), .int .i64 r.b] 3) := ⟨_, rfl⟩
              have hx6 : Ext w5 W6 := by rw [hW6]; exact (Ext.refl _).alloc _
              have HX6 := hid hx6
              have HT := hid (shardtell_any c T0 a 100 [(a : Int), r.b] _ W6 G F g (HS5.out.ext hx6) (by rw [hW6]; exact irow_two w5 a r.b) (by have := hra1.out; omega) (by have := Hld.out; omega))
              rw [HcR.out.2.2.2.2.2.1, HcR.out.2.2.2.2.2.2] at HT
              have HW6 := hid hW6
              clear hW6 hx6
              go_wp2_with fail
              rw [← HW6.out]
              refine HT.out.mono ?_
              intro z w7 hx
              obtain ⟨rfl, hS6, hK6⟩ := hx
              have HS6 := hid hS6
              have HK6 := hid hK6
              clear hS6 hK6 m0 m1' m2'
              go_wp2
              go_roundw
              case rel => exact ⟨j + 1, by go_num, by omega, by rw [Hnx.out]; exact HS6.out, (HK5.out.ext_r HX6.out).trans HK6.out⟩
              case measure => simp [intOf]; omega
            | false =>
            cases hk2 : (r.kind.toList == [99, 111, 112, 121]) with
            | true =>
              obtain ⟨_, hb0, hb1⟩ := Hcp.out (eq_of_beq hk2)
              simp only at hb0 hb1
              obtain ⟨d, hd⟩ := Int.eq_ofNat_of_zero_le hb0
              rw [hd] at hb1 m2'
              have Hnx : Hid ((P.rulesV.take (j + 1)).foldl (SH.begin (me : Nat) (kk : Nat)) SH.none = T0.edge (me : Nat) (kk : Nat) ((a : Int), (d : Int))) := hid (by
                rw [Hn.out]
                unfold SH.begin kCopy
                rw [if_pos Hcon.out, hbb, hk1, cond_false, hk2, cond_true, Hra.out, hd])
              have HT := hid (shardedge_any c T0 a d w5 G F g HS5.out (by have := hra1.out; omega) (by omega) (by have := Hld.out; omega))
              rw [HcR.out.2.2.2.2.2.1, HcR.out.2.2.2.2.2.2] at HT
              clear hb0 hb1 hd
              go_wp2_with fail
              refine HT.out.mono ?_
              intro z w6 hx
              obtain ⟨rfl, hS6, hK6⟩ := hx
              have HS6 := hid hS6
              have HK6 := hid hK6
              clear hS6 hK6 m0 m1' m2'
              go_wp2
              go_roundw
              case rel => exact ⟨j + 1, by go_num, by omega, by rw [Hnx.out]; exact HS6.out, HK5.out.trans HK6.out⟩
              case measure => simp [intOf]; omega
            | false =>
              have Hnx : Hid ((P.rulesV.take (j + 1)).foldl (SH.begin (me : Nat) (kk : Nat)) SH.none = T0) := hid (by
                rw [Hn.out]
                unfold SH.begin kCopy
                rw [if_pos Hcon.out, hbb, hk1, cond_false, hk2]; rfl)
              go_wp2
              go_roundw
              case rel => exact ⟨j + 1, by go_num, by omega, by rw [Hnx.out]; exact HS5.out, HK5.out⟩
              case measure => simp [intOf]; omega
          · have hb : ((ow : Int) == (me : Int)) = false := beq_eq_false_iff_ne.2 (by omega)
            have hb2 : ((ow : Int) != (me : Int)) = true := by simp only [bne, hb]; rfl
            have Hnx : Hid ((P.rulesV.take (j + 1)).foldl (SH.begin (me : Nat) (kk : Nat)) SH.none = T0) := hid (by
              rw [Hn.out]
              unfold SH.begin
              rw [if_neg (by rw [Hmc.out]; omega)])
            clear ho
            go_wp2
            go_roundw
            case rel => exact ⟨j + 1, by go_num, by omega, by rw [Hnx.out]; exact HS5.out, HK5.out⟩
            case measure => simp [intOf]; omega
        · obtain rfl : j = P.rulesV.length := by omega
          rw [← start_take] at hS9
          obtain ⟨hso1, hso2⟩ := start_okS (me := (me : Nat)) (k := (kk : Nat)) Hwl.out
          have HWk := hid (shardwork_any c (SH.start P (me : Nat) (kk : Nat)) wr G F g hS9 (by rw [HcR.out.2.2.1, HcR.out.2.2.2.2.2.1, HcR.out.2.2.2.2.2.2]; exact hso1) (by omega))
          rw [HcR.out.2.2.1, HcR.out.2.2.2.2.2.1, HcR.out.2.2.2.2.2.2] at HWk
          clear hS9 hso1 hso2
          go_wp2_with fail
          refine HWk.out.mono ?_
          intro e w7 hx
          obtain ⟨u, t, os7, F', rfl, h1, h2, h3, h4, h5, h7, h6⟩ := hx
          have H := hid (And.intro h1 (And.intro h2 (And.intro h3 (And.intro h4 (And.intro h5 h7)))))
          have HK7 := hid (HK9.out.trans h6)
          clear HWk h1 h2 h3 h4 h5 h6 h7
          go_wp2
          go_ret3
          refine ⟨g, c, G, F', u, t, os7, rfl, HcR.out.2.2.1, HcR.out.2.2.2.2.2.1, HcR.out.2.2.2.2.2.2, H.out.1, H.out.2.1, H.out.2.2.1, H.out.2.2.2.1, fun b hb => H.out.2.2.2.2.1 b (HF.out b hb), H.out.2.2.2.2.2, HG.out, Keep.new HXwr.out HK7.out fun b hb => Nat.le_of_not_lt fun h => hb (HF.out b h)⟩
def SC.own (c : SC) (n : Int) : Bool := decide (0 ≤ n ∧ n < (c.P.nodesV : Int) ∧ n % (c.k : Int) = (c.me : Int))
set_option maxRecDepth 100000 in
set_option maxHeartbeats 3200000 in
theorem shardown_any (c : SC) (s : SH) (n : Int) (w : World) (G F : Nat → Prop) (g : Nat) (hS : ShAt w G F g c s) :
    Calls Tryz.prog 50 #[.pointer (some ⟨g, 0, none⟩), .int .i64 n] w fun e w' => e = .returned (.bool (c.own n)) ∧ Ext w w' := by
  have hS0 := hS
  obtain ⟨m1, m2, f1, f2, vt, vo, ts, os, h⟩ := hS
  have hnn := h.con.well.nodes.1
  have b6 := h.blk.kc (X := fun _ => False) (fun e => e) 6 rfl
  have b4 := h.blk.kc (X := fun _ => False) (fun e => e) 4 rfl
  simp only [shCells, qA0, qA1, qA2] at b6 b4
  by_cases hn0 : 0 ≤ n
  · by_cases hn1 : n < (c.P.nodesV : Int)
    · obtain ⟨i, rfl⟩ := Int.eq_ofNat_of_zero_le hn0
      have HO := fun w1 (x : Ext w w1) => hid (shardowner_any c s i w1 G F g (hS0.ext x) (by omega))
      have hr : c.own (i : Int) = decide ((i % c.k : Nat) = c.me) := by
        unfold SC.own
        rw [natmod]
        by_cases hm : i % c.k = c.me
        · rw [decide_eq_true hm, decide_eq_true ⟨hn0, hn1, by rw [hm]⟩]
        · rw [decide_eq_false hm, decide_eq_false fun h => hm (by have := h.2.2; omega)]
      have Hr := hid hr
      generalize i % c.k = r at HO Hr
      have g0 : decide ((0 : Int) ≤ (i : Int)) = true := decide_eq_true hn0
      have g1 : decide ((i : Int) < (c.P.nodesV : Int)) = true := decide_eq_true hn1
      have g2 : ((r : Int) == (c.me : Int)) = decide (r = c.me) := by
        by_cases hm : r = c.me
        · rw [hm]; simp
        · rw [decide_eq_false hm]; exact beq_eq_false_iff_ne.2 (by omega)
      clear hS0 h hr
      generalize c.P.nodesV = NN at *
      go_enter Tryz.func50, Tryz.ntmps50
      go_wp2
      refine wp_flowT (fun _ => False) (by kernel_rfl) (by kernel_rfl) ?_
      repeat (apply FlowT.d; (intro w1 hk; unfold does; go_simp; (try go_ints); (first | exact DetR.mk | (simp only [↓IntWalk.iteOmega, Oper.doesUpon_value]; exact DetR.mk) | (simp only [↓IntWalk.iteOmega]; go_simp; (try go_ints); exact DetR.mk))); simp only [Act.put, qS0, qS1, qS2])
      apply FlowT.d
      · intro w1 hk
        unfold does
        go_simp
        exact CallR.det ((HO w1 hk.ext).out)
      simp only [Act.put, qS0, qS1, qS2]
      repeat (apply FlowT.d; (intro w1 hk; unfold does; go_simp; (try go_ints); (first | exact DetR.mk | (simp only [↓IntWalk.iteOmega, Oper.doesUpon_value]; exact DetR.mk) | (simp only [↓IntWalk.iteOmega]; go_simp; (try go_ints); exact DetR.mk))); simp only [Act.put, qS0, qS1, qS2])
      refine FlowT.fin fun w2 hx2 hk2 => ?_
      go_wp2
      go_ret
      exact ⟨by rw [Hr.out]; rfl, hx2⟩
    · have hr : c.own n = false := decide_eq_false fun h => hn1 h.2.1
      have Hr := hid hr
      clear hS0 h hr
      generalize c.P.nodesV = NN at *
      go_enter Tryz.func50, Tryz.ntmps50
      go_wp2
      refine wp_flowT (fun _ => False) (by kernel_rfl) (by kernel_rfl) ?_
      repeat (apply FlowT.d; (intro w1 hk; unfold does; go_simp; (try go_ints); (first | exact DetR.mk | (simp only [↓IntWalk.iteOmega, Oper.doesUpon_value]; exact DetR.mk) | (simp only [↓IntWalk.iteOmega]; go_simp; (try go_ints); exact DetR.mk))); simp only [Act.put, qS0, qS1, qS2])
      refine FlowT.fin fun w2 hx2 hk2 => ?_
      go_wp2
      go_ret
      exact ⟨by rw [Hr.out]; rfl, hx2⟩
  · have hr : c.own n = false := decide_eq_false fun h => hn0 h.1
    have Hr := hid hr
    clear hS0 h hr
    generalize c.P.nodesV = NN at *
    go_enter Tryz.func50, Tryz.ntmps50
    go_wp2
    refine wp_flowT (fun _ => False) (by kernel_rfl) (by kernel_rfl) ?_
    repeat (apply FlowT.d; (intro w1 hk; unfold does; go_simp; (try go_ints); (first | exact DetR.mk | (simp only [↓IntWalk.iteOmega, Oper.doesUpon_value]; exact DetR.mk) | (simp only [↓IntWalk.iteOmega]; go_simp; (try go_ints); exact DetR.mk))); simp only [Act.put, qS0, qS1, qS2])
    refine FlowT.fin fun w2 hx2 hk2 => ?_
    go_wp2
    go_ret
    exact ⟨by rw [Hr.out]; rfl, hx2⟩
def SC.hasL (c : SC) (s : SH) (n : Int) : List Int := if c.own n = true then keysL s.has n else []
set_option maxRecDepth 100000 in
set_option maxHeartbeats 1600000 in
theorem shardhas_any (c : SC) (s : SH) (n : Int) (w : World) (G F : Nat → Prop) (g : Nat) (hS : ShAt w G F g c s) (hok : s.Ok c.P (c.me : Nat) (c.k : Nat)) :
    Calls Tryz.prog 14 #[.pointer (some ⟨g, 0, none⟩), .int .i64 n] w fun e w' => ∃ v, e = .returned v ∧ IRow w.heap.size w' v (c.hasL s n) ∧ Ext w w' := by
  have HO := hid (shardown_any c s n w G F g hS)
  cases hb : c.own n with
  | false =>
    have Hr : Hid (c.hasL s n = []) := hid (by unfold SC.hasL; rw [hb]; rfl)
    rw [hb] at HO
    clear hb hok
    go_enter Tryz.func14, Tryz.ntmps14
    go_wp2_with fail
    refine HO.out.mono ?_
    intro e w1 hx
    obtain ⟨rfl, hx1⟩ := hx
    have Hx1 := hid hx1
    clear HO hx1
    go_wp2
    go_ret
    exact ⟨_, rfl, by rw [Hr.out]; exact IRow.nil _ _, Hx1.out⟩
  | true =>
    have Hr : Hid (c.hasL s n = keysL s.has n) := hid (by unfold SC.hasL; rw [hb]; rfl)
    rw [hb] at HO
    have hin := of_decide_eq_true hb
    obtain ⟨m1, m2, f1, f2, vt, vo, ts, os, h⟩ := hS
    have hnn := h.con.well.nodes.1
    obtain ⟨i, rfl⟩ := Int.eq_ofNat_of_zero_le hin.1
    have hi : i < 1000000 := by omega
    have Hh126 := hid (hok.has126 h.con.well)
    have HS := hid h
    clear hb hok hin h
    go_enter Tryz.func14, Tryz.ntmps14
    go_wp2_with fail
    refine HO.out.mono ?_
    intro e w1 hx
    obtain ⟨rfl, hx1⟩ := hx
    have HS1 := hid (HS.out.ext hx1)
    have l4 := HS1.out.mm1.look1 (b := (i : Int)) (by omega)
    have HKy := hid (shardkeys_any (i : Int) w1 HS1.out.mm1 Hh126.out)
    obtain ⟨vk, hvk⟩ : ∃ vk, vk = (f1 (i : Int)).getD (.map none) := ⟨_, rfl⟩
    rw [← hvk] at l4 HKy
    have b8 := HS1.out.blk.av 8 rfl
    simp only [shCells, qA0, qA1, qA2] at b8
    have Hx1 := hid hx1
    clear HO hx1 hvk
    go_wp2_with fail
    refine HKy.out.mono ?_
    intro e w4 hx
    obtain ⟨v4, rfl, hr4, hx4⟩ := hx
    have HR4 : Hid (IRow w.heap.size w4 v4 (keysL s.has (i : Int))) := hid (own_low hr4 Hx1.out.size)
    have Hx4 := hid (Hx1.out.trans hx4)
    clear HKy hr4 hx4 l4 b8
    go_wp2
    go_ret
    exact ⟨_, rfl, by rw [Hr.out]; exact HR4.out, Hx4.out⟩
theorem shardboundc_any (g : Nat) (m n : Int) (w : World) (hB : Blk w g #[.int .i64 m] 3) :
    Calls Tryz.prog 85 #[.int .i64 n, .pointer (some ⟨g, 0, none⟩)] w fun e w' => e = .returned (.bool (decide (n < 0) || decide (m ≤ n))) ∧ Ext w w' := by
  have c0 := hB.av 0 rfl
  simp only [qA0, qA1] at c0
  clear hB
  by_cases hn : n < 0
  · have Hr : Hid ((decide (n < 0) || decide (m ≤ n)) = true) := hid (by rw [decide_eq_true hn]; rfl)
    go_enter Tryz.func85, Tryz.ntmps85
    go_wp2
    go_ret
    exact ⟨by rw [Hr.out]; rfl, Ext.refl _⟩
  · have Hr : Hid ((decide (n < 0) || decide (m ≤ n)) = decide (m ≤ n)) := hid (by rw [decide_eq_false hn]; rfl)
    go_enter Tryz.func85, Tryz.ntmps85
    go_wp2
    go_ret
    exact ⟨by rw [Hr.out]; rfl, Ext.refl _⟩
set_option maxRecDepth 100000 in
set_option maxHeartbeats 800000 in
theorem indexfi_sbd (b : Value) (p : Int → Bool) (v : Value) (l : List Int) (w : World) (n0 : Nat) (h : IntsR w n0 v l) (hF : ∀ n w1, Ext w w1 → Calls Tryz.prog 85 #[.int .i64 n, b] w1 fun e w' => e = .returned (.bool (p n)) ∧ Ext w1 w') :
    Calls Tryz.prog 65 #[v, .func (.func 85) #[] #[b]] w fun e w' => ∃ r : Int, e = .returned (.int .i64 r) ∧ IdxF p l r ∧ Ext w w' := by
  have HS := hid h
  have HF := hid hF
  obtain ⟨a, cap, rfl, h2, h3, h4, _⟩ := h
  have H4 := hid h4
  have hml : (l.length : Int) ≤ 9223372036854775807 := by omega
  clear h2 h3 h4 hF
  go_enter Tryz.func65, Tryz.ntmps65
  go_wp2
  go_loopw [8] (fun t8 wr => ∃ k : Nat, t8 = .int .i64 (k : Int) ∧ k ≤ l.length ∧ (∀ j t, j < k → l[j]? = some t → p t = false) ∧ Ext w wr) (fun t8 _ => l.length - (intOf t8).toNat)
  case atStart => exact ⟨0, rfl, Nat.zero_le _, fun j t h => by omega, Ext.refl _⟩
  case round =>
    obtain ⟨k, rfl, hk, hne, hx⟩ := hrel
    have Hne := hid hne
    clear hne
    by_cases hlt : k < l.length
    · obtain ⟨y, rfl⟩ := H4.out (by omega)
      have hxk : l[k]? = some (l[k]'hlt) := List.getElem?_eq_getElem hlt
      obtain ⟨t, ht⟩ : ∃ t, t = l[k]'hlt := ⟨_, rfl⟩
      rw [← ht] at hxk
      obtain ⟨a', cap', h1, _, _, _, h5⟩ := HS.out.old (hx.old n0)
      obtain ⟨rfl, rfl⟩ : some y = a' ∧ cap = cap' := by simpa using h1
      have hc := (h5 y rfl (by omega)).2 k hlt t hxk
      have HN := hid (HF.out t wr hx)
      have Hxk := hid hxk
      have Hx := hid hx
      clear hxk ht h1 h5 hx
      go_wp2_with fail
      refine HN.out.mono ?_
      intro e w1 hx1
      obtain ⟨rfl, hx1⟩ := hx1
      have Hx1 := hid (Hx.out.trans hx1)
      clear HN hx1 Hx hc
      cases he : p t with
      | true =>
        have Hin := hid (show IdxF p l (k : Int) from .inr ⟨k, t, rfl, hlt, Hxk.out, he, Hne.out⟩)
        go_wp2
        go_ret
        exact ⟨(k : Int), rfl, Hin.out, Hx1.out⟩
      | false =>
        have Hf := hid he
        clear he
        go_wp2
        go_roundw
        case rel =>
          refine ⟨k + 1, by go_num, by omega, fun j u hj hu => ?_, Hx1.out⟩
          by_cases hjk : j = k
          · subst hjk
            obtain rfl := Option.some.inj (Hxk.out.symm.trans hu)
            exact Hf.out
          · exact Hne.out j u (by omega) hu
        case measure => simp [intOf]; omega
    · obtain rfl : k = l.length := by omega
      have Hx := hid hx
      clear hx
      have Hnot := hid (show IdxF p l (-1) from .inl ⟨rfl, fun x hx => by
        obtain ⟨j, hj, e2⟩ := List.mem_iff_getElem.1 hx
        exact Hne.out j x hj (by rw [List.getElem?_eq_getElem hj, e2])⟩)
      go_wp2
      go_ret
      exact ⟨(-1 : Int), rfl, Hnot.out, Hx.out⟩
set_option maxRecDepth 100000 in
set_option maxHeartbeats 800000 in
theorem containsfi_sbd (b : Value) (p : Int → Bool) (v : Value) (l : List Int) (w : World) (n0 : Nat) (h : IntsR w n0 v l) (hF : ∀ n w1, Ext w w1 → Calls Tryz.prog 85 #[.int .i64 n, b] w1 fun e w' => e = .returned (.bool (p n)) ∧ Ext w1 w') :
    Calls Tryz.prog 67 #[v, .func (.func 85) #[] #[b]] w fun e w' => e = .returned (.bool (l.any p)) ∧ Ext w w' := by
  have H := hid (indexfi_sbd b p v l w n0 h hF)
  obtain ⟨a, cap, rfl, h2, h3, _⟩ := h
  have hml : (l.length : Int) ≤ 9223372036854775807 := by omega
  clear hF
  go_enter Tryz.func67, Tryz.ntmps67
  go_wp2_with fail
  refine H.out.mono ?_
  intro e w1 hx
  obtain ⟨r, rfl, hr, hx⟩ := hx
  clear H
  rcases hr with ⟨rfl, hr⟩ | ⟨i, x, rfl, hi, hxi, hp, _⟩
  · have Hr := hid (show l.any p = false from List.any_eq_false.2 fun x hx => by rw [hr x hx]; simp)
    clear hr
    go_wp2
    go_ret
    exact ⟨by rw [Hr.out]; rfl, hx⟩
  · have Hr := hid (show l.any p = true from List.any_eq_true.2 ⟨x, List.mem_of_getElem? hxi, hp⟩)
    clear hp hxi
    go_wp2
    go_ret
    exact ⟨by rw [Hr.out]; rfl, hx⟩
def SC.most (c : SC) (kd : Int) : Int := if kd = 101 then (c.P.nodesV : Int) else (c.P.objectsV : Int)
def SC.bnd (c : SC) (kd : Int) (x : Int) (l : List Int) : Bool := c.own x && !(l.any fun n => decide (n < 0) || decide (c.most kd ≤ n))
theorem irow_tail {w : World} {gn cv : Nat} {x : Int} {l : List Int} (h : IRow 0 w (.slice (some ⟨gn, 0, none⟩) (l.length + 1) cv) (x :: l)) : IntsR w w.heap.size (.slice (some ⟨gn, 1, none⟩) l.length (cv - 1)) l := by
  have hb := own_ty h (k := gn) rfl
  obtain ⟨c', hc⟩ := hb
  obtain ⟨_, hx | ⟨_, _, _, hx, _, _, hx4, hx5, _⟩⟩ := id h
  · cases hx.1
  · simp only [Value.slice.injEq] at hx
    unfold maxLen at hx5
    rw [← hx.2.2] at hx4 hx5
    simp only [List.length_cons] at hx4
    refine ⟨_, _, rfl, by omega, by omega, fun _ => ⟨_, rfl⟩, fun y hy h0 => ?_⟩
    obtain rfl := Option.some.inj hy
    refine ⟨hc.lt, fun i hi z hz => ?_⟩
    rw [Addr.add_lit, Nat.add_comm 1 i]
    exact own_i h (i := i + 1) (x := z) (by rw [List.getElem?_cons_succ]; exact hz)
set_option maxRecDepth 100000 in
set_option maxHeartbeats 3200000 in
theorem shardbound_any (c : SC) (s : SH) (kd : Int) (v : Value) (x : Int) (l : List Int) (w : World) (G F : Nat → Prop) (g : Nat) (hS : ShAt w G F g c s) (hv : IRow 0 w v (x :: l)) :
    Calls Tryz.prog 53 #[.pointer (some ⟨g, 0, none⟩), .int .u8 kd, v] w fun e w' => e = .returned (.bool (c.bnd kd x l)) ∧ Ext w w' := by
  obtain ⟨gn, cv, rfl⟩ := own_some hv (by simp)
  have hcv : l.length + 1 ≤ cv ∧ (cv : Int) ≤ 9223372036854775807 := by
    obtain ⟨_, hx | ⟨_, _, _, hx, _, _, hx4, hx5, _⟩⟩ := id hv
    · cases hx.1
    · simp only [Value.slice.injEq] at hx
      unfold maxLen at hx5
      rw [hx.2.2]
      simp only [List.length_cons] at hx4
      exact ⟨hx4, by omega⟩
  simp only [List.length_cons] at hv ⊢
  obtain ⟨W, hW⟩ : ∃ W, W = w.alloc (.cells #[.int .i64 (c.most kd)] 3) := ⟨_, rfl⟩
  have hBx : Blk W w.heap.size #[.int .i64 (c.most kd)] 3 := by rw [hW]; exact Blk.new w _ _
  have hxW : Ext w W := by rw [hW]; exact (Ext.refl _).alloc _
  have HO := hid (shardown_any c s x W G F g (hS.ext hxW))
  obtain ⟨m1, m2, f1, f2, vt, vo, ts, os, h⟩ := hS
  have b7 := h.blk.av 7 rfl
  have b6 := (h.blk.ext ((Ext.refl w).alloc (.cells #[.int .i64 (c.P.objectsV : Int)] 3))).av 6 rfl
  simp only [shCells, qA0, qA1, qA2] at b6 b7
  have hvW : IRow 0 W (.slice (some ⟨gn, 0, none⟩) (l.length + 1) cv) (x :: l) := own_ext hv hxW
  have n0 := own_i hvW (i := 0) (x := x) rfl
  have HBx := hid hBx
  have HxW := hid hxW
  have HCt := fun w1 (y : Ext W w1) => hid (containsfi_sbd (.pointer (some ⟨w.heap.size, 0, none⟩)) (fun n => decide (n < 0) || decide (c.most kd ≤ n)) (.slice (some ⟨gn, 1, none⟩) l.length (cv - 1)) l w1 w1.heap.size (irow_tail (own_ext hvW y)) fun n w2 x2 => shardboundc_any w.heap.size (c.most kd) n w2 (HBx.out.ext (y.trans x2)))
  have HC0 := fun w1 (y : Ext W w1) => hid (containsfi_sbd (.pointer (some ⟨w.heap.size, 0, none⟩)) (fun n => decide (n < 0) || decide (c.most kd ≤ n)) (.slice (some ⟨gn, 0, none⟩) 0 0) [] w1 w1.heap.size ⟨_, _, rfl, Nat.le_refl _, by omega, fun h => absurd h (by simp), fun y hy h => absurd h (by simp)⟩ fun n w2 x2 => shardboundc_any w.heap.size (c.most kd) n w2 (HBx.out.ext (y.trans x2)))
  clear h hv hBx hxW hvW
  cases hb : c.own x with
  | false =>
    have Hr : Hid (c.bnd kd x l = false) := hid (by unfold SC.bnd; rw [hb]; rfl)
    rw [hb] at HO
    clear hb HCt HC0
    by_cases hk : kd = 101
    · rw [show c.most kd = (c.P.nodesV : Int) by unfold SC.most; rw [if_pos hk]] at hW
      have HWe := hid hW
      rw [hW] at n0
      subst hk
      clear hW
      go_enter Tryz.func53, Tryz.ntmps53
      go_wp2_with fail
      rw [← HWe.out]
      refine HO.out.mono ?_
      intro e w1 hx
      obtain ⟨rfl, hx1⟩ := hx
      have Hx1 := hid hx1
      clear HO hx1
      go_wp2
      go_ret
      exact ⟨by rw [Hr.out]; rfl, HxW.out.trans Hx1.out⟩
    · rw [show c.most kd = (c.P.objectsV : Int) by unfold SC.most; rw [if_neg hk]] at hW
      have HWe := hid hW
      rw [hW] at n0
      clear hW
      go_enter Tryz.func53, Tryz.ntmps53
      go_wp2_with fail
      rw [← HWe.out]
      refine HO.out.mono ?_
      intro e w1 hx
      obtain ⟨rfl, hx1⟩ := hx
      have Hx1 := hid hx1
      clear HO hx1
      go_wp2
      go_ret
      exact ⟨by rw [Hr.out]; rfl, HxW.out.trans Hx1.out⟩
  | true =>
    have Hr : Hid (c.bnd kd x l = !(l.any fun n => decide (n < 0) || decide (c.most kd ≤ n))) := hid (by unfold SC.bnd; rw [hb]; rfl)
    rw [hb] at HO
    clear hb
    generalize hp : (fun n => decide (n < 0) || decide (c.most kd ≤ n)) = p at HCt HC0 Hr
    clear hp
    by_cases hk : kd = 101
    · rw [show c.most kd = (c.P.nodesV : Int) by unfold SC.most; rw [if_pos hk]] at hW
      have HWe := hid hW
      rw [hW] at n0
      subst hk
      clear hW
      by_cases hc1 : cv = 1
      · subst hc1
        obtain rfl : l = [] := List.eq_nil_of_length_eq_zero (by omega)
        simp only [List.length_nil, Nat.zero_add] at hcv
        go_enter Tryz.func53, Tryz.ntmps53
        go_wp2_with fail
        rw [← HWe.out]
        refine HO.out.mono ?_
        intro e w1 hx
        obtain ⟨rfl, hx1⟩ := hx
        have Hx1 := hid hx1
        clear HO hx1
        have HC := HC0 w1 Hx1.out
        clear HC0 HCt n0
        go_wp2_with fail
        refine HC.out.mono ?_
        intro e w2 hx
        obtain ⟨rfl, hx2⟩ := hx
        have Hx2 := hid (HxW.out.trans (Hx1.out.trans hx2))
        clear HC hx2
        go_wp2
        go_ret
        exact ⟨by rw [Hr.out]; rfl, Hx2.out⟩
      ·
        go_enter Tryz.func53, Tryz.ntmps53
        go_wp2_with fail
        rw [← HWe.out]
        refine HO.out.mono ?_
        intro e w1 hx
        obtain ⟨rfl, hx1⟩ := hx
        have Hx1 := hid hx1
        clear HO hx1
        have HC := HCt w1 Hx1.out
        clear HC0 HCt n0
        generalize l.any p = d at HC Hr
        go_wp2_with fail
        refine HC.out.mono ?_
        intro e w2 hx
        obtain ⟨rfl, hx2⟩ := hx
        have Hx2 := hid (HxW.out.trans (Hx1.out.trans hx2))
        clear HC hx2
        go_wp2
        go_ret
        exact ⟨by rw [Hr.out]; rfl, Hx2.out⟩
    · rw [show c.most kd = (c.P.objectsV : Int) by unfold SC.most; rw [if_neg hk]] at hW
      have HWe := hid hW
      rw [hW] at n0
      clear hW
      by_cases hc1 : cv = 1
      · subst hc1
        obtain rfl : l = [] := List.eq_nil_of_length_eq_zero (by omega)
        simp only [List.length_nil, Nat.zero_add] at hcv
        go_enter Tryz.func53, Tryz.ntmps53
        go_wp2_with fail
        rw [← HWe.out]
        refine HO.out.mono ?_
        intro e w1 hx
        obtain ⟨rfl, hx1⟩ := hx
        have Hx1 := hid hx1
        clear HO hx1
        have HC := HC0 w1 Hx1.out
        clear HC0 HCt n0
        go_wp2_with fail
        refine HC.out.mono ?_
        intro e w2 hx
        obtain ⟨rfl, hx2⟩ := hx
        have Hx2 := hid (HxW.out.trans (Hx1.out.trans hx2))
        clear HC hx2
        go_wp2
        go_ret
        exact ⟨by rw [Hr.out]; rfl, Hx2.out⟩
      ·
        go_enter Tryz.func53, Tryz.ntmps53
        go_wp2_with fail
        rw [← HWe.out]
        refine HO.out.mono ?_
        intro e w1 hx
        obtain ⟨rfl, hx1⟩ := hx
        have Hx1 := hid hx1
        clear HO hx1
        have HC := HCt w1 Hx1.out
        clear HC0 HCt n0
        generalize l.any p = d at HC Hr
        go_wp2_with fail
        refine HC.out.mono ?_
        intro e w2 hx
        obtain ⟨rfl, hx2⟩ := hx
        have Hx2 := hid (HxW.out.trans (Hx1.out.trans hx2))
        clear HC hx2
        go_wp2
        go_ret
        exact ⟨by rw [Hr.out]; rfl, Hx2.out⟩
def SH.push (s : SH) (x : NV) : SH := { s with todo := s.todo ++ [x] }
theorem bnd_ok {c : SC} {kd x : Int} {l : List Int} (hb : c.bnd kd x l = true) (hk : kd = 100 ∨ (kd = 101 ∧ l.length = 1)) : NOk c.P (c.k : Nat) ⟨(c.me : Nat), kd, x :: l⟩ ∧ x % ((c.k : Nat) : Int) = ((c.me : Nat) : Int) := by
  unfold SC.bnd at hb
  rw [Bool.and_eq_true] at hb
  obtain ⟨h1, h2⟩ := hb
  obtain ⟨h3, h4, h5⟩ := of_decide_eq_true h1
  have h6 : ∀ n ∈ l, 0 ≤ n ∧ n < c.most kd := fun n hn => by
    have h7 : (l.any fun n => decide (n < 0) || decide (c.most kd ≤ n)) = false := by simpa using h2
    have := List.any_eq_false.1 h7 n hn
    simp at this
    omega
  refine ⟨⟨?_⟩, h5⟩
  rcases hk with rfl | ⟨rfl, hl⟩
  · exact .inl ⟨rfl, x, l, rfl, ⟨h3, h4⟩, h5.symm, fun o ho => by
      have := h6 o ho
      rwa [show c.most 100 = (c.P.objectsV : Int) by unfold SC.most; rw [if_neg (by decide)]] at this⟩
  · obtain ⟨b, rfl⟩ : ∃ b, l = [b] := by
      match l, hl with
      | [b], _ => exact ⟨b, rfl⟩
    have := h6 b (List.mem_singleton.2 rfl)
    rw [show c.most 101 = (c.P.nodesV : Int) by unfold SC.most; rw [if_pos rfl]] at this
    exact .inr ⟨rfl, x, b, rfl, ⟨h3, h4⟩, h5.symm, this.1, this.2⟩
theorem push_ok {P : PP} {me k : Int} {s : SH} (h : s.Ok P me k) {x : NV} (hx : NOk P k x) (hm : x.to = me) : (s.push x).Ok P me k :=
  ⟨h.hnd, h.has, h.nnd, h.nxt, fun y hy => by
    rcases List.mem_append.1 hy with hy | hy
    · exact h.todo y hy
    · rw [List.mem_singleton.1 hy]; exact ⟨hx, hm⟩, h.out⟩
theorem push_phi (s : SH) (x : NV) : (s.push x).phi = s.phi + 1 := by
  unfold SH.phi SH.load SH.push
  simp only [List.length_append, List.length_singleton]
  omega
set_option maxRecDepth 100000 in
set_option maxHeartbeats 1600000 in
theorem shardtake_kind (kd : Int) (v : Value) (w : World) (g : Nat) (ad : Nat → Addr) (he : w.cell? ⟨1, 0, none⟩ = some (evOf ad 4)) (h1 : kd ≠ 100) (h2 : kd ≠ 101) :
    Calls Tryz.prog 17 #[.pointer (some ⟨g, 0, none⟩), .int .u8 kd, v] w fun e w' => e = .returned (.tuple #[.slice none 0 0, evOf ad 4]) ∧ Ext w w' := by
  have e4 : ∀ w1, Keep (fun _ => False) w w1 → w1.cell? ⟨1, 0, none⟩ = some (evOf ad 4) := fun w1 k => k.ext.cellx he
  unfold evOf at e4 ⊢
  have b1 : (kd == 100) = false := beq_eq_false_iff_ne.2 h1
  have b2 : (kd == 101) = false := beq_eq_false_iff_ne.2 h2
  have c1 : (kd != 100) = true := by simp only [bne, b1]; rfl
  have c2 : (kd != 101) = true := by simp only [bne, b2]; rfl
  clear he
  go_enter Tryz.func17, Tryz.ntmps17
  go_wp2
  refine wp_flowT (fun _ => False) (by kernel_rfl) (by kernel_rfl) ?_
  repeat (apply FlowT.d; (intro w1 hk; unfold does; go_simp; (try go_ints); (first | exact DetR.mk | (simp only [↓IntWalk.iteOmega, Oper.doesUpon_value]; exact DetR.mk) | (simp only [↓IntWalk.iteOmega]; go_simp; (try go_ints); exact DetR.mk))); simp only [Act.put, qS0, qS1, qS2])
  refine FlowT.fin fun w2 hx2 hk2 => ?_
  go_wp2
  go_ret2
  exact ⟨rfl, hx2⟩
set_option maxRecDepth 100000 in
set_option maxHeartbeats 1600000 in
theorem shardtake_shape (kd : Int) (a : Option Addr) (n cv : Nat) (w : World) (g : Nat) (ad : Nat → Addr) (he : w.cell? ⟨2, 0, none⟩ = some (evOf ad 3)) (h : (kd = 100 ∧ n = 0) ∨ (kd = 101 ∧ n ≠ 2)) (hn : (n : Int) ≤ 9223372036854775807) :
    Calls Tryz.prog 17 #[.pointer (some ⟨g, 0, none⟩), .int .u8 kd, .slice a n cv] w fun e w' => e = .returned (.tuple #[.slice none 0 0, evOf ad 3]) ∧ Ext w w' := by
  have e3 : ∀ w1, Keep (fun _ => False) w w1 → w1.cell? ⟨2, 0, none⟩ = some (evOf ad 3) := fun w1 k => k.ext.cellx he
  unfold evOf at e3 ⊢
  clear he
  rcases h with ⟨rfl, rfl⟩ | ⟨rfl, h⟩
  · go_enter Tryz.func17, Tryz.ntmps17
    go_wp2
    refine wp_flowT (fun _ => False) (by kernel_rfl) (by kernel_rfl) ?_
    repeat (apply FlowT.d; (intro w1 hk; unfold does; go_simp; (try go_ints); (first | exact DetR.mk | (simp only [↓IntWalk.iteOmega, Oper.doesUpon_value]; exact DetR.mk) | (simp only [↓IntWalk.iteOmega]; go_simp; (try go_ints); exact DetR.mk))); simp only [Act.put, qS0, qS1, qS2])
    refine FlowT.fin fun w2 hx2 hk2 => ?_
    go_wp2
    go_ret2
    exact ⟨rfl, hx2⟩
  · have b1 : ((n : Int) == 2) = false := beq_eq_false_iff_ne.2 (by omega)
    have c1 : ((n : Int) != 2) = true := by simp only [bne, b1]; rfl
    go_enter Tryz.func17, Tryz.ntmps17
    go_wp2
    refine wp_flowT (fun _ => False) (by kernel_rfl) (by kernel_rfl) ?_
    repeat (apply FlowT.d; (intro w1 hk; unfold does; go_simp; (try go_ints); (first | exact DetR.mk | (simp only [↓IntWalk.iteOmega, Oper.doesUpon_value]; exact DetR.mk) | (simp only [↓IntWalk.iteOmega]; go_simp; (try go_ints); exact DetR.mk))); simp only [Act.put, qS0, qS1, qS2])
    refine FlowT.fin fun w2 hx2 hk2 => ?_
    go_wp2
    go_ret2
    exact ⟨rfl, hx2⟩
set_option maxRecDepth 100000 in
set_option maxHeartbeats 1600000 in
theorem shardtake_bound (c : SC) (s : SH) (kd : Int) (v : Value) (x : Int) (l : List Int) (w : World) (G F : Nat → Prop) (g : Nat) (ad : Nat → Addr) (he : w.cell? ⟨0, 0, none⟩ = some (evOf ad 2)) (hS : ShAt w G F g c s) (hv : IRow 0 w v (x :: l)) (hk : kd = 100 ∨ (kd = 101 ∧ l.length = 1)) (hb : c.bnd kd x l = false) (hl : l.length ≤ 1000) :
    Calls Tryz.prog 17 #[.pointer (some ⟨g, 0, none⟩), .int .u8 kd, v] w fun e w' => e = .returned (.tuple #[.slice none 0 0, evOf ad 2]) ∧ Ext w w' := by
  have HB := hid (shardbound_any c s kd v x l w G F g hS hv)
  obtain ⟨a, cv, rfl⟩ := row_form hv
  simp only [List.length_cons] at HB ⊢
  rw [hb] at HB
  have He := hid he
  rw [show evOf ad 2 = .iface 262 (.pointer (some (ad 2))) from rfl]
  clear hS hv hb he
  rcases hk with rfl | ⟨rfl, hl1⟩
  · obtain ⟨NL, hNL⟩ : ∃ NL, NL = l.length + 1 := ⟨_, rfl⟩
    rw [← hNL] at HB ⊢
    have hlt : decide ((NL : Int) < 1) = false := decide_eq_false (by omega)
    have hNl : NL ≤ 1001 := by omega
    clear hNL
    go_enter Tryz.func17, Tryz.ntmps17
    go_wp2_with fail
    refine HB.out.mono ?_
    intro e w1 hx
    obtain ⟨rfl, hx1⟩ := hx
    have Hx1 := hid hx1
    have e2 : ∀ w2, Keep (fun _ => False) w1 w2 → w2.cell? ⟨0, 0, none⟩ = some (evOf ad 2) := fun w2 k => k.ext.cellx (Hx1.out.cellx He.out)
    unfold evOf at e2
    clear HB hx1
    go_wp2
    refine wp_flowT (fun _ => False) (by kernel_rfl) (by kernel_rfl) ?_
    repeat (apply FlowT.d; (intro w1 hk; unfold does; go_simp; (try go_ints); (first | exact DetR.mk | (simp only [↓IntWalk.iteOmega, Oper.doesUpon_value]; exact DetR.mk) | (simp only [↓IntWalk.iteOmega]; go_simp; (try go_ints); exact DetR.mk))); simp only [Act.put, qS0, qS1, qS2])
    refine FlowT.fin fun w2 hx2 hk2 => ?_
    go_wp2
    go_ret2
    exact ⟨rfl, Hx1.out.trans hx2⟩
  · rw [hl1] at HB ⊢
    go_enter Tryz.func17, Tryz.ntmps17
    go_wp2_with fail
    refine HB.out.mono ?_
    intro e w1 hx
    obtain ⟨rfl, hx1⟩ := hx
    have Hx1 := hid hx1
    have e2 : ∀ w2, Keep (fun _ => False) w1 w2 → w2.cell? ⟨0, 0, none⟩ = some (evOf ad 2) := fun w2 k => k.ext.cellx (Hx1.out.cellx He.out)
    unfold evOf at e2
    clear HB hx1
    go_wp2
    refine wp_flowT (fun _ => False) (by kernel_rfl) (by kernel_rfl) ?_
    repeat (apply FlowT.d; (intro w1 hk; unfold does; go_simp; (try go_ints); (first | exact DetR.mk | (simp only [↓IntWalk.iteOmega, Oper.doesUpon_value]; exact DetR.mk) | (simp only [↓IntWalk.iteOmega]; go_simp; (try go_ints); exact DetR.mk))); simp only [Act.put, qS0, qS1, qS2])
    refine FlowT.fin fun w2 hx2 hk2 => ?_
    go_wp2
    go_ret2
    exact ⟨rfl, Hx1.out.trans hx2⟩
set_option maxRecDepth 100000 in
set_option maxHeartbeats 6400000 in
theorem shardtake_good (c : SC) (s : SH) (kd : Int) (v : Value) (x : Int) (l : List Int) (w : World) (G F : Nat → Prop) (g : Nat) (hS : ShAt w G F g c s) (hok : s.Ok c.P (c.me : Nat) (c.k : Nat)) (hv : IRow 0 w v (x :: l)) (hk : kd = 100 ∨ (kd = 101 ∧ l.length = 1)) (hb : c.bnd kd x l = true) (hl : l.length ≤ 1000) (hph : s.phi ≤ 500000000) :
    Calls Tryz.prog 17 #[.pointer (some ⟨g, 0, none⟩), .int .u8 kd, v] w fun e w' => ∃ (u : Value) (t : SH) (os : List N2) (F' : Nat → Prop), e = .returned (.tuple #[u, .nilIface]) ∧ Runs c.P (c.me : Nat) (c.k : Nat) (s.push ⟨(c.me : Nat), kd, x :: l⟩) t ∧ t.todo = [] ∧ ShAt w' G F' g c { t with out := [] } ∧ NotesR w' F' u t.out os ∧ (∀ b, F b → F' b) ∧ (∀ b, IsInt w' b → F' b) ∧ Keep (fun b => ¬ F b) w w' := by
  have HB := hid (shardbound_any c s kd v x l w G F g hS hv)
  obtain ⟨hno, hxm⟩ := bnd_ok hb hk
  have Hpo := hid (push_ok hok hno rfl)
  have Hld : Hid (s.load ≤ 500000000) := hid (Nat.le_trans (load_phi s) hph)
  have Hph := hid hph
  obtain ⟨a, cv, rfl⟩ := row_form hv
  obtain ⟨m1, m2, f1, f2, vt, vo, ts, os, h⟩ := hS
  have H0 := hid h
  have Hv := hid hv
  have Hl := hid hl
  rw [hb] at HB
  clear hok hv hb hph hno hxm h
  rcases hk with rfl | ⟨rfl, hl1⟩
  · obtain ⟨LL, hLL⟩ : ∃ LL, LL = x :: l := ⟨_, rfl⟩
    obtain ⟨NL, hNL⟩ : ∃ NL, NL = l.length + 1 := ⟨_, rfl⟩
    have HNL : Hid (LL.length = NL) := hid (by rw [hLL, hNL]; rfl)
    rw [← hLL] at HB Hpo Hv ⊢
    rw [HNL.out] at HB Hv ⊢
    have hlt : decide ((NL : Int) < 1) = false := decide_eq_false (by omega)
    have Hl2 : Hid (NL ≤ 1001) := hid (by have := Hl.out; omega)
    clear hLL hNL
    go_enter Tryz.func17, Tryz.ntmps17
    go_wp2_with fail
    refine HB.out.mono ?_
    intro e w2 hx
    obtain ⟨rfl, hx2⟩ := hx
    have HX2 := hid hx2
    have HS := hid (H0.out.ext hx2)
    have HvI := hid (IntsR.own (n0 := w2.heap.size) (own_ext Hv.out hx2) (Nat.le_refl _))
    clear HB hx2
    obtain ⟨aw, cw, hvt⟩ := HS.out.tq.form
    subst hvt
    have hXq : ∀ (b : Nat) (e : TypeId), (Value.slice aw s.todo.length cw).ownBlock = some b → 58 ≠ e → ∀ c, ¬ Blk w2 b c e := fun _ _ hb he c' hc => by
      obtain ⟨c'', hc'⟩ := HS.out.tblk hb
      exact off_of hc' he ⟨_, hc⟩
    have b10 := HS.out.blk.kc (X := fun q => (Value.slice aw s.todo.length cw).ownBlock = some q) (fun hb => hXq _ _ hb (by decide) _ HS.out.blk) 10 rfl
    have b4 := HS.out.blk.kc (X := fun q => (Value.slice aw s.todo.length cw).ownBlock = some q) (fun hb => hXq _ _ hb (by decide) _ HS.out.blk) 4 rfl
    simp only [shCells, qA0, qA1, qA2] at b10 b4
    have HXq := hid hXq
    clear hXq
    go_wp2
    refine wp_flowT (fun q => (Value.slice aw s.todo.length cw).ownBlock = some q) (by kernel_rfl) (by kernel_rfl) ?_
    repeat (apply FlowT.d; (intro w1 hk; unfold does; go_simp; (try go_ints); (first | exact DetR.mk | (simp only [↓IntWalk.iteOmega, Oper.doesUpon_value]; exact DetR.mk) | (simp only [↓IntWalk.iteOmega]; go_simp; (try go_ints); exact DetR.mk))); simp only [Act.put, qS0, qS1, qS2])
    refine FlowT.s (fun v' w' => (∃ a c, v' = .slice a NL c) ∧ IRow 0 w' v' LL ∧ Ext w2 w') 11 rfl (by kernel_rfl) (fun _ _ _ ⟨h1, h2, h3⟩ he => ⟨h1, own_ext h2 he, h3.trans he⟩) (fun w4 hC hk => ?_) ?_
    · unfold does
      go_simp
      refine CallR.act ((clone_big _ LL w4 w2.heap.size (HvI.out.old (hC.old _)) (by rw [HNL.out]; have := Hl2.out; omega)).mono ?_)
      rintro e w5 ⟨v', rfl, hx5, hr5⟩
      refine ⟨_, rfl, hk.trans (hx5.keep _), ?_, own_low hr5 (Nat.zero_le _), hC.trans hx5⟩
      have := row_form hr5
      rwa [HNL.out] at this
    rintro _ ⟨_, ⟨an, cn, rfl⟩, _, _⟩
    simp only [Act.put, qS0, qS1, qS2]
    repeat (apply FlowT.d; (intro w1 hk; unfold does; go_simp; (try go_ints); (first | exact DetR.mk | (simp only [↓IntWalk.iteOmega, Oper.doesUpon_value]; exact DetR.mk) | (simp only [↓IntWalk.iteOmega]; go_simp; (try go_ints); exact DetR.mk))); simp only [Act.put, qS0, qS1, qS2])
    refine FlowT.s (fun v' w' => ∃ q, v' = .slice (some ⟨q, 0, none⟩) 1 1 ∧ Blk w' q #[.int .i64 (c.me : Int), .int .u8 100, .slice an NL cn] 58 ∧ IRow 0 w' (.slice an NL cn) LL ∧ Ext w2 w') 13 rfl (by kernel_rfl) (fun _ _ _ ⟨q, h1, h2, h3, h4⟩ he => ⟨q, h1, h2.ext he, own_ext h3 he, h4.trans he⟩) (fun w4 hC hk => ?_) ?_
    · unfold does
      go_simp
      exact ⟨hk.alloc _, _, rfl, Blk.new _ _ _, own_ext hC.2.1 ((Ext.refl _).alloc _), hC.2.2.alloc _⟩
    rintro _ ⟨_, q3, rfl, _, _⟩
    simp only [Act.put, qS0, qS1, qS2]
    refine FlowT.s (fun v' w' => (∃ a c, v' = .slice a (s.todo.length + 1) c) ∧ OwnsQ w' 0 58 3 v' (s.todo.length + 1) (ts.flatMap N2.cells ++ N2.cells ⟨⟨(c.me : Int), 100, LL⟩, .slice an NL cn⟩) ∧ (∀ b, v'.ownBlock = some b → (Value.slice aw s.todo.length cw).ownBlock = some b ∨ w2.heap.size ≤ b) ∧ IRow 0 w' (.slice an NL cn) LL) 14 rfl (by kernel_rfl) (fun _ _ _ ⟨h1, h2, h3, h4⟩ he => ⟨h1, h2.ext he, h3, own_ext h4 he⟩) (fun w4 hC hk => ?_) ?_
    · obtain ⟨q', e, hg, hI, hE⟩ := hC
      obtain rfl : q3 = q' := by simpa using e
      refine does_append_q 0 (Nat.zero_le _) 36 58 (.agg #[.int .i64 0, .int .u8 0, .slice none 0 0]) 3 40 Tryz.underlying36 note_info rfl (by omega) (by omega) rfl _ _ rfl _ _ _ rfl (HS.out.tq.ext hE) q3 (N2.cells ⟨⟨(c.me : Int), 100, LL⟩, .slice an NL cn⟩) rfl (by simp [N2.cells, Value.oneCell']) rfl hg (by have := Hld.out; unfold SH.load at this; omega) fun v' w' h1 h2 h3 => ⟨hk.trans h2, h1.form, h1, fun b hb => (h3 b hb).imp id fun h => Nat.le_trans hE.size h, ?_⟩
      refine own_off hI h2 fun b hb => ?_
      obtain ⟨c', hc⟩ := (HS.out.tq.ext hE).ty hb |>.2
      exact off_of hc (by decide)
    rintro _ ⟨_, ⟨a9, c9, rfl⟩, _, _⟩
    simp only [Act.put, qS0, qS1, qS2]
    repeat (apply FlowT.d; (intro w1 hk; unfold does; go_simp; (try go_ints); (first | exact DetR.mk | (simp only [↓IntWalk.iteOmega, Oper.doesUpon_value]; exact DetR.mk) | (simp only [↓IntWalk.iteOmega]; go_simp; (try go_ints); exact DetR.mk))); simp only [Act.put, qS0, qS1, qS2])
    refine FlowT.last (fun _ w' => ShAt w' G F g c (s.push ⟨(c.me : Int), 100, LL⟩) ∧ Keep (fun b => ¬ F b) w w') 17 rfl (by kernel_rfl) (by kernel_rfl) (fun w5 hC hk => ?_) (fun _ w6 hR => ?_)
    · obtain ⟨_, hq, hob, hI⟩ := hC
      have q8 := b10 w5 hk
      have f8 := (HS.out.blk.keep hk fun hb => HXq.out _ _ hb (by decide) _ HS.out.blk).free 10
      unfold does
      go_simp
      refine ⟨⟨_, _, _, _, _, _, _, _, HS.out.setTodo hk (l := s.todo ++ [⟨(c.me : Int), 100, LL⟩]) (ts' := ts ++ [⟨⟨(c.me : Int), 100, LL⟩, .slice an NL cn⟩]) (by rw [List.map_append, HS.out.tn]; rfl) ?_ (fun x hx => ?_) hob⟩, ?_⟩
      · rw [List.length_append, List.flatMap_append]
        simpa using hq
      · rcases List.mem_append.1 hx with hx | hx
        · exact own_off (HS.out.tr x hx) hk fun b hb ⟨c', hc⟩ => HXq.out _ _ hb (by decide) c' hc
        · rw [List.mem_singleton.1 hx]; exact hI
      · exact (HX2.out.keep _).trans ((hk.mono fun b _ e => HS.out.own b (.inr (.inr (.inr (.inr (.inr (.inl e))))))).set (HS.out.own g (.inl rfl)) _)
    simp only [Act.put]
    obtain ⟨hS9, hK9⟩ := hR
    have HWk := hid (shardwork_any c (s.push ⟨(c.me : Int), 100, LL⟩) w6 G F g hS9 Hpo.out (by rw [push_phi]; have := Hph.out; omega))
    have HK9 := hid hK9
    clear hS9 hK9 b10 b4 HXq
    go_wp2_with fail
    refine HWk.out.mono ?_
    intro e w7 hx
    obtain ⟨u, t, os7, F', rfl, h1, h2, h3, h4, h5, h7, h6⟩ := hx
    have H := hid (And.intro h1 (And.intro h2 (And.intro h3 (And.intro h4 (And.intro h5 h7)))))
    have HK7 := hid (HK9.out.trans h6)
    clear HWk h1 h2 h3 h4 h5 h6 h7
    go_wp2
    go_ret2
    exact ⟨u, t, os7, F', rfl, H.out.1, H.out.2.1, H.out.2.2.1, H.out.2.2.2.1, H.out.2.2.2.2.1, H.out.2.2.2.2.2, HK7.out⟩
  · obtain ⟨LL, hLL⟩ : ∃ LL, LL = x :: l := ⟨_, rfl⟩
    have HNL : Hid (LL.length = 2) := hid (by rw [hLL, List.length_cons, hl1])
    rw [← hLL] at HB Hpo Hv ⊢
    rw [HNL.out] at HB Hv ⊢
    have Hl2 : Hid (2 ≤ 1001) := hid (by omega)
    clear hLL hl1
    go_enter Tryz.func17, Tryz.ntmps17
    go_wp2_with fail
    refine HB.out.mono ?_
    intro e w2 hx
    obtain ⟨rfl, hx2⟩ := hx
    have HX2 := hid hx2
    have HS := hid (H0.out.ext hx2)
    have HvI := hid (IntsR.own (n0 := w2.heap.size) (own_ext Hv.out hx2) (Nat.le_refl _))
    clear HB hx2
    obtain ⟨aw, cw, hvt⟩ := HS.out.tq.form
    subst hvt
    have hXq : ∀ (b : Nat) (e : TypeId), (Value.slice aw s.todo.length cw).ownBlock = some b → 58 ≠ e → ∀ c, ¬ Blk w2 b c e := fun _ _ hb he c' hc => by
      obtain ⟨c'', hc'⟩ := HS.out.tblk hb
      exact off_of hc' he ⟨_, hc⟩
    have b10 := HS.out.blk.kc (X := fun q => (Value.slice aw s.todo.length cw).ownBlock = some q) (fun hb => hXq _ _ hb (by decide) _ HS.out.blk) 10 rfl
    have b4 := HS.out.blk.kc (X := fun q => (Value.slice aw s.todo.length cw).ownBlock = some q) (fun hb => hXq _ _ hb (by decide) _ HS.out.blk) 4 rfl
    simp only [shCells, qA0, qA1, qA2] at b10 b4
    have HXq := hid hXq
    clear hXq
    go_wp2
    refine wp_flowT (fun q => (Value.slice aw s.todo.length cw).ownBlock = some q) (by kernel_rfl) (by kernel_rfl) ?_
    repeat (apply FlowT.d; (intro w1 hk; unfold does; go_simp; (try go_ints); (first | exact DetR.mk | (simp only [↓IntWalk.iteOmega, Oper.doesUpon_value]; exact DetR.mk) | (simp only [↓IntWalk.iteOmega]; go_simp; (try go_ints); exact DetR.mk))); simp only [Act.put, qS0, qS1, qS2])
    refine FlowT.s (fun v' w' => (∃ a c, v' = .slice a 2 c) ∧ IRow 0 w' v' LL ∧ Ext w2 w') 11 rfl (by kernel_rfl) (fun _ _ _ ⟨h1, h2, h3⟩ he => ⟨h1, own_ext h2 he, h3.trans he⟩) (fun w4 hC hk => ?_) ?_
    · unfold does
      go_simp
      refine CallR.act ((clone_big _ LL w4 w2.heap.size (HvI.out.old (hC.old _)) (by rw [HNL.out]; have := Hl2.out; omega)).mono ?_)
      rintro e w5 ⟨v', rfl, hx5, hr5⟩
      refine ⟨_, rfl, hk.trans (hx5.keep _), ?_, own_low hr5 (Nat.zero_le _), hC.trans hx5⟩
      have := row_form hr5
      rwa [HNL.out] at this
    rintro _ ⟨_, ⟨an, cn, rfl⟩, _, _⟩
    simp only [Act.put, qS0, qS1, qS2]
    repeat (apply FlowT.d; (intro w1 hk; unfold does; go_simp; (try go_ints); (first | exact DetR.mk | (simp only [↓IntWalk.iteOmega, Oper.doesUpon_value]; exact DetR.mk) | (simp only [↓IntWalk.iteOmega]; go_simp; (try go_ints); exact DetR.mk))); simp only [Act.put, qS0, qS1, qS2])
    refine FlowT.s (fun v' w' => ∃ q, v' = .slice (some ⟨q, 0, none⟩) 1 1 ∧ Blk w' q #[.int .i64 (c.me : Int), .int .u8 101, .slice an 2 cn] 58 ∧ IRow 0 w' (.slice an 2 cn) LL ∧ Ext w2 w') 13 rfl (by kernel_rfl) (fun _ _ _ ⟨q, h1, h2, h3, h4⟩ he => ⟨q, h1, h2.ext he, own_ext h3 he, h4.trans he⟩) (fun w4 hC hk => ?_) ?_
    · unfold does
      go_simp
      exact ⟨hk.alloc _, _, rfl, Blk.new _ _ _, own_ext hC.2.1 ((Ext.refl _).alloc _), hC.2.2.alloc _⟩
    rintro _ ⟨_, q3, rfl, _, _⟩
    simp only [Act.put, qS0, qS1, qS2]
    refine FlowT.s (fun v' w' => (∃ a c, v' = .slice a (s.todo.length + 1) c) ∧ OwnsQ w' 0 58 3 v' (s.todo.length + 1) (ts.flatMap N2.cells ++ N2.cells ⟨⟨(c.me : Int), 101, LL⟩, .slice an 2 cn⟩) ∧ (∀ b, v'.ownBlock = some b → (Value.slice aw s.todo.length cw).ownBlock = some b ∨ w2.heap.size ≤ b) ∧ IRow 0 w' (.slice an 2 cn) LL) 14 rfl (by kernel_rfl) (fun _ _ _ ⟨h1, h2, h3, h4⟩ he => ⟨h1, h2.ext he, h3, own_ext h4 he⟩) (fun w4 hC hk => ?_) ?_
    · obtain ⟨q', e, hg, hI, hE⟩ := hC
      obtain rfl : q3 = q' := by simpa using e
      refine does_append_q 0 (Nat.zero_le _) 36 58 (.agg #[.int .i64 0, .int .u8 0, .slice none 0 0]) 3 40 Tryz.underlying36 note_info rfl (by omega) (by omega) rfl _ _ rfl _ _ _ rfl (HS.out.tq.ext hE) q3 (N2.cells ⟨⟨(c.me : Int), 101, LL⟩, .slice an 2 cn⟩) rfl (by simp [N2.cells, Value.oneCell']) rfl hg (by have := Hld.out; unfold SH.load at this; omega) fun v' w' h1 h2 h3 => ⟨hk.trans h2, h1.form, h1, fun b hb => (h3 b hb).imp id fun h => Nat.le_trans hE.size h, ?_⟩
      refine own_off hI h2 fun b hb => ?_
      obtain ⟨c', hc⟩ := (HS.out.tq.ext hE).ty hb |>.2
      exact off_of hc (by decide)
    rintro _ ⟨_, ⟨a9, c9, rfl⟩, _, _⟩
    simp only [Act.put, qS0, qS1, qS2]
    repeat (apply FlowT.d; (intro w1 hk; unfold does; go_simp; (try go_ints); (first | exact DetR.mk | (simp only [↓IntWalk.iteOmega, Oper.doesUpon_value]; exact DetR.mk) | (simp only [↓IntWalk.iteOmega]; go_simp; (try go_ints); exact DetR.mk))); simp only [Act.put, qS0, qS1, qS2])
    refine FlowT.last (fun _ w' => ShAt w' G F g c (s.push ⟨(c.me : Int), 101, LL⟩) ∧ Keep (fun b => ¬ F b) w w') 17 rfl (by kernel_rfl) (by kernel_rfl) (fun w5 hC hk => ?_) (fun _ w6 hR => ?_)
    · obtain ⟨_, hq, hob, hI⟩ := hC
      have q8 := b10 w5 hk
      have f8 := (HS.out.blk.keep hk fun hb => HXq.out _ _ hb (by decide) _ HS.out.blk).free 10
      unfold does
      go_simp
      refine ⟨⟨_, _, _, _, _, _, _, _, HS.out.setTodo hk (l := s.todo ++ [⟨(c.me : Int), 101, LL⟩]) (ts' := ts ++ [⟨⟨(c.me : Int), 101, LL⟩, .slice an 2 cn⟩]) (by rw [List.map_append, HS.out.tn]; rfl) ?_ (fun x hx => ?_) hob⟩, ?_⟩
      · rw [List.length_append, List.flatMap_append]
        simpa using hq
      · rcases List.mem_append.1 hx with hx | hx
        · exact own_off (HS.out.tr x hx) hk fun b hb ⟨c', hc⟩ => HXq.out _ _ hb (by decide) c' hc
        · rw [List.mem_singleton.1 hx]; exact hI
      · exact (HX2.out.keep _).trans ((hk.mono fun b _ e => HS.out.own b (.inr (.inr (.inr (.inr (.inr (.inl e))))))).set (HS.out.own g (.inl rfl)) _)
    simp only [Act.put]
    obtain ⟨hS9, hK9⟩ := hR
    have HWk := hid (shardwork_any c (s.push ⟨(c.me : Int), 101, LL⟩) w6 G F g hS9 Hpo.out (by rw [push_phi]; have := Hph.out; omega))
    have HK9 := hid hK9
    clear hS9 hK9 b10 b4 HXq
    go_wp2_with fail
    refine HWk.out.mono ?_
    intro e w7 hx
    obtain ⟨u, t, os7, F', rfl, h1, h2, h3, h4, h5, h7, h6⟩ := hx
    have H := hid (And.intro h1 (And.intro h2 (And.intro h3 (And.intro h4 (And.intro h5 h7)))))
    have HK7 := hid (HK9.out.trans h6)
    clear HWk h1 h2 h3 h4 h5 h6 h7
    go_wp2
    go_ret2
    exact ⟨u, t, os7, F', rfl, H.out.1, H.out.2.1, H.out.2.2.1, H.out.2.2.2.1, H.out.2.2.2.2.1, H.out.2.2.2.2.2, HK7.out⟩
set_option maxRecDepth 100000 in
set_option maxHeartbeats 3200000 in
theorem shardnew_bound (a1 a2 a3 : Option Addr) (c1 c2 c3 : Nat) (P : PP) (me kk : Int) (w : World) (n0 : Nat) (ad : Nat → Addr) (h : PW w n0 ad a1 a2 a3 c1 c2 c3 P) (hb : kk < 1 ∨ 6 < kk ∨ me < 0 ∨ kk ≤ me) :
    Calls Tryz.prog 11 #[pval a1 a2 a3 c1 c2 c3 P, .int .i64 me, .int .i64 kk] w fun e w' => e = .returned (.tuple #[.pointer none, .slice none 0 0, evOf ad 2]) ∧ Ext w w' := by
  obtain ⟨W, hW⟩ : ∃ W, W = w.alloc (.cells (pcells a1 a2 a3 c1 c2 c3 P) 26) := ⟨_, rfl⟩
  have HX : Hid (Ext w W) := hid (by rw [hW]; exact (Ext.refl _).alloc _)
  have HWe : Hid (W = w.alloc (.cells #[.slice a1 P.vars.length c1, .slice a2 P.funs.length c2, .slice a3 P.stmts.length c3] 26)) := hid (by rw [hW]; rfl)
  have HC := hid (consof_yes a1 a2 a3 c1 c2 c3 P W n0 ad (h.ext HX.out))
  have he := h.errs.at2
  unfold evOf at he ⊢
  have He := hid he
  unfold pval at HC ⊢
  clear hW h he
  by_cases h1 : kk < 1
  · clear hb
    go_enter Tryz.func11, Tryz.ntmps11
    go_wp2_with fail
    rw [← HWe.out]
    refine HC.out.mono ?_
    intro e w1 hx
    obtain ⟨v, rs, rfl, hi, hx1⟩ := hx
    obtain ⟨av, cv, rfl⟩ := row_form hi.row
    have Hx1 := hid (HX.out.trans hx1)
    have e2 : ∀ w2, Keep (fun _ => False) w1 w2 → w2.cell? ⟨0, 0, none⟩ = some (.iface 262 (.pointer (some (ad 2)))) := fun w2 k => k.ext.cellx (Hx1.out.cellx He.out)
    clear HC hi hx1
    go_wp2
    refine wp_flowT (fun _ => False) (by kernel_rfl) (by kernel_rfl) ?_
    repeat (apply FlowT.d; (intro w1 hk; unfold does; go_simp; (try go_ints); (first | exact DetR.mk | (simp only [↓IntWalk.iteOmega, Oper.doesUpon_value]; exact DetR.mk) | (simp only [↓IntWalk.iteOmega]; go_simp; (try go_ints); exact DetR.mk))); simp only [Act.put, qS0, qS1, qS2])
    refine FlowT.fin fun w2 hx2 hk2 => ?_
    have Hx2 := hid (Hx1.out.trans hx2)
    clear hx2 hk2 e2
    go_wp2
    go_ret3
    exact ⟨rfl, Hx2.out⟩
  · by_cases h2 : 6 < kk
    · clear hb
      go_enter Tryz.func11, Tryz.ntmps11
      go_wp2_with fail
      rw [← HWe.out]
      refine HC.out.mono ?_
      intro e w1 hx
      obtain ⟨v, rs, rfl, hi, hx1⟩ := hx
      obtain ⟨av, cv, rfl⟩ := row_form hi.row
      have Hx1 := hid (HX.out.trans hx1)
      have e2 : ∀ w2, Keep (fun _ => False) w1 w2 → w2.cell? ⟨0, 0, none⟩ = some (.iface 262 (.pointer (some (ad 2)))) := fun w2 k => k.ext.cellx (Hx1.out.cellx He.out)
      clear HC hi hx1
      go_wp2
      refine wp_flowT (fun _ => False) (by kernel_rfl) (by kernel_rfl) ?_
      repeat (apply FlowT.d; (intro w1 hk; unfold does; go_simp; (try go_ints); (first | exact DetR.mk | (simp only [↓IntWalk.iteOmega, Oper.doesUpon_value]; exact DetR.mk) | (simp only [↓IntWalk.iteOmega]; go_simp; (try go_ints); exact DetR.mk))); simp only [Act.put, qS0, qS1, qS2])
      refine FlowT.fin fun w2 hx2 hk2 => ?_
      have Hx2 := hid (Hx1.out.trans hx2)
      clear hx2 hk2 e2
      go_wp2
      go_ret3
      exact ⟨rfl, Hx2.out⟩
    · by_cases h3 : me < 0
      · clear hb
        go_enter Tryz.func11, Tryz.ntmps11
        go_wp2_with fail
        rw [← HWe.out]
        refine HC.out.mono ?_
        intro e w1 hx
        obtain ⟨v, rs, rfl, hi, hx1⟩ := hx
        obtain ⟨av, cv, rfl⟩ := row_form hi.row
        have Hx1 := hid (HX.out.trans hx1)
        have e2 : ∀ w2, Keep (fun _ => False) w1 w2 → w2.cell? ⟨0, 0, none⟩ = some (.iface 262 (.pointer (some (ad 2)))) := fun w2 k => k.ext.cellx (Hx1.out.cellx He.out)
        clear HC hi hx1
        go_wp2
        refine wp_flowT (fun _ => False) (by kernel_rfl) (by kernel_rfl) ?_
        repeat (apply FlowT.d; (intro w1 hk; unfold does; go_simp; (try go_ints); (first | exact DetR.mk | (simp only [↓IntWalk.iteOmega, Oper.doesUpon_value]; exact DetR.mk) | (simp only [↓IntWalk.iteOmega]; go_simp; (try go_ints); exact DetR.mk))); simp only [Act.put, qS0, qS1, qS2])
        refine FlowT.fin fun w2 hx2 hk2 => ?_
        have Hx2 := hid (Hx1.out.trans hx2)
        clear hx2 hk2 e2
        go_wp2
        go_ret3
        exact ⟨rfl, Hx2.out⟩
      · have h4 : kk ≤ me := by omega
        clear hb
        go_enter Tryz.func11, Tryz.ntmps11
        go_wp2_with fail
        rw [← HWe.out]
        refine HC.out.mono ?_
        intro e w1 hx
        obtain ⟨v, rs, rfl, hi, hx1⟩ := hx
        obtain ⟨av, cv, rfl⟩ := row_form hi.row
        have Hx1 := hid (HX.out.trans hx1)
        have e2 : ∀ w2, Keep (fun _ => False) w1 w2 → w2.cell? ⟨0, 0, none⟩ = some (.iface 262 (.pointer (some (ad 2)))) := fun w2 k => k.ext.cellx (Hx1.out.cellx He.out)
        clear HC hi hx1
        go_wp2
        refine wp_flowT (fun _ => False) (by kernel_rfl) (by kernel_rfl) ?_
        repeat (apply FlowT.d; (intro w1 hk; unfold does; go_simp; (try go_ints); (first | exact DetR.mk | (simp only [↓IntWalk.iteOmega, Oper.doesUpon_value]; exact DetR.mk) | (simp only [↓IntWalk.iteOmega]; go_simp; (try go_ints); exact DetR.mk))); simp only [Act.put, qS0, qS1, qS2])
        refine FlowT.fin fun w2 hx2 hk2 => ?_
        have Hx2 := hid (Hx1.out.trans hx2)
        clear hx2 hk2 e2
        go_wp2
        go_ret3
        exact ⟨rfl, Hx2.out⟩
end Go.Proofs.YtihdpijgngooaaaGreatDoor
