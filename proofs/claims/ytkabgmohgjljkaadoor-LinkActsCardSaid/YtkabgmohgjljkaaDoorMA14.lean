/- Texts of one proof, put together: KA KP KB. -/
import Derived.Test.YtkabgmohgjljkaaDoorMA03
import Derived.Test.YtkabgmohgjljkaaDoorMA04
import Derived.Test.YtkabgmohgjljkaaDoorMA13

/- The reference's links: the frame that is due is taken, and what waited behind it. -/
namespace Go.Proofs.YtkabgmohgjljkaaDoor
set_option linter.unusedSimpArgs false
set_option linter.unusedVariables false
open Go Go.RowKit

theorem find_findV {l : List Fr} {q : Int} {j : Nat} (h : Rcv.find l q = some j) : findV l q = (j : Int) := by unfold findV; rw [h]
theorem findV_none {l : List Fr} {q : Int} (h : Rcv.find l q = none) : findV l q = -1 := by unfold findV; rw [h]
/-- How long the row is that stands in a block's cell 3. -/
def rowLen (w : World) (q : Nat) : Nat := match w.cell? ⟨q, 3, none⟩ with
  | some (.slice _ n _) => n
  | _ => 0
theorem eraseIdx_td {α : Type} (l : List α) (j : Nat) : l.eraseIdx j = l.take j ++ l.drop (j + 1) := List.eraseIdx_eq_take_drop_succ l j

set_option maxRecDepth 100000 in
set_option maxHeartbeats 3200000 in
theorem reftake_now (r : Rcv) (f : Fr) (a : Option Addr) (cap : Nat) (w : World) (n0 q : Nat) (wv : Value) (fs : List FV) (h : RRcv w n0 q r wv fs) (hr : Ints w a f.nums.length f.nums) (hl : f.nums.length ≤ 1000)
    (hnv : NumsAt w n0 none (.slice a f.nums.length cap) f.nums) (hc : f.code = 0) (hs1 : f.fr = r.fr) (hs2 : f.to = r.to) (hs3 : f.kind ≠ 97) (hwl : r.wait.length ≤ 8) (hfd : Rcv.find r.wait f.seq = none) (hd : r.due = f.seq) (hd0 : 0 ≤ r.due) (hd1 : r.due ≤ 1000000) (hn0 : n0 ≤ w.heap.size) :
    Calls Tryd.prog 24 #[.pointer (some ⟨q, 0, none⟩), frv f a cap] w fun e w' => ∃ ov outs wv' fs', e = .returned (.tuple #[ov, .int .i64 0]) ∧ RRcv w' n0 q (r.took f).2 wv' fs' ∧ FRow w' n0 none w.heap.size 45 ov outs ∧ outs.map FV.f = (r.took f).1 ∧ Keep (fun b => b = q) w w' ∧ ∀ k, wv'.ownBlock = some k → wv.ownBlock = some k ∨ w.heap.size ≤ k := by
  have S1 := hid hs1
  have S2 := hid hs2
  have S3 : Hid (¬ (f.kind.toNat : Int) = 97) := hid fun e => hs3 (UInt8.toNat_inj.1 (by rw [show (97 : UInt8).toNat = 97 from rfl]; omega))
  have Hwl := hid hwl
  clear hs1 hs2 hs3 hwl
  have hto : r.took f = Rcv.run (r.wait.length + 1) { r with due := r.due + 1 } [f] := by
    unfold Rcv.took
    rw [if_neg (by rw [hfd]; simp; omega), if_neg (by omega)]
  have hfv : findV r.wait f.seq = -1 := findV_none hfd
  have Hto := hid hto
  have Hfv := hid hfv
  have Hnv := hid hnv
  have Hn0 := hid hn0
  have Hd2 := hid (show ¬ r.due < f.seq by omega)
  have Hd0 := hid hd0
  have Hd1 := hid hd1
  have Hlen := hid h.len
  have hnlt : ¬ f.seq < r.due := by omega
  clear hto hfv hnv hn0 hd hfd hd0 hd1
  have HK := hid (referror_any f a cap _ (hr.ext ((Ext.refl w).alloc (.cells #[.int .u8 (f.kind.toNat : Int), .int .i64 f.fr, .int .i64 f.to, .int .i64 f.seq, .slice a f.nums.length cap] 45))) (by omega))
  have hB := Blk.new w #[.int .u8 (f.kind.toNat : Int), .int .i64 f.fr, .int .i64 f.to, .int .i64 f.seq, .slice a f.nums.length cap] 45
  have hx0 := (Ext.refl w).alloc (.cells #[.int .u8 (f.kind.toNat : Int), .int .i64 f.fr, .int .i64 f.to, .int .i64 f.seq, .slice a f.nums.length cap] 45)
  simp only [hc] at HK
  unfold frv at HK ⊢
  have Hr := hid hr
  have H := hid h
  have HB := hid hB
  have Hx0 := hid hx0
  clear hc hr h hB hx0
  go_enter Tryd.func24, Tryd.ntmps24
  go_wp2_with fail
  refine HK.out.mono ?_
  intro e w1 hx
  obtain ⟨rfl, hx1⟩ := hx
  have Hx1 := hid (Hx0.out.trans hx1)
  have HB1 := hid (HB.out.ext hx1)
  clear HK hx1 HB Hx0
  have s1 : (f.fr != r.fr) = false := by simp [S1.out]
  have s2 : (f.to != r.to) = false := by simp [S2.out]
  have s3 : ((f.kind.toNat : Int) == 97) = false := beq_eq_false_iff_ne.2 S3.out
  have h1 := H.out.ext Hx1.out
  generalize hN : w.heap.size = N at *
  have HN := hid hN
  clear hN
  go_wp2
  have d0 := HB1.out.kc (X := fun _ => False) (fun e => e) 0 rfl
  have d1 := HB1.out.kc (X := fun _ => False) (fun e => e) 1 rfl
  have d2 := HB1.out.kc (X := fun _ => False) (fun e => e) 2 rfl
  have g0 := h1.hp.kc (X := fun _ => False) (fun e => e) 0 rfl
  have g1 := h1.hp.kc (X := fun _ => False) (fun e => e) 1 rfl
  simp only [List.getElem_toArray, List.getElem_cons_zero, List.getElem_cons_succ] at d0 d1 d2 g0 g1
  refine wp_flowT (fun _ => False) (by kernel_rfl) (by kernel_rfl) ?_
  repeat (apply FlowT.d; (intro w1 hk; unfold does; go_simp; (try go_ints); (first | exact DetR.mk | (simp only [↓IntWalk.iteOmega, Oper.doesUpon_value]; exact DetR.mk) | (simp only [↓IntWalk.iteOmega]; go_simp; (try go_ints); exact DetR.mk))); simp only [Act.put, List.setIfInBounds_toArray, List.set_cons_zero, List.set_cons_succ])
  refine FlowT.fin fun w2 hx2 hk2 => ?_
  have Hx2 := hid (Hx1.out.trans hx2)
  have HB2 := hid (HB1.out.ext hx2)
  clear d0 d1 d2 g0 g1 hx2 hk2 HB1 Hx1 h1
  clear s1 s2 s3
  have h2 := H.out.ext Hx2.out
  have g2 := h2.hp.kc (X := fun _ => False) (fun e => e) 2 rfl
  have d3 := HB2.out.kc (X := fun _ => False) (fun e => e) 3 rfl
  simp only [List.getElem_toArray, List.getElem_cons_zero, List.getElem_cons_succ] at g2 d3
  have HFd := fun wa (k : Keep (fun _ => False) w2 wa) => hid (refrfind_ext r f.seq wa n0 q _ fs (h2.keep k Wr.none (fun e => e) (fun _ _ e => e)) (by have := Hwl.out; omega))
  clear h2
  go_wp2
  refine wp_flowT (fun _ => False) (by kernel_rfl) (by kernel_rfl) ?_
  repeat (apply FlowT.d; (intro w1 hk; unfold does; go_simp; (try go_ints); (first | exact DetR.mk | (simp only [↓IntWalk.iteOmega, Oper.doesUpon_value]; exact DetR.mk) | (simp only [↓IntWalk.iteOmega]; go_simp; (try go_ints); exact DetR.mk))); simp only [Act.put, List.setIfInBounds_toArray, List.set_cons_zero, List.set_cons_succ])
  rw [Hfv.out] at HFd
  apply FlowT.d
  · intro w1 hk
    unfold does
    go_simp
    exact CallR.det ((HFd w1 hk).out)
  simp only [Act.put, List.setIfInBounds_toArray, List.set_cons_zero, List.set_cons_succ]
  repeat (apply FlowT.d; (intro w1 hk; unfold does; go_simp; (try go_ints); (first | exact DetR.mk | (simp only [↓IntWalk.iteOmega, Oper.doesUpon_value]; exact DetR.mk) | (simp only [↓IntWalk.iteOmega]; go_simp; (try go_ints); exact DetR.mk))); simp only [Act.put, List.setIfInBounds_toArray, List.set_cons_zero, List.set_cons_succ])
  refine FlowT.fin fun w3 hx3 hk3 => ?_
  have h3 := H.out.ext (Hx2.out.trans hx3)
  have hB3 := HB2.out.ext hx3
  have Hx3 := hid (Hx2.out.trans hx3)
  clear g2 d3 HFd hx3 hk3 HB2 Hx2
  have g2 := h3.hp.kc (X := fun _ => False) (fun e => e) 2 rfl
  have d3 := hB3.kc (X := fun _ => False) (fun e => e) 3 rfl
  simp only [List.getElem_toArray, List.getElem_cons_zero, List.getElem_cons_succ] at g2 d3
  have hd2 := Hd2.out
  go_wp2
  refine wp_flowT (fun _ => False) (by kernel_rfl) (by kernel_rfl) ?_
  repeat (apply FlowT.d; (intro w1 hk; unfold does; go_simp; (try go_ints); (first | exact DetR.mk | (simp only [↓IntWalk.iteOmega, Oper.doesUpon_value]; exact DetR.mk) | (simp only [↓IntWalk.iteOmega]; go_simp; (try go_ints); exact DetR.mk))); simp only [Act.put, List.setIfInBounds_toArray, List.set_cons_zero, List.set_cons_succ])
  refine FlowT.fin fun w5 hx5 hk5 => ?_
  have h5 := h3.ext hx5
  have hB5 := hB3.ext hx5
  have Hx5 := hid (Hx3.out.trans hx5)
  clear g2 d3 h3 hB3 hx5 hk5 Hx3 hnlt
  have d0 := hB5.av 0 rfl
  have d1 := hB5.av 1 rfl
  have d2 := hB5.av 2 rfl
  have d3 := hB5.av 3 rfl
  have d4 := hB5.av 4 rfl
  simp only [List.getElem_toArray, List.getElem_cons_zero, List.getElem_cons_succ] at d0 d1 d2 d3 d4
  obtain ⟨W7, hW7⟩ : ∃ W7, W7 = w5.alloc (.cells #[.int .u8 (f.kind.toNat : Int), .int .i64 f.fr, .int .i64 f.to, .int .i64 f.seq, .slice a f.nums.length cap] 45) := ⟨_, rfl⟩
  have hx7 : Ext w5 W7 := by rw [hW7]; exact (Ext.refl _).alloc _
  have hB7 : Blk W7 w5.heap.size #[.int .u8 (f.kind.toNat : Int), .int .i64 f.fr, .int .i64 f.to, .int .i64 f.seq, .slice a f.nums.length cap] 45 := by rw [hW7]; exact Blk.new _ _ _
  have h7 := h5.ext hx7
  have g2 := h7.hp.av 2 rfl
  have gf := h7.hp.free
  simp only [List.getElem_toArray, List.getElem_cons_zero, List.getElem_cons_succ] at g2
  have hk8 : Keep (fun b => b = q) W7 (W7.setCell ⟨q, 2, none⟩ (.int .i64 (r.due + 1))) := Keep.set (X := fun b => b = q) (Keep.refl _ _) rfl _
  have hp8 := h7.hp.set 2 (.int .i64 (r.due + 1))
  simp only [List.setIfInBounds_toArray, List.set_cons_zero, List.set_cons_succ] at hp8
  have hwr8 : Wr W7 n0 none fun b => b = q := Wr.blk h7.hp (by decide) h7.lo
  have hrow7 : W7.ownsRow w.heap.size 45 5 (.slice (some ⟨w5.heap.size, 0, none⟩) 1 1) 1 (FV.cells ⟨f, .slice a f.nums.length cap⟩) :=
    own_of_blk hB7 (by have := Hx5.out.size; have := HN.out; omega) (Nat.le_refl _) (by unfold maxLen; omega) rfl rfl
  have hR8 : RRcv (W7.setCell ⟨q, 2, none⟩ (.int .i64 (r.due + 1))) n0 q { r with due := r.due + 1 } wv fs := ⟨hp8, h7.hl.keep hk8 hwr8 (fun b hb e => by
    obtain ⟨c, hc⟩ := own_ty h7.hl.row hb
    exact h7.hp.ty_ne hc (by decide) e.symm), h7.eq, h7.lo⟩
  have hF8 : FRow (W7.setCell ⟨q, 2, none⟩ (.int .i64 (r.due + 1))) n0 none w.heap.size 45 (.slice (some ⟨w5.heap.size, 0, none⟩) 1 1) [⟨f, .slice a f.nums.length cap⟩] := by
    refine ⟨?_, fun x hx => ?_⟩
    · have h1 := row_keep hrow7 hk8 fun c hc e => by
        obtain ⟨c', hc'⟩ := own_ty hrow7 hc
        exact h7.hp.ty_ne hc' (by decide) e.symm
      simpa using h1
    · obtain rfl := List.mem_singleton.1 hx
      exact NumsAt.keep (NumsAt.ext (NumsAt.ext Hnv.out Hx5.out) hx7) hk8 hwr8
  have hS8 : ∀ k, wv.ownBlock = some k → (Value.slice (some ⟨w5.heap.size, 0, none⟩) 1 1).ownBlock = some k → False := fun k h1 h2 => by
    obtain ⟨c, hc⟩ := own_ty h5.hl.row h1
    have h3 := hc.lt
    simp only [Value.ownBlock, Option.some.injEq] at h2
    omega
  have HK8 := hid ((Hx5.out.keep fun b => b = q).trans ((hx7.keep fun b => b = q).trans hk8))
  have HR8 := hid hR8
  have HF8 := hid hF8
  have HS8 := hid hS8
  rw [hW7] at HR8 HF8 HK8 g2
  have hgf : ∀ i, (w5.alloc (.cells #[.int .u8 (f.kind.toNat : Int), .int .i64 f.fr, .int .i64 f.to, .int .i64 f.seq, .slice a f.nums.length cap] 45)).frozen? ⟨q, i, none⟩ = false := by rw [← hW7]; exact gf
  have hd0 := Hd0.out
  have hd1 := Hd1.out
  clear hk8 hp8 hwr8 hR8 hF8 hS8 hW7 hx7 hB7 hrow7 h7 h5 hB5 gf
  go_wp2
  generalize (w5.alloc (.cells #[.int .u8 (f.kind.toNat : Int), .int .i64 f.fr, .int .i64 f.to, .int .i64 f.seq, .slice a f.nums.length cap] 45)).setCell ⟨q, 2, none⟩ (.int .i64 (r.due + 1)) = W8 at *
  generalize w5.heap.size = M at *
  clear g2 hgf d0 d1 d2 d3 d4 hd2
  have hwl := Hwl.out
  go_loopw [7] (fun t7 wr => ∃ (r' : Rcv) (wv' : Value) (fs' : List FV) (outs : List FV), RRcv wr n0 q r' wv' fs' ∧ FRow wr n0 none w.heap.size 45 t7 outs ∧ Rcv.run (r'.wait.length + 1) r' (outs.map FV.f) = Rcv.run (r.wait.length + 1) { r with due := r.due + 1 } [f] ∧ Keep (fun b => b = q) w wr ∧ 0 ≤ r'.due ∧ r'.due + (r'.wait.length : Int) ≤ r.due + 1 + (r.wait.length : Int) ∧ outs.length + r'.wait.length ≤ 1 + r.wait.length ∧ (∀ k, wv'.ownBlock = some k → wv.ownBlock = some k ∨ w.heap.size ≤ k) ∧ ∀ k, wv'.ownBlock = some k → t7.ownBlock = some k → False) (fun _ wr => rowLen wr q)
  case atStart => exact ⟨_, wv, fs, _, HR8.out, HF8.out, rfl, HK8.out, by simp only; omega, by simp only; omega, by simp, fun _ h => .inl h, HS8.out⟩
  case round =>
    obtain ⟨r', wv', fs', outs, hR, hF, hrun, hk, e0, e1, e2, hlo', hsep⟩ := hrel
    have Hrun := hid hrun
    have HR := hid hR
    have HF := hid hF
    have Hk := hid hk
    have Hlo' := hid hlo'
    have Hsep := hid hsep
    obtain ⟨ao, co, rfl⟩ := hF.form
    have g2 := hR.hp.av 2 rfl
    simp only [List.getElem_toArray, List.getElem_cons_zero, List.getElem_cons_succ] at g2
    have hml' : r'.wait.length = fs'.length := hR.len
    have HFd := hid (refrfind_any r' r'.due wr n0 q wv' fs' hR (by omega))
    clear HR8 HF8 HK8 HS8 hrun hF hk hlo' hsep
    cases hfd' : Rcv.find r'.wait r'.due with
    | none =>
      have Hfd' := hid hfd'
      rw [findV_none hfd'] at HFd
      clear hfd' hR hml'
      go_wp2_with fail
      refine HFd.out.mono ?_
      intro e w9 hx
      obtain ⟨rfl, rfl⟩ := hx
      clear HFd
      go_wp2
      go_ret2
      have hrn := Hrun.out
      rw [Rcv.run_none Hfd'.out, ← Hto.out] at hrn
      exact ⟨.slice ao outs.length co, outs, wv', fs', rfl, by rw [← hrn]; exact HR.out, HF.out, by rw [← hrn], Hk.out, HN.out ▸ Hlo'.out⟩
    | some j =>
      rw [find_findV hfd'] at HFd
      have hjl : j < fs'.length := by rw [← hml']; exact Rcv.find_lt hfd'
      have hxj : fs'[j]? = some (fs'[j]'hjl) := List.getElem?_eq_getElem hjl
      obtain ⟨x, hxd⟩ : ∃ x, x = fs'[j]'hjl := ⟨_, rfl⟩
      rw [← hxd] at hxj
      have hxm := List.mem_of_getElem? hxj
      have hwj : r'.wait[j]? = some x.f := by rw [hR.eq, List.getElem?_map, hxj]; rfl
      have Hrs := hid (Rcv.run_some (n := r'.wait.length) (out := outs.map FV.f) hfd' hwj)
      have HxA := hid (hR.hl.nums x hxm)
      obtain ⟨av, cv, _, hxv, _⟩ := (hR.hl.nums x hxm).form
      obtain ⟨g, cp, hwv⟩ := own_some hR.hl.row (by omega)
      subst hwv
      have g3 := hR.hp.av 3 rfl
      simp only [List.getElem_toArray, List.getElem_cons_zero, List.getElem_cons_succ] at g3
      obtain ⟨_, _, _, hcp1, hcp2, _⟩ := own_blk hR.hl.row
      have hml : cp ≤ 9223372036854775807 := Nat.le_trans hcp2 (by unfold maxLen; decide)
      obtain ⟨c0, c1, c2, c3, c4⟩ := own_f hR.hl.row hxj
      rw [hxv] at c4
      have Hxv := hid hxv
      have Heq := hid hR.eq
      have Hjl := hid hjl
      have Hml' := hid hml'
      have hfl8 : fs'.length ≤ 9 := by omega
      have hol : outs.length ≤ 1000000 := by omega
      have Hol := hid hol
      obtain ⟨W2, hW2⟩ : ∃ W2, W2 = wr.alloc (.cells #[.int .u8 (x.f.kind.toNat : Int), .int .i64 x.f.fr, .int .i64 x.f.to, .int .i64 x.f.seq, .slice av x.f.nums.length cv] 45) := ⟨_, rfl⟩
      have hx2 : Ext wr W2 := by rw [hW2]; exact (Ext.refl _).alloc _
      have hB2 : Blk W2 wr.heap.size #[.int .u8 (x.f.kind.toNat : Int), .int .i64 x.f.fr, .int .i64 x.f.to, .int .i64 x.f.seq, .slice av x.f.nums.length cv] 45 := by rw [hW2]; exact Blk.new _ _ _
      have hq2 := row_keep HF.out.row (hx2.keep fun _ => False) (fun _ _ h => h)
      have hbs : w.heap.size ≤ W2.heap.size := Nat.le_trans Hk.out.size hx2.size
      have hR2 := hR.ext hx2
      have HwO : Hid (Wr W2 n0 none fun k => (Value.slice ao outs.length co).ownBlock = some k) := hid (Wr.row (own_base hq2 (show n0 ≤ w.heap.size by have := Hn0.out; have := HN.out; omega)) (by decide))
      have HneO : Hid (¬ (Value.slice ao outs.length co).ownBlock = some q) := hid fun e => by
        obtain ⟨c, hc⟩ := own_ty hq2 e
        exact hR2.hp.ty_ne hc (by decide) rfl
      have HsepO : Hid (∀ b, (Value.slice (some ⟨g, 0, none⟩) fs'.length cp).ownBlock = some b → ¬ (Value.slice ao outs.length co).ownBlock = some b) := hid fun b h1 h2 => Hsep.out b h1 h2
      have HW2 := hid hW2
      have Hx2 := hid hx2
      have HB2 := hid hB2
      have Hq := hid hq2
      have Hbs := hid hbs
      have HR2 := hid hR2
      have hjle : j ≤ fs'.length := by omega
      have hlim1 : 0 + j ≤ 1000000 := by omega
      have hlim2 : j + (fs'.length - (j + 1)) ≤ 1000000 := by omega
      clear hW2 hx2 hB2 hq2 hbs hR2 hR hxd hxj hxm hwj hxv hml' hfd' hcp2 hol
      go_wp2_with fail
      refine HFd.out.mono ?_
      intro e w9 hx
      obtain ⟨rfl, rfl⟩ := hx
      clear HFd
      by_cases hce : cp = j + 1
      · go_wp2_with (first
         | (at_builtin
            rw [← HW2.out]
            refine wpList_append_el w.heap.size Hbs.out 40 45 (.agg #[.int .u8 0, .int .i64 0, .int .i64 0, .int .i64 0, .slice none 0 0]) 5 56 Tryd.underlying40 rframe_info rfl (by omega) (by omega) rfl _ _ rfl (.slice ao outs.length co) outs.length (outs.flatMap FV.cells) rfl Hq.out wr.heap.size (FV.cells ⟨x.f, .slice av x.f.nums.length cv⟩) rfl (by simp [FV.cells, Value.oneCell']) rfl HB2.out Hol.out ?_
            intro v6 w6 ho6 hk6 hl6
            obtain ⟨a6, c6, rfl⟩ := row_form ho6
            have hR6 := HR2.out.keep hk6 HwO.out HneO.out HsepO.out
            have h63 := hR6.hp.av 3 rfl
            simp only [List.getElem_toArray, List.getElem_cons_zero, List.getElem_cons_succ] at h63
            have Hs1 := hid (Src.head (e := 45) hR6.hl rfl j hjle)
            have HR6 := hid hR6
            have Ho6 := hid ho6
            have Hk6 := hid hk6
            have hE6 : Hid (w6.ownsRow w6.heap.size 45 5 (.slice none 0 0) 0 []) := hid (World.ownsRow_nil _ _ _ _)
            clear hR6 ho6 hk6 hl6)
         | (at_builtin
            refine wpList_append_src w6.heap.size (Nat.le_refl _) 40 45 (.agg #[.int .u8 0, .int .i64 0, .int .i64 0, .int .i64 0, .slice none 0 0]) 5 56 Tryd.underlying40 rframe_info rfl (by omega) (by omega) rfl _ _ rfl (.slice none 0 0) 0 [] rfl hE6.out (some ⟨g, 0, none⟩) j _ ((fs'.take j).flatMap FV.cells) rfl Hs1.out hlim1 ?_
            intro v7 w7 ho7 hk7 hl7
            simp only [Nat.zero_add, List.nil_append] at ho7
            obtain ⟨a7, c7, rfl⟩ := row_form ho7
            have hx7 := Keep.new (Ext.refl _) hk7 (fun i hi => by cases hi)
            have hR7 := HR6.out.ext hx7
            have h73 := hR7.hp.av 3 rfl
            simp only [List.getElem_toArray, List.getElem_cons_zero, List.getElem_cons_succ] at h73
            have hs2 := Src.zero w7 ⟨g, 0, none⟩ fs' j (by omega)
            have Hs2 := hid hs2
            have HR7 := hid hR7
            have Ho7 := hid ho7
            have Hx7 := hid hx7
            have hs67 := hx7.size
            clear hR7 ho7 hk7 hl7 hx7 hs2)
         | (at_builtin
            refine wpList_append_src w6.heap.size hs67 40 45 (.agg #[.int .u8 0, .int .i64 0, .int .i64 0, .int .i64 0, .slice none 0 0]) 5 56 Tryd.underlying40 rframe_info rfl (by omega) (by omega) rfl _ _ rfl (.slice a7 j c7) j ((fs'.take j).flatMap FV.cells) rfl Ho7.out (some ⟨g, 0, none⟩) (fs'.length - (j + 1)) _ ((fs'.drop (j + 1)).flatMap FV.cells) rfl Hs2.out hlim2 ?_
            intro v8 w8 ho8 hk8 hl8
            obtain ⟨a8, c8, rfl⟩ := row_form ho8
            have hx8 := Keep.new Hx7.out hk8 (fun b hb => (World.ownsRow.lt Ho7.out b hb).1)
            have hp8 := HR6.out.hp.ext hx8
            have z2 := hp8.av 2 rfl
            have z3 := hp8.av 3 rfl
            have zf := hp8.free
            simp only [List.getElem_toArray, List.getElem_cons_zero, List.getElem_cons_succ] at z2 z3))
        go_roundw
        case rel =>
          have hfe : fs'.eraseIdx j = fs'.take j ++ fs'.drop (j + 1) := eraseIdx_td fs' j
          have hfl : (fs'.eraseIdx j).length = j + (fs'.length - (j + 1)) := by rw [hfe]; simp; omega
          have hsub : ∀ y ∈ fs'.eraseIdx j, y ∈ fs' := fun y hy => List.mem_of_mem_eraseIdx hy
          have hxe : (⟨x.f, .slice av x.f.nums.length cv⟩ : FV) = x := by rw [← Hxv.out]
          have hk8q : Keep (fun b => b = q) w8 (w8.setCell ⟨q, 3, none⟩ (.slice a8 (j + (fs'.length - (j + 1))) c8)) := Keep.set (X := fun b => b = q) (Keep.refl _ _) rfl _
          have hk9q : Keep (fun b => b = q) w8 ((w8.setCell ⟨q, 3, none⟩ (.slice a8 (j + (fs'.length - (j + 1))) c8)).setCell ⟨q, 2, none⟩ (.int .i64 (r'.due + 1))) := hk8q.set (X := fun b => b = q) rfl _
          have hp9 := (hp8.set 3 (.slice a8 (j + (fs'.length - (j + 1))) c8)).set 2 (.int .i64 (r'.due + 1))
          simp only [List.setIfInBounds_toArray, List.set_cons_zero, List.set_cons_succ] at hp9
          have hn8 : ∀ b, (Value.slice a8 (j + (fs'.length - (j + 1))) c8).ownBlock = some b → b ≠ q := fun b hb e => by
            obtain ⟨c, hc⟩ := own_ty ho8 hb
            exact hp8.ty_ne hc (by decide) e.symm
          have ho9 := row_keep ho8 hk9q hn8
          have hb9 : ∀ k, (Value.slice a8 (j + (fs'.length - (j + 1))) c8).ownBlock = some k → w6.heap.size ≤ k := fun k hk => (World.ownsRow.lt ho8 k hk).1
          have hr8 := row_keep Ho6.out (hx8.keep fun _ => False) (fun _ _ h => h)
          have hn6 : ∀ b, (Value.slice a6 (outs.length + 1) c6).ownBlock = some b → b ≠ q := fun b hb e => by
            obtain ⟨c, hc⟩ := own_ty hr8 hb
            exact hp8.ty_ne hc (by decide) e.symm
          have hr9 := row_keep hr8 hk9q hn6
          have hwq : Wr w8 n0 none fun b => b = q := Wr.blk hp8 (by decide) HR6.out.lo
          have hsw : w.heap.size ≤ w6.heap.size := Nat.le_trans Hbs.out Hk6.out.size
          have hat : ∀ y : FV, y.At W2 n0 none → y.At ((w8.setCell ⟨q, 3, none⟩ (.slice a8 (j + (fs'.length - (j + 1))) c8)).setCell ⟨q, 2, none⟩ (.int .i64 (r'.due + 1))) n0 none := fun y hy => NumsAt.keep (NumsAt.ext (NumsAt.keep hy Hk6.out HwO.out) hx8) hk9q hwq
          refine ⟨{ r' with due := r'.due + 1, wait := r'.wait.eraseIdx j }, _, fs'.eraseIdx j, outs ++ [x], ⟨hp9, ⟨?_, fun y hy => hat y (HR2.out.hl.nums y (hsub y hy))⟩, by rw [map_eraseIdx, ← Heq.out], HR6.out.lo⟩, ⟨?_, fun y hy => ?_⟩, ?_, ?_, ?_, ?_, ?_, ?_, ?_⟩
          · have h1 := own_base ho9 (show n0 ≤ w6.heap.size by have h2 := Hn0.out; have h3 := HN.out; omega)
            rw [hfl, hfe, List.flatMap_append]
            exact h1
          · rw [hxe] at hr9
            simpa using hr9
          · rcases List.mem_append.1 hy with hy | hy
            · exact hat y (NumsAt.ext (HF.out.nums y hy) Hx2.out)
            · obtain rfl := List.mem_singleton.1 hy
              exact hat _ (NumsAt.ext HxA.out Hx2.out)
          · have h1 := Hrun.out
            rw [Hrs.out] at h1
            rw [← h1]
            have h2 : (r'.wait.eraseIdx j).length + 1 = r'.wait.length := by rw [List.length_eraseIdx, if_pos (by have := Hjl.out; have := Hml'.out; omega)]; have := Hjl.out; have := Hml'.out; omega
            simp only [h2, List.map_append, List.map_cons, List.map_nil]
          · exact (Keep.tr (Keep.tr (Hk.out.ext_r Hx2.out) Hk6.out fun c hc => .inl (World.ownsRow.lt Hq.out c hc).1) (hx8.keep fun _ => False) fun c hc => hc.elim).trans hk9q
          · simp only; omega
          · simp only [List.length_eraseIdx]
            rw [if_pos (by have := Hjl.out; have := Hml'.out; omega)]
            have := Hjl.out
            have := Hml'.out
            omega
          · simp only [List.length_eraseIdx, List.length_append, List.length_cons, List.length_nil]
            rw [if_pos (by have := Hjl.out; have := Hml'.out; omega)]
            have := Hjl.out
            have := Hml'.out
            omega
          · exact fun k hk => .inr (Nat.le_trans hsw (hb9 k hk))
          · intro k hk1 hk2
            have h1 := hb9 k hk1
            have h2 := (World.ownsRow.lt Ho6.out k hk2).2
            omega
        case measure =>
          have h3 := Hjl.out
          have hp9 := (hp8.set 3 (.slice a8 (j + (fs'.length - (j + 1))) c8)).set 2 (.int .i64 (r'.due + 1))
          simp only [List.setIfInBounds_toArray, List.set_cons_zero, List.set_cons_succ] at hp9
          have h1 := hp9.av 3 rfl
          have h2 := HR.out.hp.av 3 rfl
          simp only [List.getElem_toArray, List.getElem_cons_zero, List.getElem_cons_succ] at h1 h2
          unfold rowLen
          rw [h1, h2]
          first | omega | (simp only; omega) | simp only
      · go_wp2_with (first
         | (at_builtin
            rw [← HW2.out]
            refine wpList_append_el w.heap.size Hbs.out 40 45 (.agg #[.int .u8 0, .int .i64 0, .int .i64 0, .int .i64 0, .slice none 0 0]) 5 56 Tryd.underlying40 rframe_info rfl (by omega) (by omega) rfl _ _ rfl (.slice ao outs.length co) outs.length (outs.flatMap FV.cells) rfl Hq.out wr.heap.size (FV.cells ⟨x.f, .slice av x.f.nums.length cv⟩) rfl (by simp [FV.cells, Value.oneCell']) rfl HB2.out Hol.out ?_
            intro v6 w6 ho6 hk6 hl6
            obtain ⟨a6, c6, rfl⟩ := row_form ho6
            have hR6 := HR2.out.keep hk6 HwO.out HneO.out HsepO.out
            have h63 := hR6.hp.av 3 rfl
            simp only [List.getElem_toArray, List.getElem_cons_zero, List.getElem_cons_succ] at h63
            have Hs1 := hid (Src.head (e := 45) hR6.hl rfl j hjle)
            have HR6 := hid hR6
            have Ho6 := hid ho6
            have Hk6 := hid hk6
            have hE6 : Hid (w6.ownsRow w6.heap.size 45 5 (.slice none 0 0) 0 []) := hid (World.ownsRow_nil _ _ _ _)
            clear hR6 ho6 hk6 hl6)
         | (at_builtin
            refine wpList_append_src w6.heap.size (Nat.le_refl _) 40 45 (.agg #[.int .u8 0, .int .i64 0, .int .i64 0, .int .i64 0, .slice none 0 0]) 5 56 Tryd.underlying40 rframe_info rfl (by omega) (by omega) rfl _ _ rfl (.slice none 0 0) 0 [] rfl hE6.out (some ⟨g, 0, none⟩) j _ ((fs'.take j).flatMap FV.cells) rfl Hs1.out hlim1 ?_
            intro v7 w7 ho7 hk7 hl7
            simp only [Nat.zero_add, List.nil_append] at ho7
            obtain ⟨a7, c7, rfl⟩ := row_form ho7
            have hx7 := Keep.new (Ext.refl _) hk7 (fun i hi => by cases hi)
            have hR7 := HR6.out.ext hx7
            have h73 := hR7.hp.av 3 rfl
            simp only [List.getElem_toArray, List.getElem_cons_zero, List.getElem_cons_succ] at h73
            have hs2 := Src.tail (e := 45) hR7.hl rfl (j + 1) (by omega)
            have Hs2 := hid hs2
            have HR7 := hid hR7
            have Ho7 := hid ho7
            have Hx7 := hid hx7
            have hs67 := hx7.size
            clear hR7 ho7 hk7 hl7 hx7 hs2)
         | (at_builtin
            refine wpList_append_src w6.heap.size hs67 40 45 (.agg #[.int .u8 0, .int .i64 0, .int .i64 0, .int .i64 0, .slice none 0 0]) 5 56 Tryd.underlying40 rframe_info rfl (by omega) (by omega) rfl _ _ rfl (.slice a7 j c7) j ((fs'.take j).flatMap FV.cells) rfl Ho7.out (some ⟨g, (j + 1) * 5, none⟩) (fs'.length - (j + 1)) _ ((fs'.drop (j + 1)).flatMap FV.cells) rfl Hs2.out hlim2 ?_
            intro v8 w8 ho8 hk8 hl8
            obtain ⟨a8, c8, rfl⟩ := row_form ho8
            have hx8 := Keep.new Hx7.out hk8 (fun b hb => (World.ownsRow.lt Ho7.out b hb).1)
            have hp8 := HR6.out.hp.ext hx8
            have z2 := hp8.av 2 rfl
            have z3 := hp8.av 3 rfl
            have zf := hp8.free
            simp only [List.getElem_toArray, List.getElem_cons_zero, List.getElem_cons_succ] at z2 z3))
        go_roundw
        case rel =>
          have hfe : fs'.eraseIdx j = fs'.take j ++ fs'.drop (j + 1) := eraseIdx_td fs' j
          have hfl : (fs'.eraseIdx j).length = j + (fs'.length - (j + 1)) := by rw [hfe]; simp; omega
          have hsub : ∀ y ∈ fs'.eraseIdx j, y ∈ fs' := fun y hy => List.mem_of_mem_eraseIdx hy
          have hxe : (⟨x.f, .slice av x.f.nums.length cv⟩ : FV) = x := by rw [← Hxv.out]
          have hk8q : Keep (fun b => b = q) w8 (w8.setCell ⟨q, 3, none⟩ (.slice a8 (j + (fs'.length - (j + 1))) c8)) := Keep.set (X := fun b => b = q) (Keep.refl _ _) rfl _
          have hk9q : Keep (fun b => b = q) w8 ((w8.setCell ⟨q, 3, none⟩ (.slice a8 (j + (fs'.length - (j + 1))) c8)).setCell ⟨q, 2, none⟩ (.int .i64 (r'.due + 1))) := hk8q.set (X := fun b => b = q) rfl _
          have hp9 := (hp8.set 3 (.slice a8 (j + (fs'.length - (j + 1))) c8)).set 2 (.int .i64 (r'.due + 1))
          simp only [List.setIfInBounds_toArray, List.set_cons_zero, List.set_cons_succ] at hp9
          have hn8 : ∀ b, (Value.slice a8 (j + (fs'.length - (j + 1))) c8).ownBlock = some b → b ≠ q := fun b hb e => by
            obtain ⟨c, hc⟩ := own_ty ho8 hb
            exact hp8.ty_ne hc (by decide) e.symm
          have ho9 := row_keep ho8 hk9q hn8
          have hb9 : ∀ k, (Value.slice a8 (j + (fs'.length - (j + 1))) c8).ownBlock = some k → w6.heap.size ≤ k := fun k hk => (World.ownsRow.lt ho8 k hk).1
          have hr8 := row_keep Ho6.out (hx8.keep fun _ => False) (fun _ _ h => h)
          have hn6 : ∀ b, (Value.slice a6 (outs.length + 1) c6).ownBlock = some b → b ≠ q := fun b hb e => by
            obtain ⟨c, hc⟩ := own_ty hr8 hb
            exact hp8.ty_ne hc (by decide) e.symm
          have hr9 := row_keep hr8 hk9q hn6
          have hwq : Wr w8 n0 none fun b => b = q := Wr.blk hp8 (by decide) HR6.out.lo
          have hsw : w.heap.size ≤ w6.heap.size := Nat.le_trans Hbs.out Hk6.out.size
          have hat : ∀ y : FV, y.At W2 n0 none → y.At ((w8.setCell ⟨q, 3, none⟩ (.slice a8 (j + (fs'.length - (j + 1))) c8)).setCell ⟨q, 2, none⟩ (.int .i64 (r'.due + 1))) n0 none := fun y hy => NumsAt.keep (NumsAt.ext (NumsAt.keep hy Hk6.out HwO.out) hx8) hk9q hwq
          refine ⟨{ r' with due := r'.due + 1, wait := r'.wait.eraseIdx j }, _, fs'.eraseIdx j, outs ++ [x], ⟨hp9, ⟨?_, fun y hy => hat y (HR2.out.hl.nums y (hsub y hy))⟩, by rw [map_eraseIdx, ← Heq.out], HR6.out.lo⟩, ⟨?_, fun y hy => ?_⟩, ?_, ?_, ?_, ?_, ?_, ?_, ?_⟩
          · have h1 := own_base ho9 (show n0 ≤ w6.heap.size by have h2 := Hn0.out; have h3 := HN.out; omega)
            rw [hfl, hfe, List.flatMap_append]
            exact h1
          · rw [hxe] at hr9
            simpa using hr9
          · rcases List.mem_append.1 hy with hy | hy
            · exact hat y (NumsAt.ext (HF.out.nums y hy) Hx2.out)
            · obtain rfl := List.mem_singleton.1 hy
              exact hat _ (NumsAt.ext HxA.out Hx2.out)
          · have h1 := Hrun.out
            rw [Hrs.out] at h1
            rw [← h1]
            have h2 : (r'.wait.eraseIdx j).length + 1 = r'.wait.length := by rw [List.length_eraseIdx, if_pos (by have := Hjl.out; have := Hml'.out; omega)]; have := Hjl.out; have := Hml'.out; omega
            simp only [h2, List.map_append, List.map_cons, List.map_nil]
          · exact (Keep.tr (Keep.tr (Hk.out.ext_r Hx2.out) Hk6.out fun c hc => .inl (World.ownsRow.lt Hq.out c hc).1) (hx8.keep fun _ => False) fun c hc => hc.elim).trans hk9q
          · simp only; omega
          · simp only [List.length_eraseIdx]
            rw [if_pos (by have := Hjl.out; have := Hml'.out; omega)]
            have := Hjl.out
            have := Hml'.out
            omega
          · simp only [List.length_eraseIdx, List.length_append, List.length_cons, List.length_nil]
            rw [if_pos (by have := Hjl.out; have := Hml'.out; omega)]
            have := Hjl.out
            have := Hml'.out
            omega
          · exact fun k hk => .inr (Nat.le_trans hsw (hb9 k hk))
          · intro k hk1 hk2
            have h1 := hb9 k hk1
            have h2 := (World.ownsRow.lt Ho6.out k hk2).2
            omega
        case measure =>
          have h3 := Hjl.out
          have hp9 := (hp8.set 3 (.slice a8 (j + (fs'.length - (j + 1))) c8)).set 2 (.int .i64 (r'.due + 1))
          simp only [List.setIfInBounds_toArray, List.set_cons_zero, List.set_cons_succ] at hp9
          have h1 := hp9.av 3 rfl
          have h2 := HR.out.hp.av 3 rfl
          simp only [List.getElem_toArray, List.getElem_cons_zero, List.getElem_cons_succ] at h1 h2
          unfold rowLen
          rw [h1, h2]
          first | omega | (simp only; omega) | simp only
end Go.Proofs.YtkabgmohgjljkaaDoor


/- LinkActs, plainly: what holds of a sender and of a receiver after so many acts. -/
namespace Go.Proofs.YtkabgmohgjljkaaDoor
set_option linter.unusedSimpArgs false
set_option linter.unusedVariables false

structure Snd.Okk (s : Snd) (m : Nat) : Prop where
  ok : s.Ok m
  code : ∀ k ∈ s.l, k.1.code = 0
  late : ∀ k ∈ s.l, s.now - k.2 ≤ 2
theorem Snd.Okk.new (fr to : Int) : (Snd.new fr to).Okk 0 := ⟨Snd.Ok.new fr to, by simp [Snd.new], by simp [Snd.new]⟩
theorem Snd.Okk.mono {s : Snd} {m k : Nat} (h : s.Okk m) (hk : m ≤ k) : s.Okk k := ⟨h.ok.mono hk, h.code, h.late⟩
theorem Snd.Okk.sent {s : Snd} {m : Nat} (h : s.Okk m) {kind : UInt8} {nums : List Int} (he : s.err kind nums = 0) : (s.sent kind nums).Okk (m + 1) := by
  obtain ⟨h1, h2, h3⟩ := Snd.err_zero he
  refine ⟨h.ok.sent h3, fun k hk => ?_, fun k hk => ?_⟩
  · simp only [Snd.sent, List.mem_append, List.mem_singleton] at hk
    rcases hk with hk | rfl
    · exact h.code k hk
    · exact h1
  · simp only [Snd.sent, List.mem_append, List.mem_singleton] at hk ⊢
    rcases hk with hk | rfl
    · exact h.late k hk
    · simp
theorem Snd.Okk.tick {s : Snd} {m : Nat} (h : s.Okk m) : s.tick.Okk (m + 1) := by
  refine ⟨h.ok.tick, fun k hk => ?_, fun k hk => ?_⟩
  · simp only [Snd.tick, List.mem_map] at hk
    obtain ⟨x, hx, rfl⟩ := hk
    have := h.code x hx
    unfold Snd.stamp
    split <;> exact this
  · simp only [Snd.tick, List.mem_map] at hk ⊢
    obtain ⟨x, hx, rfl⟩ := hk
    have h1 := h.late x hx
    by_cases hl : s.late x = true
    · simp only [Snd.stamp, hl, if_true]; omega
    · have h2 : ¬ s.now + 1 - x.2 = 3 := fun e => hl (by unfold Snd.late; simpa using e)
      simp only [Snd.stamp, hl]
      simp only [Bool.false_eq_true, if_false]
      omega
theorem Snd.Okk.acked {s : Snd} {m : Nat} (h : s.Okk m) (n : Int) : (s.acked n).Okk m :=
  ⟨h.ok.acked n, fun k hk => h.code k (List.mem_filter.1 hk).1, fun k hk => h.late k (List.mem_filter.1 hk).1⟩
theorem Snd.Okk.again {s : Snd} {m : Nat} (h : s.Okk m) : ∀ f ∈ s.again, f.code = 0 := by
  intro f hf
  unfold Snd.again at hf
  obtain ⟨k, hk, rfl⟩ := List.mem_map.1 hf
  exact h.code k (List.mem_filter.1 hk).1
theorem Snd.Okk.nums {s : Snd} {m : Nat} (h : s.Okk m) : ∀ k ∈ s.l, k.1.nums.length ≤ 200 := fun k hk => (Fr.code_zero (h.code k hk)).2.2.2.2.2.2

structure Rcv.Okk (r : Rcv) (m : Nat) : Prop where
  due0 : 0 ≤ r.due
  due : r.due + (r.wait.length : Int) ≤ m
  len : r.wait.length ≤ 8
  code : ∀ f ∈ r.wait, f.code = 0
theorem Rcv.Okk.new (fr to : Int) : (Rcv.new fr to).Okk 0 := ⟨by simp [Rcv.new], by simp [Rcv.new], by simp [Rcv.new], by simp [Rcv.new]⟩
theorem Rcv.Okk.mono {r : Rcv} {m k : Nat} (h : r.Okk m) (hk : m ≤ k) : r.Okk k := ⟨h.due0, by have := h.due; omega, h.len, h.code⟩
theorem Rcv.run_okk {m : Nat} : ∀ (n : Nat) (r : Rcv) (out : List Fr), r.Okk m → (∀ f ∈ out, f.code = 0) → (Rcv.run n r out).2.Okk m ∧ ∀ g ∈ (Rcv.run n r out).1, g.code = 0
  | 0, r, out, h, ho => ⟨h, ho⟩
  | n + 1, r, out, h, ho => by
    unfold Rcv.run
    cases hf : Rcv.find r.wait r.due with
    | none => exact ⟨h, ho⟩
    | some k =>
      have hk := Rcv.find_lt hf
      refine Rcv.run_okk n _ _ ⟨by have := h.due0; simp only; omega, ?_, ?_, fun f hf => h.code f (List.mem_of_mem_eraseIdx hf)⟩ fun f hf => ?_
      · have := h.due
        simp only [List.length_eraseIdx, if_pos hk]
        omega
      · have := h.len
        simp only [List.length_eraseIdx, if_pos hk]
        omega
      · rcases List.mem_append.1 hf with hf | hf
        · exact ho f hf
        · rw [List.getElem?_eq_getElem hk] at hf
          obtain rfl := by simpa using hf
          exact h.code _ (List.getElem_mem hk)
theorem Rcv.Okk.take {r : Rcv} {m : Nat} (h : r.Okk m) (f : Fr) : (r.take f).2.Okk (m + 1) ∧ ∀ g ∈ (r.take f).1, g.code = 0 := by
  have hm : r.Okk (m + 1) := h.mono (by omega)
  have hnil : ∀ g ∈ ([] : List Fr), g.code = 0 := by simp
  unfold Rcv.take
  split
  · rename_i he
    have hc : f.code = 0 := by
      unfold Rcv.err at he
      split at he
      · rename_i h1; exact absurd he h1
      · rename_i h1; omega
    unfold Rcv.took
    split
    · exact ⟨hm, hnil⟩
    · split
      · refine ⟨?_, hnil⟩
        split
        · rename_i hl
          refine ⟨h.due0, by have := h.due; simp only [List.length_append, List.length_singleton]; omega, by simp only [List.length_append, List.length_singleton]; omega, fun g hg => ?_⟩
          rcases List.mem_append.1 hg with hg | hg
          · exact h.code g hg
          · rw [List.mem_singleton.1 hg]; exact hc
        · exact hm
      · exact Rcv.run_okk _ _ _ ⟨by have := h.due0; simp only; omega, by have := h.due; simp only; omega, h.len, h.code⟩ fun g hg => by rw [List.mem_singleton.1 hg]; exact hc
  · exact ⟨hm, hnil⟩
theorem Rcv.Okk.nums {r : Rcv} {m : Nat} (h : r.Okk m) : ∀ f ∈ r.wait, f.nums.length ≤ 200 := fun f hf => (Fr.code_zero (h.code f hf)).2.2.2.2.2.2
end Go.Proofs.YtkabgmohgjljkaaDoor


/- LinkActs: what lies where, and each call on it. -/
namespace Go.Proofs.YtkabgmohgjljkaaDoor
set_option linter.unusedSimpArgs false
set_option linter.unusedVariables false
open Go Go.RowKit

theorem Fr.code_le9 (f : Fr) : f.code ≤ 11 := by
  unfold Fr.code
  have key : ∀ k b1 b2 b3 far same full, codeOf k b1 b2 b3 far same full ≤ 11 := by
    intro k b1 b2 b3 far same full
    cases k <;> cases b1 <;> cases b2 <;> cases b3 <;> cases far <;> cases same <;> cases full <;> decide
  exact key _ _ _ _ _ _ _
theorem NumsAt.ints' {w : World} {n0 : Nat} {t : Option Nat} {a : Option Addr} {cap : Nat} {l : List Int} (h : NumsAt w n0 t (.slice a l.length cap) l) : Ints w a l.length l := by
  obtain ⟨a', c', e, hr, _⟩ := h.form
  simp only [Value.slice.injEq, true_and] at e
  obtain ⟨rfl, rfl⟩ := e
  exact hr
theorem reftake_any (r : Rcv) (f : Fr) (a : Option Addr) (cap : Nat) (w : World) (n0 q : Nat) (wv : Value) (fs : List FV) (h : RRcv w n0 q r wv fs) (hnv : NumsAt w n0 none (.slice a f.nums.length cap) f.nums) (hl : f.nums.length ≤ 1000) (hwl : r.wait.length ≤ 8) (hd0 : 0 ≤ r.due) (hd1 : r.due ≤ 1000000) (hn0 : n0 ≤ w.heap.size) :
    Calls Tryd.prog 24 #[.pointer (some ⟨q, 0, none⟩), frv f a cap] w fun e w' => ∃ ov outs wv' fs', e = .returned (.tuple #[ov, .int .i64 (r.err f : Int)]) ∧ RRcv w' n0 q (r.take f).2 wv' fs' ∧ FRow w' n0 none w.heap.size 45 ov outs ∧ outs.map FV.f = (r.take f).1 ∧ Keep (fun b => b = q ∨ wv.ownBlock = some b) w w' ∧ ∀ k, wv'.ownBlock = some k → wv.ownBlock = some k ∨ w.heap.size ≤ k := by
  have hr := hnv.ints'
  have hnil : ∀ w', FRow w' n0 none w.heap.size 45 (.slice none 0 0) [] := fun w' => FRow.nil _ _ _ _ _
  by_cases hc : f.code = 0
  · by_cases hs : f.fr ≠ r.fr ∨ f.to ≠ r.to ∨ f.kind = 97
    · have h3 : r.err f = 3 := by unfold Rcv.err; rw [if_neg (fun e => e hc), if_pos hs]
      have htk : r.take f = ([], r) := by unfold Rcv.take; rw [h3]; rfl
      rw [h3, htk]
      refine (reftake_shape r f a cap w n0 q wv fs h hr hl hc hs).mono fun e w' ⟨e1, x⟩ => ?_
      exact ⟨_, [], wv, fs, by rw [e1]; rfl, h.ext x, hnil _, rfl, x.keep _, fun _ h => .inl h⟩
    · have h0 : r.err f = 0 := by unfold Rcv.err; rw [if_neg (fun e => e hc), if_neg hs]
      have htk : r.take f = r.took f := by unfold Rcv.take; rw [if_pos h0]
      rw [h0, htk]
      have s1 : f.fr = r.fr := Classical.byContradiction fun e => hs (.inl e)
      have s2 : f.to = r.to := Classical.byContradiction fun e => hs (.inr (.inl e))
      have s3 : f.kind ≠ 97 := fun e => hs (.inr (.inr e))
      by_cases ho : f.seq < r.due ∨ (Rcv.find r.wait f.seq).isSome = true
      · have hto : r.took f = ([], r) := by unfold Rcv.took; rw [if_pos ho]
        rw [hto]
        refine (reftake_old r f a cap w n0 q wv fs h hr hl hc s1 s2 s3 hwl ho).mono fun e w' ⟨e1, x⟩ => ?_
        exact ⟨_, [], wv, fs, by rw [e1]; rfl, h.ext x, hnil _, rfl, x.keep _, fun _ h => .inl h⟩
      · have hfd : Rcv.find r.wait f.seq = none := by
          cases hf : Rcv.find r.wait f.seq with
          | none => rfl
          | some j => exact absurd (.inr (by rw [hf]; rfl)) ho
        by_cases hd : r.due < f.seq
        · have h1 : (r.took f).1 = [] := by unfold Rcv.took; rw [if_neg ho, if_pos hd]
          refine (reftake_far r f a cap w n0 q wv fs h hr hl hnv hc s1 s2 s3 hwl hfd hd hn0).mono fun e w' ⟨e1, wv', fs', e2, e3, e4⟩ => ?_
          exact ⟨_, [], wv', fs', by rw [e1]; rfl, e2, hnil _, by rw [h1]; rfl, e3, e4⟩
        · have hde : r.due = f.seq := by
            have : ¬ f.seq < r.due := fun e => ho (.inl e)
            omega
          refine (reftake_now r f a cap w n0 q wv fs h hr hl hnv hc s1 s2 s3 hwl hfd hde hd0 hd1 hn0).mono fun e w' ⟨ov, outs, wv', fs', e1, e2, e3, e4, e5, e6⟩ => ?_
          exact ⟨ov, outs, wv', fs', by rw [e1]; rfl, e2, e3, e4, e5.mono fun g _ h => .inl h, e6⟩
  · have h3 : r.err f = f.code := by unfold Rcv.err; rw [if_pos hc]
    have htk : r.take f = ([], r) := by unfold Rcv.take; rw [h3, if_neg hc]
    rw [h3, htk]
    refine (reftake_code r f a cap w n0 q wv fs h hr hl f.code rfl hc).mono fun e w' ⟨e1, x⟩ => ?_
    exact ⟨_, [], wv, fs, e1, h.ext x, hnil _, rfl, x.keep _, fun _ h => .inl h⟩

theorem refsend_bad (s : Snd) (kind : UInt8) (nums : List Int) (a : Option Addr) (cap : Nat) (w : World) (n0 p : Nat) (lv : Value) (ks : List (FV × Int)) (h : RSnd w n0 p s lv ks) (hr : Ints w a nums.length nums) (hl : nums.length ≤ 1000) (h0 : s.err kind nums ≠ 0) :
    Calls Tryd.prog 13 #[.pointer (some ⟨p, 0, none⟩), .int .u8 (kind.toNat : Int), .slice a nums.length cap] w fun e w' => e = .returned (.tuple #[fr0, .int .i64 (s.err kind nums : Int)]) ∧ Ext w w' := by
  unfold Snd.err at h0 ⊢
  by_cases hc : (s.frame kind nums).code = 0
  · rw [if_neg (fun e => e hc)] at h0 ⊢
    by_cases hk : kind = 97
    · rw [if_pos hk]
      exact refsend_ack s kind nums a cap w n0 p lv ks h hr hl hc hk
    · rw [if_neg hk] at h0 ⊢
      by_cases hf : 200 ≤ s.l.length
      · rw [if_pos hf]
        exact refsend_full s kind nums a cap w n0 p lv ks h hr hl hc hk hf
      · rw [if_neg hf] at h0; exact absurd rfl h0
  · rw [if_pos hc]
    exact refsend_code s kind nums a cap w n0 p lv ks h hr hl _ rfl hc
theorem Snd.err_le (s : Snd) (kind : UInt8) (nums : List Int) : s.err kind nums ≤ 11 := by
  have := Fr.code_le9 (s.frame kind nums)
  unfold Snd.err
  split
  · exact this
  · split
    · omega
    · split <;> omega
theorem Rcv.err_le (r : Rcv) (f : Fr) : r.err f ≤ 11 := by
  have := Fr.code_le9 f
  unfold Rcv.err
  split
  · exact this
  · split <;> omega

/-- What is written lies in blocks of these types (or, with M, in a map), none of numbers, all made since n0. -/
structure Kp (n0 : Nat) (S : List TypeId) (M : Bool) (w w' : World) : Prop where
  ex : ∃ X, Keep X w w' ∧ Wr w n0 none X ∧ ∀ g, X g → (∃ c ty, Blk w g c ty ∧ ty ∈ S) ∨ (M = true ∧ ∃ m, MapAt w g m)
section
variable {n0 : Nat} {S : List TypeId} {M : Bool} {w w' : World}
theorem Kp.blk (h : Kp n0 S M w w') {g : Nat} {c : Array Value} {ty : TypeId} (hb : Blk w g c ty) (hs : ty ∉ S) : Blk w' g c ty := by
  obtain ⟨X, k, _, t⟩ := h.ex
  refine hb.keep k fun hx => ?_
  rcases t g hx with ⟨c', ty', h1, h2⟩ | ⟨_, m, h1⟩
  · exact hs ((hb.inj h1).2 ▸ h2)
  · exact h1.ne hb rfl
theorem Kp.row (h : Kp n0 S M w w') {base : Nat} {e : TypeId} {size n : Nat} {v : Value} {xs : List Value} (ho : w.ownsRow base e size v n xs) (hs : e ∉ S) : w'.ownsRow base e size v n xs := by
  obtain ⟨X, k, _, t⟩ := h.ex
  refine row_keep ho k fun i hi hx => ?_
  obtain ⟨c, hc⟩ := own_ty ho hi
  rcases t i hx with ⟨c', ty', h1, h2⟩ | ⟨_, m, h1⟩
  · exact hs ((hc.inj h1).2 ▸ h2)
  · exact h1.ne hc rfl
theorem Kp.nums (h : Kp n0 S M w w') {v : Value} {l : List Int} (hn : NumsAt w n0 none v l) : NumsAt w' n0 none v l := by
  obtain ⟨X, k, hw, _⟩ := h.ex
  exact NumsAt.keep hn k hw
theorem Kp.frow (h : Kp n0 S M w w') {base : Nat} {e : TypeId} {v : Value} {fs : List FV} (hf : FRow w n0 none base e v fs) (hs : e ∉ S) : FRow w' n0 none base e v fs :=
  ⟨h.row hf.row hs, fun x hx => h.nums (hf.nums x hx)⟩
theorem Kp.map (h : Kp n0 S false w w') {b : Nat} {m : List (Int × Value)} (hm : MapAt w b m) : MapAt w' b m := by
  obtain ⟨X, k, _, t⟩ := h.ex
  refine hm.keep k fun hx => ?_
  rcases t b hx with ⟨c', ty', h1, h2⟩ | ⟨h0, _⟩
  · exact hm.ne h1 rfl
  · cases h0
theorem Kp.ext (x : Ext w w') : Kp n0 S M w w' := ⟨⟨fun _ => False, x.keep _, Wr.none, fun _ h => h.elim⟩⟩
theorem Kp.size (h : Kp n0 S M w w') : w.heap.size ≤ w'.heap.size := by
  obtain ⟨X, k, _, _⟩ := h.ex
  exact k.size
theorem Kp.ext0 {w0 : World} (h : Kp w0.heap.size S M w w') (x : Ext w0 w) : Ext w0 w' := by
  obtain ⟨X, k, hw, _⟩ := h.ex
  refine Keep.new x k fun b hb => ?_
  rcases Nat.lt_or_ge b w.heap.size with h1 | h1
  · exact (hw b hb h1).1
  · exact Nat.le_trans x.size h1
theorem Kp.snd (K : Kp n0 S M w w') {p : Nat} {s : Snd} (h : ∃ lv ks, SndAt w n0 none p s lv ks) (h1 : 88 ∉ S) (h2 : 97 ∉ S) : ∃ lv ks, SndAt w' n0 none p s lv ks := by
  obtain ⟨lv, ks, h⟩ := h
  exact ⟨lv, ks, K.blk h.hp h1, K.row h.hl h2, fun x hx => K.nums (h.hn x hx), h.eq, h.lo⟩
theorem Kp.rcv (K : Kp n0 S false w w') {q b : Nat} {r : Rcv} (h : ∃ ms, RcvAt w n0 none q b r ms) (h1 : 91 ∉ S) : ∃ ms, RcvAt w' n0 none q b r ms := by
  obtain ⟨ms, h⟩ := h
  exact ⟨ms, K.blk h.hp h1, K.map h.hm, fun x hx => K.nums (h.hn x hx), h.eq, h.lo⟩
theorem Kp.rs (K : Kp n0 S M w w') {p : Nat} {s : Snd} (h : ∃ lv ks, RSnd w n0 p s lv ks) (h1 : 38 ∉ S) (h2 : 100 ∉ S) : ∃ lv ks, RSnd w' n0 p s lv ks := by
  obtain ⟨lv, ks, h⟩ := h
  exact ⟨lv, ks, K.blk h.hp h1, K.row h.hl h2, fun x hx => K.nums (h.hn x hx), h.eq, h.lo⟩
theorem Kp.rr (K : Kp n0 S M w w') {q : Nat} {r : Rcv} {sv : Value} (h : ∃ wv fs, RRcv w n0 q r wv fs ∧ ∀ k, wv.ownBlock = some k → sv.ownBlock = some k → False) (h1 : 42 ∉ S) (h2 : 45 ∉ S) : ∃ wv fs, RRcv w' n0 q r wv fs ∧ ∀ k, wv.ownBlock = some k → sv.ownBlock = some k → False := by
  obtain ⟨wv, fs, h, hs⟩ := h
  exact ⟨wv, fs, ⟨K.blk h.hp h1, K.frow h.hl h2, h.eq, h.lo⟩, hs⟩
end

/-- What lies where, while the law goes on: the sender and the receiver, and the reference's; what was sent. -/
structure LAct (w0 : World) (p q b mp oq : Nat) (s s2 : Snd) (r r2 : Rcv) (sv : Value) (sents : List FV) (w : World) : Prop where
  ext : Ext w0 w
  snd : ∃ lv ks, SndAt w w0.heap.size none p s lv ks
  rcv : ∃ ms, RcvAt w w0.heap.size none q b r ms
  rs : ∃ lv ks, RSnd w w0.heap.size mp s2 lv ks
  rr : ∃ wv fs, RRcv w w0.heap.size oq r2 wv fs ∧ ∀ k, wv.ownBlock = some k → sv.ownBlock = some k → False
  sent : FRow w w0.heap.size none w0.heap.size 45 sv sents
section
variable {w0 : World} {p q b mp oq : Nat} {s s2 : Snd} {r r2 : Rcv} {sv : Value} {sents : List FV} {w : World}
theorem LAct.on (h : LAct w0 p q b mp oq s s2 r r2 sv sents w) {w' : World} (x : Ext w w') : LAct w0 p q b mp oq s s2 r r2 sv sents w' := by
  have K : Kp w0.heap.size [] false w w' := Kp.ext x
  exact ⟨h.ext.trans x, K.snd h.snd (by simp) (by simp), K.rcv h.rcv (by simp), K.rs h.rs (by simp) (by simp), K.rr h.rr (by simp) (by simp), h.sent.ext x⟩
theorem LAct.send (h : LAct w0 p q b mp oq s s2 r r2 sv sents w) (kind : UInt8) (nums : List Int) (a : Option Addr) (cap : Nat) (hr : Ints w a nums.length nums) (hl : nums.length ≤ 1000) (ev : Nat → Value) (he : ErrsC w0 ev) (h0 : s.err kind nums = 0) (m : Nat) (ok : s.Ok m) (hm : m ≤ 1000000) :
    Calls Tryd.prog 11 #[.pointer (some ⟨p, 0, none⟩), .int .u8 (kind.toNat : Int), .slice a nums.length cap] w fun e w' => ∃ v, e = .returned (.tuple #[(FV.mk (s.frame kind nums) v).val, .nilIface]) ∧ LAct w0 p q b mp oq (s.sent kind nums) s2 r r2 sv sents w' ∧ IRow w.heap.size w' v nums ∧ Kp w0.heap.size [88, 97] false w w' := by
  obtain ⟨lv, ks, hs⟩ := h.snd
  refine (send_good s kind nums a cap w w0.heap.size none p lv ks hs hr hl ev (he.ext h.ext) h0 m ok hm h.ext.size (fun _ h => by cases h)).mono fun e w' ⟨v, lv', ks', e1, e2, e3, e4⟩ => ?_
  have K : Kp w0.heap.size [88, 97] false w w' := ⟨⟨_, e4, (Wr.blk hs.hp (by decide) hs.lo).or (Wr.row hs.hl (by decide)), fun g hg => .inl (hg.elim (fun e => ⟨_, _, e ▸ hs.hp, by simp⟩) fun e => by
    obtain ⟨c, hc⟩ := own_ty hs.hl e
    exact ⟨c, _, hc, by simp⟩)⟩⟩
  exact ⟨v, e1, ⟨K.ext0 h.ext, ⟨lv', ks', e2⟩, K.rcv h.rcv (by decide), K.rs h.rs (by decide) (by decide), K.rr h.rr (by decide) (by decide), K.frow h.sent (by decide)⟩, e3, K⟩
theorem LAct.tick (h : LAct w0 p q b mp oq s s2 r r2 sv sents w) (m : Nat) (ok : s.Okk m) (hm : m ≤ 1000000) :
    Calls Tryd.prog 18 #[.pointer (some ⟨p, 0, none⟩)] w fun e w' => ∃ ov outs, e = .returned ov ∧ LAct w0 p q b mp oq s.tick s2 r r2 sv sents w' ∧ FRow w' w0.heap.size none w.heap.size 48 ov outs ∧ outs.map FV.f = s.again := by
  obtain ⟨lv, ks, hs⟩ := h.snd
  refine (tick_any s m ok.ok hm w w0.heap.size none p lv ks hs h.ext.size (fun _ h => by cases h) (fun x hx => Nat.le_trans (ok.nums (x.1.f, x.2) (by rw [hs.eq]; exact List.mem_map.2 ⟨x, hx, rfl⟩)) (by omega))).mono fun e w' ⟨ov, outs, ks', e1, e2, e3, e4, e5⟩ => ?_
  have K : Kp w0.heap.size [88, 97] false w w' := ⟨⟨_, e5, (Wr.blk hs.hp (by decide) hs.lo).or (Wr.row hs.hl (by decide)), fun g hg => .inl (hg.elim (fun e => ⟨_, _, e ▸ hs.hp, by simp⟩) fun e => by
    obtain ⟨c, hc⟩ := own_ty hs.hl e
    exact ⟨c, _, hc, by simp⟩)⟩⟩
  exact ⟨ov, outs, e1, ⟨K.ext0 h.ext, ⟨lv, ks', e2⟩, K.rcv h.rcv (by decide), K.rs h.rs (by decide) (by decide), K.rr h.rr (by decide) (by decide), K.frow h.sent (by decide)⟩, e3, e4⟩
theorem LAct.acked (h : LAct w0 p q b mp oq s s2 r r2 sv sents w) (n : Int) (hb : s.l.length ≤ 200) :
    Calls Tryd.prog 20 #[.pointer (some ⟨p, 0, none⟩), .int .i64 n] w fun e w' => e = .returned (.tuple #[]) ∧ LAct w0 p q b mp oq (s.acked n) s2 r r2 sv sents w' ∧ Kp w0.heap.size [88, 97] false w w' := by
  obtain ⟨lv, ks, hs⟩ := h.snd
  refine (acked_any s n w w0.heap.size none p lv ks hs hb).mono fun e w' ⟨e1, lv', ks', e2, e4⟩ => ?_
  have K : Kp w0.heap.size [88, 97] false w w' := ⟨⟨_, e4, (Wr.blk hs.hp (by decide) hs.lo).or (Wr.row hs.hl (by decide)), fun g hg => .inl (hg.elim (fun e => ⟨_, _, e ▸ hs.hp, by simp⟩) fun e => by
    obtain ⟨c, hc⟩ := own_ty hs.hl e
    exact ⟨c, _, hc, by simp⟩)⟩⟩
  exact ⟨e1, ⟨K.ext0 h.ext, ⟨lv', ks', e2⟩, K.rcv h.rcv (by decide), K.rs h.rs (by decide) (by decide), K.rr h.rr (by decide) (by decide), K.frow h.sent (by decide)⟩, K⟩
theorem LAct.rsend (h : LAct w0 p q b mp oq s s2 r r2 sv sents w) (kind : UInt8) (nums : List Int) (a : Option Addr) (cap : Nat) (hnv : NumsAt w w0.heap.size none (.slice a nums.length cap) nums) (hl : nums.length ≤ 1000) (h0 : s2.err kind nums = 0) (m : Nat) (ok : s2.Ok m) (hm : m ≤ 1000000) :
    Calls Tryd.prog 13 #[.pointer (some ⟨mp, 0, none⟩), .int .u8 (kind.toNat : Int), .slice a nums.length cap] w fun e w' => e = .returned (.tuple #[frv (s2.frame kind nums) a cap, .int .i64 0]) ∧ LAct w0 p q b mp oq s (s2.sent kind nums) r r2 sv sents w' ∧ Kp w0.heap.size [38, 100] false w w' := by
  obtain ⟨lv, ks, hs⟩ := h.rs
  obtain ⟨h1, h2, h3⟩ := Snd.err_zero h0
  refine (refsend_ok s2 kind nums a cap w w0.heap.size mp lv ks hs hnv.ints' hl hnv h1 h2 h3 m ok hm h.ext.size).mono fun e w' ⟨e1, lv', ks', e2, e4, _⟩ => ?_
  have K : Kp w0.heap.size [38, 100] false w w' := ⟨⟨_, e4, (Wr.blk hs.hp (by decide) hs.lo).or (Wr.row hs.hl (by decide)), fun g hg => .inl (hg.elim (fun e => ⟨_, _, e ▸ hs.hp, by simp⟩) fun e => by
    obtain ⟨c, hc⟩ := own_ty hs.hl e
    exact ⟨c, _, hc, by simp⟩)⟩⟩
  exact ⟨e1, ⟨K.ext0 h.ext, K.snd h.snd (by decide) (by decide), K.rcv h.rcv (by decide), ⟨lv', ks', e2⟩, K.rr h.rr (by decide) (by decide), K.frow h.sent (by decide)⟩, K⟩
theorem LAct.rtick (h : LAct w0 p q b mp oq s s2 r r2 sv sents w) (m : Nat) (ok : s2.Okk m) (hm : m ≤ 1000000) :
    Calls Tryd.prog 19 #[.pointer (some ⟨mp, 0, none⟩)] w fun e w' => ∃ ov outs, e = .returned ov ∧ LAct w0 p q b mp oq s s2.tick r r2 sv sents w' ∧ FRow w' w0.heap.size none w.heap.size 45 ov outs ∧ outs.map FV.f = s2.again ∧ Kp w0.heap.size [38] false w w' := by
  obtain ⟨lv, ks, hs⟩ := h.rs
  refine (reftick_any s2 m ok.ok hm ok.late w w0.heap.size mp lv ks hs h.ext.size).mono fun e w' ⟨ov, outs, lv', ks', e1, e2, e3, e4, e5⟩ => ?_
  have K : Kp w0.heap.size [38] false w w' := ⟨⟨_, e5, Wr.blk hs.hp (by decide) hs.lo, fun g hg => .inl ⟨_, _, hg ▸ hs.hp, by simp⟩⟩⟩
  exact ⟨ov, outs, e1, ⟨K.ext0 h.ext, K.snd h.snd (by decide) (by decide), K.rcv h.rcv (by decide), ⟨lv', ks', e2⟩, K.rr h.rr (by decide) (by decide), K.frow h.sent (by decide)⟩, e3, e4, K⟩
theorem LAct.racked (h : LAct w0 p q b mp oq s s2 r r2 sv sents w) (n : Int) (hb : s2.l.length ≤ 200) :
    Calls Tryd.prog 21 #[.pointer (some ⟨mp, 0, none⟩), .int .i64 n] w fun e w' => e = .returned (.tuple #[]) ∧ LAct w0 p q b mp oq s (s2.acked n) r r2 sv sents w' ∧ Kp w0.heap.size [38] false w w' := by
  obtain ⟨lv, ks, hs⟩ := h.rs
  refine (refacked_any s2 n w w0.heap.size mp lv ks hs hb h.ext.size).mono fun e w' ⟨e1, lv', ks', e2, e5⟩ => ?_
  have K : Kp w0.heap.size [38] false w w' := ⟨⟨_, e5, Wr.blk hs.hp (by decide) hs.lo, fun g hg => .inl ⟨_, _, hg ▸ hs.hp, by simp⟩⟩⟩
  exact ⟨e1, ⟨K.ext0 h.ext, K.snd h.snd (by decide) (by decide), K.rcv h.rcv (by decide), ⟨lv', ks', e2⟩, K.rr h.rr (by decide) (by decide), K.frow h.sent (by decide)⟩, K⟩
theorem LAct.take (h : LAct w0 p q b mp oq s s2 r r2 sv sents w) (f : Fr) (a : Option Addr) (cap : Nat) (hr : Ints w a f.nums.length f.nums) (hl : f.nums.length ≤ 1000) (ev : Nat → Value) (he : ErrsC w0 ev) (hev : ∀ c, c ≠ 0 → ∃ t v, ev c = .iface t v) (m : Nat) (ok : r.Okk m) (hm : m ≤ 1000000) :
    Calls Tryd.prog 22 #[.pointer (some ⟨q, 0, none⟩), frv f a cap] w fun e w' => ∃ ov outs, e = .returned (.tuple #[ov, errv ev (r.err f)]) ∧ LAct w0 p q b mp oq s s2 (r.take f).2 r2 sv sents w' ∧ FRow w' w0.heap.size none w.heap.size 48 ov outs ∧ outs.map FV.f = (r.take f).1 ∧ Kp w0.heap.size [91] true w w' := by
  obtain ⟨ms, hs⟩ := h.rcv
  have hdu := ok.due
  refine (take_any r f a cap w w0.heap.size none q b ms hs hr hl ev (he.ext h.ext) hev ok.due0 (by omega) h.ext.size (fun _ h => by cases h) ok.len (fun g hg => Nat.le_trans (ok.nums g hg) (by omega))).mono fun e w' ⟨ov, outs, ms', e1, e2, e3, e4, e5⟩ => ?_
  have K : Kp w0.heap.size [91] true w w' := ⟨⟨_, e5, (Wr.blk hs.hp (by decide) hs.lo.1).or (Wr.map hs.hm hs.lo.2), fun g hg => hg.elim (fun e => .inl ⟨_, _, e ▸ hs.hp, by simp⟩) fun e => .inr ⟨rfl, _, e ▸ hs.hm⟩⟩⟩
  exact ⟨ov, outs, e1, ⟨K.ext0 h.ext, K.snd h.snd (by decide) (by decide), ⟨ms', e2⟩, K.rs h.rs (by decide) (by decide), K.rr h.rr (by decide) (by decide), K.frow h.sent (by decide)⟩, e3, e4, K⟩
theorem LAct.rtake (h : LAct w0 p q b mp oq s s2 r r2 sv sents w) (f : Fr) (a : Option Addr) (cap : Nat) (hnv : NumsAt w w0.heap.size none (.slice a f.nums.length cap) f.nums) (hl : f.nums.length ≤ 1000) (m : Nat) (ok : r2.Okk m) (hm : m ≤ 1000000) :
    Calls Tryd.prog 24 #[.pointer (some ⟨oq, 0, none⟩), frv f a cap] w fun e w' => ∃ ov outs, e = .returned (.tuple #[ov, .int .i64 (r2.err f : Int)]) ∧ LAct w0 p q b mp oq s s2 r (r2.take f).2 sv sents w' ∧ FRow w' w0.heap.size none w.heap.size 45 ov outs ∧ outs.map FV.f = (r2.take f).1 ∧ Kp w0.heap.size [42, 45] false w w' := by
  obtain ⟨wv, fs, hs, hsep⟩ := h.rr
  have hdu := ok.due
  refine (reftake_any r2 f a cap w w0.heap.size oq wv fs hs hnv hl ok.len ok.due0 (by omega) h.ext.size).mono fun e w' ⟨ov, outs, wv', fs', e1, e2, e3, e4, e5, e6⟩ => ?_
  have hwr : Wr w w0.heap.size none fun g => g = oq ∨ wv.ownBlock = some g := (Wr.blk hs.hp (by decide) hs.lo).or (Wr.row hs.hl.row (by decide))
  have K : Kp w0.heap.size [42, 45] false w w' := ⟨⟨_, e5, hwr, fun g hg => .inl (hg.elim (fun e => ⟨_, _, e ▸ hs.hp, by simp⟩) fun e => by
    obtain ⟨c, hc⟩ := own_ty hs.hl.row e
    exact ⟨c, _, hc, by simp⟩)⟩⟩
  refine ⟨ov, outs, e1, ⟨K.ext0 h.ext, K.snd h.snd (by decide) (by decide), K.rcv h.rcv (by decide), K.rs h.rs (by decide) (by decide), ⟨wv', fs', e2, fun k h1 h2 => ?_⟩, h.sent.keep e5 hwr fun g hg hx => hx.elim (fun e => ?_) fun e => hsep g e hg⟩, e3, e4, K⟩
  · rcases e6 k h1 with h3 | h3
    · exact hsep k h3 h2
    · have := (World.ownsRow.lt h.sent.row k h2).2; omega
  · obtain ⟨c, hc⟩ := own_ty h.sent.row hg
    exact hs.hp.ty_ne hc (by decide) e.symm
/-- One more is written down as sent. -/
theorem LAct.say (h : LAct w0 p q b mp oq s s2 r r2 sv sents w) {w' : World} {sv' : Value} {x : FV} (ho : w'.ownsRow w0.heap.size 45 5 sv' (sents.length + 1) (sents.flatMap FV.cells ++ x.cells)) (hk : Keep (fun k => sv.ownBlock = some k) w w') (hl : sv'.ownBlock = sv.ownBlock ∨ sv'.ownBlock = some w.heap.size) (hx : x.At w w0.heap.size none) :
    LAct w0 p q b mp oq s s2 r r2 sv' (sents ++ [x]) w' := by
  have hwr : Wr w w0.heap.size none fun k => sv.ownBlock = some k := Wr.row h.sent.row (by decide)
  have K : Kp w0.heap.size [45] false w w' := ⟨⟨_, hk, hwr, fun g hg => .inl (by
    obtain ⟨c, hc⟩ := own_ty h.sent.row hg
    exact ⟨c, _, hc, by simp⟩)⟩⟩
  obtain ⟨wv, fs, hr, hsep⟩ := h.rr
  refine ⟨K.ext0 h.ext, K.snd h.snd (by decide) (by decide), K.rcv h.rcv (by decide), K.rs h.rs (by decide) (by decide), ⟨wv, fs, hr.keep hk hwr (fun e => ?_) (fun k h1 h2 => hsep k h1 h2), fun k h1 h2 => ?_⟩, ⟨by simpa using ho, fun y hy => ?_⟩⟩
  · obtain ⟨c, hc⟩ := own_ty h.sent.row e
    exact hr.hp.ty_ne hc (by decide) rfl
  · rcases hl with hl | hl
    · exact hsep k h1 (hl ▸ h2)
    · obtain ⟨c, hc⟩ := own_ty hr.hl.row h1
      have h3 := hc.lt
      rw [hl] at h2
      have := Option.some.inj h2
      omega
  · rcases List.mem_append.1 hy with hy | hy
    · exact NumsAt.keep (h.sent.nums y hy) hk hwr
    · obtain rfl := List.mem_singleton.1 hy
      exact NumsAt.keep hx hk hwr
end
end Go.Proofs.YtkabgmohgjljkaaDoor
