
/- The ring's small functions. -/
import Derived.Test.YtcfopaopcbjkeaaDoorProg
import Derived.Test.YtcfopaopcbjkeaaDoorBase
namespace Go.Proofs.YtcfopaopcbjkeaaDoor
set_option linter.unusedSimpArgs false
set_option linter.unusedVariables false
open Go Go.RowKit

set_option maxHeartbeats 400000 in
theorem sent_any (c : Int) (b : Bool) (w : World) (h0 : -2305843009213693952 ≤ c) (h1 : c ≤ 2305843009213693952) :
    Calls Tryd.prog 21 #[.agg #[.int .i64 c, .bool b]] w fun e w' => e = .returned (.agg #[.int .i64 (c+1), .bool b]) ∧ Ext w w' := by
  go_enter Tryd.func21, Tryd.ntmps21
  go_wp2
  exact bodyPost_ret (v := .agg #[.int .i64 (c+1), .bool b]) (by simp [results, go_sem]) rfl ⟨rfl, ((Ext.refl w).alloc _).alloc _⟩

set_option maxHeartbeats 400000 in
theorem got_any (c : Int) (b : Bool) (w : World) (h0 : -2305843009213693952 ≤ c) (h1 : c ≤ 2305843009213693952) :
    Calls Tryd.prog 22 #[.agg #[.int .i64 c, .bool b]] w fun e w' => e = .returned (.agg #[.int .i64 (c-1), .bool true]) ∧ Ext w w' := by
  go_enter Tryd.func22, Tryd.ntmps22
  go_wp2
  exact bodyPost_ret (v := .agg #[.int .i64 (c-1), .bool true]) (by simp [results, go_sem]) rfl ⟨rfl, ((Ext.refl w).alloc _).alloc _⟩

set_option maxHeartbeats 400000 in
theorem over_any (c tc : Int) (b tb : Bool) (w : World) (h0 : -2305843009213693952 ≤ c) (h1 : c ≤ 2305843009213693952) (h2 : -2000000000000000000 ≤ tc) (h3 : tc ≤ 2000000000000000000) :
    Calls Tryd.prog 20 #[.agg #[.int .i64 c, .bool b], .agg #[.int .i64 tc, .bool tb]] w fun e w' => e = .returned (.bool (!b && !tb && (c + tc == 0))) ∧ Ext w w' := by
  cases b <;> cases tb <;> (
    go_enter Tryd.func20, Tryd.ntmps20
    go_wp2
    go_ret
    exact ⟨rfl, ((Ext.refl w).alloc _).alloc _⟩)

set_option maxHeartbeats 800000 in
theorem rpass_any (c tc : Int) (b tb : Bool) (w : World) (h0 : -2305843009213693952 ≤ c) (h1 : c ≤ 2305843009213693952) (h2 : -2000000000000000000 ≤ tc) (h3 : tc ≤ 2000000000000000000) :
    Calls Tryd.prog 19 #[.agg #[.int .i64 c, .bool b], .agg #[.int .i64 tc, .bool tb]] w fun e w' => e = .returned (.tuple #[.agg #[.int .i64 c, .bool false], .agg #[.int .i64 (tc + c), .bool (tb || b)]]) ∧ Ext w w' := by
  go_enter Tryd.func19, Tryd.ntmps19
  go_wp2_with fail
  have hx : Ext w ((((w.alloc (.cells #[.int .i64 c, .bool b] 45)).alloc (.cells #[.int .i64 tc, .bool tb] 46)).alloc (.cells #[.int .i64 0, .bool false] 45)).alloc (.cells #[.int .i64 0, .bool false] 46)) :=
    ((((Ext.refl w).alloc _).alloc _).alloc _).alloc _
  have k0 := (((Blk.new w #[.int .i64 c, .bool b] 45).alloc (.cells #[.int .i64 tc, .bool tb] 46)).alloc (.cells #[.int .i64 0, .bool false] 45)).alloc (.cells #[.int .i64 0, .bool false] 46)
  have k1 := ((Blk.new (w.alloc (.cells #[.int .i64 c, .bool b] 45)) #[.int .i64 tc, .bool tb] 46).alloc (.cells #[.int .i64 0, .bool false] 45)).alloc (.cells #[.int .i64 0, .bool false] 46)
  have k2 := (Blk.new ((w.alloc (.cells #[.int .i64 c, .bool b] 45)).alloc (.cells #[.int .i64 tc, .bool tb] 46)) #[.int .i64 0, .bool false] 45).alloc (.cells #[.int .i64 0, .bool false] 46)
  have k3 := Blk.new (((w.alloc (.cells #[.int .i64 c, .bool b] 45)).alloc (.cells #[.int .i64 tc, .bool tb] 46)).alloc (.cells #[.int .i64 0, .bool false] 45)) #[.int .i64 0, .bool false] 46
  simp only [heap_size_alloc] at k1 k2 k3
  generalize ((((w.alloc (.cells #[.int .i64 c, .bool b] 45)).alloc (.cells #[.int .i64 tc, .bool tb] 46)).alloc (.cells #[.int .i64 0, .bool false] 45)).alloc (.cells #[.int .i64 0, .bool false] 46)) = W at *
  refine wp_flowT (fun k => k = w.heap.size + 1 + 1 ∨ k = w.heap.size + 1 + 1 + 1) (by kernel_rfl) (by kernel_rfl) ?_
  have c0 := k0.kc (X := fun k => k = w.heap.size + 1 + 1 ∨ k = w.heap.size + 1 + 1 + 1) (by omega) 0 rfl
  have c1 := k0.kc (X := fun k => k = w.heap.size + 1 + 1 ∨ k = w.heap.size + 1 + 1 + 1) (by omega) 1 rfl
  have c2 := k1.kc (X := fun k => k = w.heap.size + 1 + 1 ∨ k = w.heap.size + 1 + 1 + 1) (by omega) 0 rfl
  have c3 := k1.kc (X := fun k => k = w.heap.size + 1 + 1 ∨ k = w.heap.size + 1 + 1 + 1) (by omega) 1 rfl
  clear k0 k1
  have hs0 : -9000000000000000000 ≤ tc + c := by omega
  have hs1 : tc + c ≤ 9000000000000000000 := by omega
  cases tb
  · repeat (apply FlowT.d; (intro w1 hk; unfold does; go_simp; (try go_ints); (first | exact DetR.mk | (simp only [↓IntWalk.iteOmega, Oper.doesUpon_value]; exact DetR.mk) | (simp only [↓IntWalk.iteOmega]; go_simp; (try go_ints); exact DetR.mk))); simp only [Act.put, List.setIfInBounds_toArray, List.set_cons_zero, List.set_cons_succ])
    refine FlowT.s (fun _ w' => Blk w' (w.heap.size + 1 + 1) #[.int .i64 c, .bool false] 45 ∧ Blk w' (w.heap.size + 1 + 1 + 1) #[.int .i64 0, .bool false] 46) 15 rfl (by kernel_rfl) (fun _ _ _ h he => ⟨h.1.ext he, h.2.ext he⟩) (fun w1 hC hk => ?_) (fun v _ => ?_)
    · have q := k2.ext hC
      have q0 := q.cell 0
      have q1 := q.cell 1
      have f0 := q.free 0
      have f1 := q.free 1
      have r := k3.ext hC
      unfold does
      go_simp
      exact ⟨(hk.set (.inl rfl) _).set (.inl rfl) _, (q.set 0 _).set 1 _, (r.set_ne (by simp) _).set_ne (by simp) _⟩
    simp only [Act.put]
    refine FlowT.s (fun _ w' => Blk w' (w.heap.size + 1 + 1) #[.int .i64 c, .bool false] 45 ∧ Blk w' (w.heap.size + 1 + 1 + 1) #[.int .i64 (tc + c), .bool b] 46) 16 rfl (by kernel_rfl) (fun _ _ _ h he => ⟨h.1.ext he, h.2.ext he⟩) (fun w1 hC hk => ?_) (fun v _ => ?_)
    · have q := hC.1
      have r := hC.2
      have q0 := r.cell 0
      have q1 := r.cell 1
      have f0 := r.free 0
      have f1 := r.free 1
      unfold does
      go_simp
      exact ⟨(hk.set (.inr rfl) _).set (.inr rfl) _, (q.set_ne (by simp) _).set_ne (by simp) _, (r.set 0 _).set 1 _⟩
    simp only [Act.put]
    refine FlowT.fin fun w1 hC hk => ?_
    have q0 := hC.1.cell 0
    have q1 := hC.1.cell 1
    have r0 := hC.2.cell 0
    have r1 := hC.2.cell 1
    go_wp2
    exact bodyPost_ret (v := .tuple #[.agg #[.int .i64 c, .bool false], .agg #[.int .i64 (tc + c), .bool b]]) (by simp [results, go_sem, q0, q1, r0, r1]) rfl ⟨rfl, Keep.new hx hk fun n hn => by rcases hn with rfl | rfl <;> omega⟩
  · repeat (apply FlowT.d; (intro w1 hk; unfold does; go_simp; (try go_ints); (first | exact DetR.mk | (simp only [↓IntWalk.iteOmega, Oper.doesUpon_value]; exact DetR.mk) | (simp only [↓IntWalk.iteOmega]; go_simp; (try go_ints); exact DetR.mk))); simp only [Act.put, List.setIfInBounds_toArray, List.set_cons_zero, List.set_cons_succ])
    refine FlowT.s (fun _ w' => Blk w' (w.heap.size + 1 + 1) #[.int .i64 c, .bool false] 45 ∧ Blk w' (w.heap.size + 1 + 1 + 1) #[.int .i64 0, .bool false] 46) 15 rfl (by kernel_rfl) (fun _ _ _ h he => ⟨h.1.ext he, h.2.ext he⟩) (fun w1 hC hk => ?_) (fun v _ => ?_)
    · have q := k2.ext hC
      have q0 := q.cell 0
      have q1 := q.cell 1
      have f0 := q.free 0
      have f1 := q.free 1
      have r := k3.ext hC
      unfold does
      go_simp
      exact ⟨(hk.set (.inl rfl) _).set (.inl rfl) _, (q.set 0 _).set 1 _, (r.set_ne (by simp) _).set_ne (by simp) _⟩
    simp only [Act.put]
    refine FlowT.s (fun _ w' => Blk w' (w.heap.size + 1 + 1) #[.int .i64 c, .bool false] 45 ∧ Blk w' (w.heap.size + 1 + 1 + 1) #[.int .i64 (tc + c), .bool true] 46) 16 rfl (by kernel_rfl) (fun _ _ _ h he => ⟨h.1.ext he, h.2.ext he⟩) (fun w1 hC hk => ?_) (fun v _ => ?_)
    · have q := hC.1
      have r := hC.2
      have q0 := r.cell 0
      have q1 := r.cell 1
      have f0 := r.free 0
      have f1 := r.free 1
      unfold does
      go_simp
      exact ⟨(hk.set (.inr rfl) _).set (.inr rfl) _, (q.set_ne (by simp) _).set_ne (by simp) _, (r.set 0 _).set 1 _⟩
    simp only [Act.put]
    refine FlowT.fin fun w1 hC hk => ?_
    have q0 := hC.1.cell 0
    have q1 := hC.1.cell 1
    have r0 := hC.2.cell 0
    have r1 := hC.2.cell 1
    go_wp2
    exact bodyPost_ret (v := .tuple #[.agg #[.int .i64 c, .bool false], .agg #[.int .i64 (tc + c), .bool true]]) (by simp [results, go_sem, q0, q1, r0, r1]) rfl ⟨rfl, Keep.new hx hk fun n hn => by rcases hn with rfl | rfl <;> omega⟩
end Go.Proofs.YtcfopaopcbjkeaaDoor
