
/- RingPlays walked. -/
import Derived.Test.YtcfopaopcbjkeaaDoorGC
import Derived.Test.YtcfopaopcbjkeaaDoorCD
import Derived.Test.YtcfopaopcbjkeaaDoorIn
namespace Go.Proofs.YtcfopaopcbjkeaaDoor
set_option linter.unusedSimpArgs false
set_option linter.unusedVariables false
open Go Go.RowKit

set_option maxRecDepth 100000 in
set_option maxHeartbeats 800000 in
theorem new_bad (n : Int) (w : World) (ev : Nat → Value) (he : ErrsC w ev) (h : n < 2 ∨ 6 < n) :
    Calls Tryd.prog 23 #[.int .i64 n] w fun e w' => e = .returned (.tuple #[.pointer none, ev 2]) ∧ Ext w w' := by
  have hb : ∀ w1, Keep (fun _ => False) w w1 → w1.cell? ⟨3, 0, none⟩ = some (ev 2) := fun w1 hk => hk.cellx he.bound (fun h => h)
  clear he
  generalize ev 2 = e2 at *
  by_cases h2 : n < 2
  · clear h
    go_enter Tryd.func23, Tryd.ntmps23
    go_wp2
    refine wp_flowT (fun _ => False) (by kernel_rfl) (by kernel_rfl) ?_
    repeat (apply FlowT.d; (intro w1 hk; unfold does; go_simp; (try go_ints); (first | exact DetR.mk | (simp only [↓IntWalk.iteOmega, Oper.doesUpon_value]; exact DetR.mk) | (simp only [↓IntWalk.iteOmega]; go_simp; (try go_ints); exact DetR.mk))); simp only [Act.put, List.setIfInBounds_toArray, List.set_cons_zero, List.set_cons_succ])
    refine FlowT.fin fun w1 hx hk => ?_
    go_wp2
    go_ret2
    exact ⟨rfl, hx⟩
  · have h6 := h.resolve_left h2
    clear h
    go_enter Tryd.func23, Tryd.ntmps23
    go_wp2
    refine wp_flowT (fun _ => False) (by kernel_rfl) (by kernel_rfl) ?_
    repeat (apply FlowT.d; (intro w1 hk; unfold does; go_simp; (try go_ints); (first | exact DetR.mk | (simp only [↓IntWalk.iteOmega, Oper.doesUpon_value]; exact DetR.mk) | (simp only [↓IntWalk.iteOmega]; go_simp; (try go_ints); exact DetR.mk))); simp only [Act.put, List.setIfInBounds_toArray, List.set_cons_zero, List.set_cons_succ])
    refine FlowT.fin fun w1 hx hk => ?_
    go_wp2
    go_ret2
    exact ⟨rfl, hx⟩


def rpArgs (n : Int) (a : Option Addr) (len cap : Nat) (pc tc : Int) (pb tb : Bool) : Array Value := #[.int .i64 n, .slice a len cap, .agg #[.int .i64 pc, .bool pb], .agg #[.int .i64 tc, .bool tb]]


set_option maxRecDepth 100000 in
set_option maxHeartbeats 3200000 in
theorem ringPlays_no (n : Int) (a : Option Addr) (len cap : Nat) (pc tc : Int) (pb tb : Bool) (w : World) (hl : (len : Int) ≤ 9223372036854775807)
    (hn : 300 < len ∨ 1152921504606846976 < pc ∨ pc < -1152921504606846976 ∨ 1152921504606846976 < tc ∨ tc < -1152921504606846976) :
    Calls Tryd.prog 5 (rpArgs n a len cap pc tc pb tb) w fun e w' => e = .returned (.bool true) ∧ Ext w w' := by
  unfold rpArgs
  have bp : ∀ w1, Ext ((w.alloc (.cells #[.int .i64 pc, .bool pb] 45)).alloc (.cells #[.int .i64 tc, .bool tb] 46)) w1 → Blk w1 w.heap.size #[.int .i64 pc, .bool pb] 45 ∧ Blk w1 (w.heap.size + 1) #[.int .i64 tc, .bool tb] 46 := fun w1 x => by
    refine ⟨((Blk.new w #[.int .i64 pc, .bool pb] 45).alloc _).ext x, ?_⟩
    have := (Blk.new (w.alloc (.cells #[.int .i64 pc, .bool pb] 45)) #[.int .i64 tc, .bool tb] 46).ext x
    simpa using this
  have HN := fun w1 => hid (ringed_any w1)
  go_enter Tryd.func5, Tryd.ntmps5
  go_wp2_with fail
  refine (HN _).out.mono ?_
  intro e w1 hx
  obtain ⟨rfl, hext⟩ := hx
  clear HN
  obtain ⟨h1, h2⟩ := bp _ hext
  have c0 := h1.av 0 rfl
  have c1 := h2.av 0 rfl
  have hE := (((Ext.refl w).alloc _).alloc _).trans hext
  clear bp h1 h2 hext
  by_cases h1 : 300 < len
  · clear hn
    go_wp2
    go_ret
    exact ⟨rfl, hE⟩
  by_cases h2 : 1152921504606846976 < pc
  · clear hn
    go_wp2
    go_ret
    exact ⟨rfl, hE⟩
  by_cases h3 : pc < -1152921504606846976
  · clear hn
    go_wp2
    go_ret
    exact ⟨rfl, hE⟩
  by_cases h4 : 1152921504606846976 < tc
  · clear hn
    go_wp2
    go_ret
    exact ⟨rfl, hE⟩
  · have h5 : tc < -1152921504606846976 := by omega
    clear hn
    go_wp2
    go_ret
    exact ⟨rfl, hE⟩

/-- What the law's inner loop counts. -/
theorem count_le (l : List Bool) (k : Nat) (h : l.length ≤ 6) : (l.take k).countP id ≤ 6 := by
  have h1 := List.countP_le_length (p := id) (l := l.take k)
  rw [List.length_take] at h1
  omega

end Go.Proofs.YtcfopaopcbjkeaaDoor
