/- FrameApart walked. -/
import Derived.Test.YtmdcjfgdmmncpaaDoorFC
namespace Go.Proofs.YtmdcjfgdmmncpaaDoor
set_option linter.unusedSimpArgs false
set_option linter.unusedVariables false
open Go Go.RowKit

theorem fencode_bad' (f : Fr) (a : Option Addr) (cap : Nat) (w : World) (ev : Nat → Value) (hr : Ints w a f.nums.length f.nums) (hl : (f.nums.length : Int) ≤ 9223372036854775807) (he : Errs w ev) (hc : f.code ≠ 0) (hev : ∀ c, c ≠ 0 → ∃ t v, ev c = .iface t v) :
    Calls Tryd.prog 14 #[frv f a cap] w fun e w' => ∃ t v, e = .returned (.tuple #[.string ⟨#[]⟩, .iface t v]) ∧ Ext w w' := by
  obtain ⟨t, v, hv⟩ := hev _ hc
  refine (fencode_bad f a cap w ev hr hl he hc ⟨t, v, hv⟩).mono fun e w' ⟨h1, h2⟩ => ⟨t, v, ?_, h2⟩
  rw [h1, hv]

set_option maxRecDepth 100000 in
set_option maxHeartbeats 1600000 in
theorem frameApart_no (f g : Fr) (a b : Option Addr) (cap cap2 : Nat) (s : ByteArray) (w : World) (ev : Nat → Value) (he : Errs w ev) (hl : (f.nums.length : Int) ≤ 9223372036854775807) (hl2 : (g.nums.length : Int) ≤ 9223372036854775807) (hl3 : (s.size : Int) ≤ 9223372036854775807) (hn : 40 < f.nums.length ∨ 40 < g.nums.length ∨ 300 < s.size) :
    Calls Tryd.prog 3 #[frv f a cap, frv g b cap2, .string s] w fun e w' => e = .returned (.bool true) ∧ Ext w w' := by
  have HN := fun w1 (x : Ext w w1) => hid (framed_any w1 ev (he.ext x))
  obtain ⟨k1, f1, t1, s1, n1⟩ := f
  obtain ⟨k2, f2, t2, s2, n2⟩ := g
  unfold frv
  simp only at *
  clear he
  obtain ⟨W, hW⟩ : ∃ W, W = (w.alloc (Obj.cells #[Value.int .u8 (k1.toNat : Int), .int .i64 f1, .int .i64 t1, .int .i64 s1, .slice a n1.length cap] 24)).alloc (.cells #[Value.int .u8 (k2.toNat : Int), .int .i64 f2, .int .i64 t2, .int .i64 s2, .slice b n2.length cap2] 24) := ⟨_, rfl⟩
  have xW : Ext w W := by rw [hW]; exact ((Ext.refl w).alloc _).alloc _
  have bA : Blk W w.heap.size #[Value.int .u8 (k1.toNat : Int), .int .i64 f1, .int .i64 t1, .int .i64 s1, .slice a n1.length cap] 24 := by rw [hW]; exact (Blk.new _ _ _).alloc _
  have bB : Blk W (w.heap.size + 1) #[Value.int .u8 (k2.toNat : Int), .int .i64 f2, .int .i64 t2, .int .i64 s2, .slice b n2.length cap2] 24 := by
    rw [hW]
    have := Blk.new (w.alloc (Obj.cells #[Value.int .u8 (k1.toNat : Int), .int .i64 f1, .int .i64 t1, .int .i64 s1, .slice a n1.length cap] 24)) #[Value.int .u8 (k2.toNat : Int), .int .i64 f2, .int .i64 t2, .int .i64 s2, .slice b n2.length cap2] 24
    rwa [heap_size_alloc] at this
  have HW := hid hW
  clear hW
  have d4 := bA.ec 4 rfl
  have e4 := bB.ec 4 rfl
  have key : ∀ p : Prop, p → p := fun _ h => h
  by_cases h1 : 40 < n1.length
  · clear hn
    go_enter Tryd.func3, Tryd.ntmps3
    go_wp2_with fail
    rw [← HW.out]
    refine (HN W xW).out.mono ?_
    intro e w1 hx
    obtain ⟨rfl, hx1⟩ := hx
    go_wp2
    go_ret
    exact ⟨rfl, xW.trans hx1⟩
  by_cases h2 : 40 < n2.length
  · clear hn
    go_enter Tryd.func3, Tryd.ntmps3
    go_wp2_with fail
    rw [← HW.out]
    refine (HN W xW).out.mono ?_
    intro e w1 hx
    obtain ⟨rfl, hx1⟩ := hx
    go_wp2
    go_ret
    exact ⟨rfl, xW.trans hx1⟩
  · have h3 : 300 < s.size := by omega
    clear hn
    go_enter Tryd.func3, Tryd.ntmps3
    go_wp2_with fail
    rw [← HW.out]
    refine (HN W xW).out.mono ?_
    intro e w1 hx
    obtain ⟨rfl, hx1⟩ := hx
    go_wp2
    go_ret
    exact ⟨rfl, xW.trans hx1⟩
end Go.Proofs.YtmdcjfgdmmncpaaDoor
