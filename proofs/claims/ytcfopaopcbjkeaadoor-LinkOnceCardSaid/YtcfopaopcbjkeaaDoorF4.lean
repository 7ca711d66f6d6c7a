
/- The frame: its check is walked. -/
import Derived.Test.YtcfopaopcbjkeaaDoorF3
namespace Go.Proofs.YtcfopaopcbjkeaaDoor
set_option linter.unusedSimpArgs false
set_option linter.unusedVariables false
open Go Go.RowKit

/-- A frame, plainly. -/
structure Fr where
  kind : UInt8
  fr : Int
  to : Int
  seq : Int
  nums : List Int

def inB (n m : Int) : Bool := decide (0 ≤ n) && decide (n ≤ m)
def kinds : List UInt8 := [100, 101, 116, 97]
def codeOf (k b1 b2 b3 far same full : Bool) : Nat := bif !k then 4 else bif !b1 then 2 else bif !b2 then 2 else bif !b3 then 2 else bif far then 2 else bif same then 3 else bif full then 8 else 0
def Fr.code (f : Fr) : Nat := codeOf (decide (f.kind ∈ kinds)) (inB f.fr 5) (inB f.to 5) (inB f.seq 2147483648) (anyFar f.nums) (decide (f.fr = f.to)) (decide (200 < f.nums.length))
def frv (f : Fr) (a : Option Addr) (cap : Nat) : Value := .agg #[.int .u8 (f.kind.toNat : Int), .int .i64 f.fr, .int .i64 f.to, .int .i64 f.seq, .slice a f.nums.length cap]

/-- The errors' values, by number. -/
structure ErrsC (w : World) (ev : Nat → Value) : Prop where
  bound : w.cell? ⟨3, 0, none⟩ = some (ev 2)
  shape : w.cell? ⟨2, 0, none⟩ = some (ev 3)
  kind : w.cell? ⟨0, 0, none⟩ = some (ev 4)
  full : w.cell? ⟨1, 0, none⟩ = some (ev 8)
structure Errs (w : World) (ev : Nat → Value) : Prop extends ErrsC w ev where
  text : w.cell? ⟨4, 0, none⟩ = some (ev 1)
  sum : w.cell? ⟨10, 0, none⟩ = some (ev 11)
def errv (ev : Nat → Value) (c : Nat) : Value := if c = 0 then .nilIface else ev c

theorem ErrsC.ext {w w' : World} {ev : Nat → Value} (h : ErrsC w ev) (x : Ext w w') : ErrsC w' ev :=
  ⟨x.cellx h.bound, x.cellx h.shape, x.cellx h.kind, x.cellx h.full⟩
theorem Errs.ext {w w' : World} {ev : Nat → Value} (h : Errs w ev) (x : Ext w w') : Errs w' ev :=
  ⟨h.toErrsC.ext x, x.cellx h.text, x.cellx h.sum⟩
theorem Ints.ext {w w' : World} {a : Option Addr} {len : Nat} {vs : List Int} (h : Ints w a len vs) (x : Ext w w') : Ints w' a len vs :=
  ⟨h.ln, h.sm, fun y hy i hi => x.cellx (h.cl y hy i hi), h.hi⟩

theorem kinds_cells : (bcells kinds).toArray = #[Value.int .u8 100, Value.int .u8 101, Value.int .u8 116, Value.int .u8 97] := rfl
/-- The row of the kinds, behind its conversion. -/
def kindsW (W : World) : World := W.alloc (.cells #[Value.int .u8 100, Value.int .u8 101, Value.int .u8 116, Value.int .u8 97] 5 (4, 5))
theorem kindsW_ext (W : World) : Ext W (kindsW W) := (Ext.refl W).alloc _
theorem kinds_any (kind : UInt8) (W : World) : Calls Tryd.prog 73 #[.slice (some ⟨W.heap.size, 0, none⟩) 4 4, .int .u8 (kind.toNat : Int)] (kindsW W) fun e w' =>
    e = .returned (.bool (decide (kind ∈ kinds))) ∧ kindsW W = w' := by
  refine containsb_any kinds kind W.heap.size 4 (kindsW W) (by decide) fun k hk => ?_
  unfold kindsW
  rw [World.cell?_alloc_mark]
  have hk4 : k < 4 := hk
  rcases (by omega : k = 0 ∨ k = 1 ∨ k = 2 ∨ k = 3) with rfl | rfl | rfl | rfl <;> rfl
theorem run_kinds (W : World) : (convert 146 146 (.slice (some ⟨W.heap.size, 0, none⟩) 4 4)).run Tryd.prog (W.alloc (.cells #[Value.int .u8 100, Value.int .u8 101, Value.int .u8 116, Value.int .u8 97] 5)) = .ok (.slice (some ⟨W.heap.size, 0, none⟩) 4 4) (kindsW W) := by
  have hsh : ∀ (C : Array Value), (W.alloc (.cells C 5)).shape? W.heap.size = some (5, C.size) := fun C => by
    have : (W.alloc (.cells C 5)).heap[W.heap.size]? = some (.cells C 5) := heap_alloc_new W _
    unfold World.shape?
    rw [this]
  have hfr : ∀ (C : Array Value) (n : Nat), (W.alloc (.cells C 5)).freeze ⟨W.heap.size, n, none⟩ 1 = W.alloc (.cells C 5 (n, n + 1)) := fun C n => by
    have hm : ∀ (a : Array Obj) (x : Obj) (f : Obj → Obj), (a.push x).modify a.size f = a.push (f x) := by
      intro a x f
      apply Array.ext
      · simp
      · intro i h1 h2
        simp only [Array.getElem_modify, Array.getElem_push]
        by_cases h : a.size = i
        · subst h; simp
        · have hi : i < a.size := by simp at h1; omega
          simp [h, hi]
    unfold World.freeze
    rw [if_neg (by decide)]
    show ({ W.alloc (.cells C 5) with heap := (W.heap.push (.cells C 5)).modify W.heap.size _ } : World) = _
    rw [hm]
    rfl
  simp [convert, run_underlying Tryd.underlying146, run_underlying Tryd.underlying5, markStringish, hsh]
  exact hfr _ _


set_option maxRecDepth 100000 in
set_option maxHeartbeats 3200000 in
theorem fcheck_any (f : Fr) (a : Option Addr) (cap : Nat) (w : World) (ev : Nat → Value) (hr : Ints w a f.nums.length f.nums) (hl : (f.nums.length : Int) ≤ 9223372036854775807) (he : ErrsC w ev) :
    Calls Tryd.prog 50 #[frv f a cap] w fun e w' => e = .returned (errv ev f.code) ∧ Ext w w' := by
  obtain ⟨kind, fr, to, seq, nums⟩ := f
  have H1 : ∀ w, Hid (Calls Tryd.prog 70 #[.int .i64 fr, .int .i64 5] w fun e w' => e = .returned (.bool (inB fr 5)) ∧ w = w') := fun w => within_any fr 5 w
  have H2 : ∀ w, Hid (Calls Tryd.prog 70 #[.int .i64 to, .int .i64 5] w fun e w' => e = .returned (.bool (inB to 5)) ∧ w = w') := fun w => within_any to 5 w
  have H3 : ∀ w, Hid (Calls Tryd.prog 70 #[.int .i64 seq, .int .i64 2147483648] w fun e w' => e = .returned (.bool (inB seq 2147483648)) ∧ w = w') := fun w => within_any seq 2147483648 w
  have H4 := fun w' (x : Ext w w') => hid (containsfi_any a nums.length cap nums w' (hr.ext x) hl)
  have HK := fun W => hid (kinds_any kind W)
  have hcv := run_kinds
  obtain ⟨W1, hW1⟩ : ∃ W1, W1 = w.alloc (.cells #[Value.int .u8 (kind.toNat : Int), .int .i64 fr, .int .i64 to, .int .i64 seq, .slice a nums.length cap] 34) := ⟨_, rfl⟩
  have x1 : Ext w W1 := by rw [hW1]; exact (Ext.refl w).alloc _
  have bW : Blk W1 w.heap.size #[Value.int .u8 (kind.toNat : Int), .int .i64 fr, .int .i64 to, .int .i64 seq, .slice a nums.length cap] 34 := by rw [hW1]; exact Blk.new _ _ _
  have d0 := bW.cell 0
  have d1 := bW.cell 1
  have d2 := bW.cell 2
  have d3 := bW.cell 3
  have d4 := bW.cell 4
  simp only [List.getElem?_toArray, List.getElem?_cons_zero, List.getElem?_cons_succ] at d0 d1 d2 d3 d4
  have HW1 := hid hW1
  unfold frv
  simp only at hl ⊢
  clear hr hW1
  cases b1 : inB fr 5 with
  | false =>
    have B1 := hid b1
    clear b1
    cases b5 : decide (kind ∈ kinds) with
    | false =>
      have B5 := hid b5
      clear b5
      go_enter Tryd.func50, Tryd.ntmps50
      go_wp2_with fail
      rw [← HW1.out]
      go_wp2_with fail
      refine (H1 _).out.mono ?_
      intro e w2 hx
      obtain ⟨rfl, rfl⟩ := hx
      rw [B1.out]
      go_wp2_with fail
      refine (H4 _ x1).out.mono ?_
      intro e w2 hx
      obtain ⟨rfl, rfl⟩ := hx
      have e0 := (bW.ext (kindsW_ext W1)).cell 0
      simp only [List.getElem?_toArray, List.getElem?_cons_zero, List.getElem?_cons_succ] at e0
      go_wp2_with fail
      clear e0
      refine (HK W1).out.mono ?_
      intro e w2 hx
      obtain ⟨rfl, hW2⟩ := hx
      have x12 : Ext W1 w2 := by rw [← hW2]; exact kindsW_ext W1
      have x2 : Ext w w2 := x1.trans x12
      have bW2 := bW.ext x12
      have he2 := he.ext x2
      have g1 := he2.bound
      have g2 := he2.shape
      have g3 := he2.kind
      have g7 := he2.full
      have c0 := bW2.cell 0
      have c1 := bW2.cell 1
      have c2 := bW2.cell 2
      have c4 := bW2.cell 4
      simp only [List.getElem?_toArray, List.getElem?_cons_zero, List.getElem?_cons_succ] at c0 c1 c2 c4
      clear hW2 bW2 he2 bW H4 HK
      rw [B5.out]
      go_wp2
      go_ret
      refine ⟨?_, x2⟩
      rw [show Fr.code ⟨kind, fr, to, seq, nums⟩ = 4 by (show codeOf (decide (kind ∈ kinds)) (inB fr 5) (inB to 5) (inB seq 2147483648) (anyFar nums) (decide (fr = to)) (decide (200 < nums.length)) = 4; rw [B5.out]; rfl)]
      rfl
    | true =>
      have B5 := hid b5
      clear b5
      go_enter Tryd.func50, Tryd.ntmps50
      go_wp2_with fail
      rw [← HW1.out]
      go_wp2_with fail
      refine (H1 _).out.mono ?_
      intro e w2 hx
      obtain ⟨rfl, rfl⟩ := hx
      rw [B1.out]
      go_wp2_with fail
      refine (H4 _ x1).out.mono ?_
      intro e w2 hx
      obtain ⟨rfl, rfl⟩ := hx
      have e0 := (bW.ext (kindsW_ext W1)).cell 0
      simp only [List.getElem?_toArray, List.getElem?_cons_zero, List.getElem?_cons_succ] at e0
      go_wp2_with fail
      clear e0
      refine (HK W1).out.mono ?_
      intro e w2 hx
      obtain ⟨rfl, hW2⟩ := hx
      have x12 : Ext W1 w2 := by rw [← hW2]; exact kindsW_ext W1
      have x2 : Ext w w2 := x1.trans x12
      have bW2 := bW.ext x12
      have he2 := he.ext x2
      have g1 := he2.bound
      have g2 := he2.shape
      have g3 := he2.kind
      have g7 := he2.full
      have c0 := bW2.cell 0
      have c1 := bW2.cell 1
      have c2 := bW2.cell 2
      have c4 := bW2.cell 4
      simp only [List.getElem?_toArray, List.getElem?_cons_zero, List.getElem?_cons_succ] at c0 c1 c2 c4
      clear hW2 bW2 he2 bW H4 HK
      rw [B5.out]
      go_wp2
      go_ret
      refine ⟨?_, x2⟩
      rw [show Fr.code ⟨kind, fr, to, seq, nums⟩ = 2 by (show codeOf (decide (kind ∈ kinds)) (inB fr 5) (inB to 5) (inB seq 2147483648) (anyFar nums) (decide (fr = to)) (decide (200 < nums.length)) = 2; rw [B5.out, B1.out]; rfl)]
      rfl
  | true =>
    have B1 := hid b1
    clear b1
    cases b2 : inB to 5 with
    | false =>
      have B2 := hid b2
      clear b2
      cases b5 : decide (kind ∈ kinds) with
      | false =>
        have B5 := hid b5
        clear b5
        go_enter Tryd.func50, Tryd.ntmps50
        go_wp2_with fail
        rw [← HW1.out]
        go_wp2_with fail
        refine (H1 _).out.mono ?_
        intro e w2 hx
        obtain ⟨rfl, rfl⟩ := hx
        rw [B1.out]
        go_wp2_with fail
        refine (H2 _).out.mono ?_
        intro e w2 hx
        obtain ⟨rfl, rfl⟩ := hx
        rw [B2.out]
        go_wp2_with fail
        refine (H4 _ x1).out.mono ?_
        intro e w2 hx
        obtain ⟨rfl, rfl⟩ := hx
        have e0 := (bW.ext (kindsW_ext W1)).cell 0
        simp only [List.getElem?_toArray, List.getElem?_cons_zero, List.getElem?_cons_succ] at e0
        go_wp2_with fail
        clear e0
        refine (HK W1).out.mono ?_
        intro e w2 hx
        obtain ⟨rfl, hW2⟩ := hx
        have x12 : Ext W1 w2 := by rw [← hW2]; exact kindsW_ext W1
        have x2 : Ext w w2 := x1.trans x12
        have bW2 := bW.ext x12
        have he2 := he.ext x2
        have g1 := he2.bound
        have g2 := he2.shape
        have g3 := he2.kind
        have g7 := he2.full
        have c0 := bW2.cell 0
        have c1 := bW2.cell 1
        have c2 := bW2.cell 2
        have c4 := bW2.cell 4
        simp only [List.getElem?_toArray, List.getElem?_cons_zero, List.getElem?_cons_succ] at c0 c1 c2 c4
        clear hW2 bW2 he2 bW H4 HK
        rw [B5.out]
        go_wp2
        go_ret
        refine ⟨?_, x2⟩
        rw [show Fr.code ⟨kind, fr, to, seq, nums⟩ = 4 by (show codeOf (decide (kind ∈ kinds)) (inB fr 5) (inB to 5) (inB seq 2147483648) (anyFar nums) (decide (fr = to)) (decide (200 < nums.length)) = 4; rw [B5.out]; rfl)]
        rfl
      | true =>
        have B5 := hid b5
        clear b5
        go_enter Tryd.func50, Tryd.ntmps50
        go_wp2_with fail
        rw [← HW1.out]
        go_wp2_with fail
        refine (H1 _).out.mono ?_
        intro e w2 hx
        obtain ⟨rfl, rfl⟩ := hx
        rw [B1.out]
        go_wp2_with fail
        refine (H2 _).out.mono ?_
        intro e w2 hx
        obtain ⟨rfl, rfl⟩ := hx
        rw [B2.out]
        go_wp2_with fail
        refine (H4 _ x1).out.mono ?_
        intro e w2 hx
        obtain ⟨rfl, rfl⟩ := hx
        have e0 := (bW.ext (kindsW_ext W1)).cell 0
        simp only [List.getElem?_toArray, List.getElem?_cons_zero, List.getElem?_cons_succ] at e0
        go_wp2_with fail
        clear e0
        refine (HK W1).out.mono ?_
        intro e w2 hx
        obtain ⟨rfl, hW2⟩ := hx
        have x12 : Ext W1 w2 := by rw [← hW2]; exact kindsW_ext W1
        have x2 : Ext w w2 := x1.trans x12
        have bW2 := bW.ext x12
        have he2 := he.ext x2
        have g1 := he2.bound
        have g2 := he2.shape
        have g3 := he2.kind
        have g7 := he2.full
        have c0 := bW2.cell 0
        have c1 := bW2.cell 1
        have c2 := bW2.cell 2
        have c4 := bW2.cell 4
        simp only [List.getElem?_toArray, List.getElem?_cons_zero, List.getElem?_cons_succ] at c0 c1 c2 c4
        clear hW2 bW2 he2 bW H4 HK
        rw [B5.out]
        go_wp2
        go_ret
        refine ⟨?_, x2⟩
        rw [show Fr.code ⟨kind, fr, to, seq, nums⟩ = 2 by (show codeOf (decide (kind ∈ kinds)) (inB fr 5) (inB to 5) (inB seq 2147483648) (anyFar nums) (decide (fr = to)) (decide (200 < nums.length)) = 2; rw [B5.out, B1.out, B2.out]; rfl)]
        rfl
    | true =>
      have B2 := hid b2
      clear b2
      cases b3 : inB seq 2147483648 with
      | false =>
        have B3 := hid b3
        clear b3
        cases b5 : decide (kind ∈ kinds) with
        | false =>
          have B5 := hid b5
          clear b5
          go_enter Tryd.func50, Tryd.ntmps50
          go_wp2_with fail
          rw [← HW1.out]
          go_wp2_with fail
          refine (H1 _).out.mono ?_
          intro e w2 hx
          obtain ⟨rfl, rfl⟩ := hx
          rw [B1.out]
          go_wp2_with fail
          refine (H2 _).out.mono ?_
          intro e w2 hx
          obtain ⟨rfl, rfl⟩ := hx
          rw [B2.out]
          go_wp2_with fail
          refine (H3 _).out.mono ?_
          intro e w2 hx
          obtain ⟨rfl, rfl⟩ := hx
          rw [B3.out]
          go_wp2_with fail
          refine (H4 _ x1).out.mono ?_
          intro e w2 hx
          obtain ⟨rfl, rfl⟩ := hx
          have e0 := (bW.ext (kindsW_ext W1)).cell 0
          simp only [List.getElem?_toArray, List.getElem?_cons_zero, List.getElem?_cons_succ] at e0
          go_wp2_with fail
          clear e0
          refine (HK W1).out.mono ?_
          intro e w2 hx
          obtain ⟨rfl, hW2⟩ := hx
          have x12 : Ext W1 w2 := by rw [← hW2]; exact kindsW_ext W1
          have x2 : Ext w w2 := x1.trans x12
          have bW2 := bW.ext x12
          have he2 := he.ext x2
          have g1 := he2.bound
          have g2 := he2.shape
          have g3 := he2.kind
          have g7 := he2.full
          have c0 := bW2.cell 0
          have c1 := bW2.cell 1
          have c2 := bW2.cell 2
          have c4 := bW2.cell 4
          simp only [List.getElem?_toArray, List.getElem?_cons_zero, List.getElem?_cons_succ] at c0 c1 c2 c4
          clear hW2 bW2 he2 bW H4 HK
          rw [B5.out]
          go_wp2
          go_ret
          refine ⟨?_, x2⟩
          rw [show Fr.code ⟨kind, fr, to, seq, nums⟩ = 4 by (show codeOf (decide (kind ∈ kinds)) (inB fr 5) (inB to 5) (inB seq 2147483648) (anyFar nums) (decide (fr = to)) (decide (200 < nums.length)) = 4; rw [B5.out]; rfl)]
          rfl
        | true =>
          have B5 := hid b5
          clear b5
          go_enter Tryd.func50, Tryd.ntmps50
          go_wp2_with fail
          rw [← HW1.out]
          go_wp2_with fail
          refine (H1 _).out.mono ?_
          intro e w2 hx
          obtain ⟨rfl, rfl⟩ := hx
          rw [B1.out]
          go_wp2_with fail
          refine (H2 _).out.mono ?_
          intro e w2 hx
          obtain ⟨rfl, rfl⟩ := hx
          rw [B2.out]
          go_wp2_with fail
          refine (H3 _).out.mono ?_
          intro e w2 hx
          obtain ⟨rfl, rfl⟩ := hx
          rw [B3.out]
          go_wp2_with fail
          refine (H4 _ x1).out.mono ?_
          intro e w2 hx
          obtain ⟨rfl, rfl⟩ := hx
          have e0 := (bW.ext (kindsW_ext W1)).cell 0
          simp only [List.getElem?_toArray, List.getElem?_cons_zero, List.getElem?_cons_succ] at e0
          go_wp2_with fail
          clear e0
          refine (HK W1).out.mono ?_
          intro e w2 hx
          obtain ⟨rfl, hW2⟩ := hx
          have x12 : Ext W1 w2 := by rw [← hW2]; exact kindsW_ext W1
          have x2 : Ext w w2 := x1.trans x12
          have bW2 := bW.ext x12
          have he2 := he.ext x2
          have g1 := he2.bound
          have g2 := he2.shape
          have g3 := he2.kind
          have g7 := he2.full
          have c0 := bW2.cell 0
          have c1 := bW2.cell 1
          have c2 := bW2.cell 2
          have c4 := bW2.cell 4
          simp only [List.getElem?_toArray, List.getElem?_cons_zero, List.getElem?_cons_succ] at c0 c1 c2 c4
          clear hW2 bW2 he2 bW H4 HK
          rw [B5.out]
          go_wp2
          go_ret
          refine ⟨?_, x2⟩
          rw [show Fr.code ⟨kind, fr, to, seq, nums⟩ = 2 by (show codeOf (decide (kind ∈ kinds)) (inB fr 5) (inB to 5) (inB seq 2147483648) (anyFar nums) (decide (fr = to)) (decide (200 < nums.length)) = 2; rw [B5.out, B1.out, B2.out, B3.out]; rfl)]
          rfl
      | true =>
        have B3 := hid b3
        clear b3
        cases b5 : decide (kind ∈ kinds) with
        | false =>
          have B5 := hid b5
          clear b5
          go_enter Tryd.func50, Tryd.ntmps50
          go_wp2_with fail
          rw [← HW1.out]
          go_wp2_with fail
          refine (H1 _).out.mono ?_
          intro e w2 hx
          obtain ⟨rfl, rfl⟩ := hx
          rw [B1.out]
          go_wp2_with fail
          refine (H2 _).out.mono ?_
          intro e w2 hx
          obtain ⟨rfl, rfl⟩ := hx
          rw [B2.out]
          go_wp2_with fail
          refine (H3 _).out.mono ?_
          intro e w2 hx
          obtain ⟨rfl, rfl⟩ := hx
          rw [B3.out]
          go_wp2_with fail
          refine (H4 _ x1).out.mono ?_
          intro e w2 hx
          obtain ⟨rfl, rfl⟩ := hx
          have e0 := (bW.ext (kindsW_ext W1)).cell 0
          simp only [List.getElem?_toArray, List.getElem?_cons_zero, List.getElem?_cons_succ] at e0
          go_wp2_with fail
          clear e0
          refine (HK W1).out.mono ?_
          intro e w2 hx
          obtain ⟨rfl, hW2⟩ := hx
          have x12 : Ext W1 w2 := by rw [← hW2]; exact kindsW_ext W1
          have x2 : Ext w w2 := x1.trans x12
          have bW2 := bW.ext x12
          have he2 := he.ext x2
          have g1 := he2.bound
          have g2 := he2.shape
          have g3 := he2.kind
          have g7 := he2.full
          have c0 := bW2.cell 0
          have c1 := bW2.cell 1
          have c2 := bW2.cell 2
          have c4 := bW2.cell 4
          simp only [List.getElem?_toArray, List.getElem?_cons_zero, List.getElem?_cons_succ] at c0 c1 c2 c4
          clear hW2 bW2 he2 bW H4 HK
          rw [B5.out]
          go_wp2
          go_ret
          refine ⟨?_, x2⟩
          rw [show Fr.code ⟨kind, fr, to, seq, nums⟩ = 4 by (show codeOf (decide (kind ∈ kinds)) (inB fr 5) (inB to 5) (inB seq 2147483648) (anyFar nums) (decide (fr = to)) (decide (200 < nums.length)) = 4; rw [B5.out]; rfl)]
          rfl
        | true =>
          have B5 := hid b5
          clear b5
          cases b4 : anyFar nums with
          | true =>
            have B4 := hid b4
            clear b4
            go_enter Tryd.func50, Tryd.ntmps50
            go_wp2_with fail
            rw [← HW1.out]
            go_wp2_with fail
            refine (H1 _).out.mono ?_
            intro e w2 hx
            obtain ⟨rfl, rfl⟩ := hx
            rw [B1.out]
            go_wp2_with fail
            refine (H2 _).out.mono ?_
            intro e w2 hx
            obtain ⟨rfl, rfl⟩ := hx
            rw [B2.out]
            go_wp2_with fail
            refine (H3 _).out.mono ?_
            intro e w2 hx
            obtain ⟨rfl, rfl⟩ := hx
            rw [B3.out]
            go_wp2_with fail
            refine (H4 _ x1).out.mono ?_
            intro e w2 hx
            obtain ⟨rfl, rfl⟩ := hx
            have e0 := (bW.ext (kindsW_ext W1)).cell 0
            simp only [List.getElem?_toArray, List.getElem?_cons_zero, List.getElem?_cons_succ] at e0
            go_wp2_with fail
            clear e0
            refine (HK W1).out.mono ?_
            intro e w2 hx
            obtain ⟨rfl, hW2⟩ := hx
            have x12 : Ext W1 w2 := by rw [← hW2]; exact kindsW_ext W1
            have x2 : Ext w w2 := x1.trans x12
            have bW2 := bW.ext x12
            have he2 := he.ext x2
            have g1 := he2.bound
            have g2 := he2.shape
            have g3 := he2.kind
            have g7 := he2.full
            have c0 := bW2.cell 0
            have c1 := bW2.cell 1
            have c2 := bW2.cell 2
            have c4 := bW2.cell 4
            simp only [List.getElem?_toArray, List.getElem?_cons_zero, List.getElem?_cons_succ] at c0 c1 c2 c4
            clear hW2 bW2 he2 bW H4 HK
            rw [B5.out]
            rw [B4.out]
            go_wp2
            go_ret
            refine ⟨?_, x2⟩
            rw [show Fr.code ⟨kind, fr, to, seq, nums⟩ = 2 by (show codeOf (decide (kind ∈ kinds)) (inB fr 5) (inB to 5) (inB seq 2147483648) (anyFar nums) (decide (fr = to)) (decide (200 < nums.length)) = 2; rw [B5.out, B1.out, B2.out, B3.out, B4.out]; rfl)]
            rfl
          | false =>
            have B4 := hid b4
            clear b4
            by_cases h6 : fr = to
            · have B6 := hid (decide_eq_true h6)
              have H6 := hid h6
              clear h6
              go_enter Tryd.func50, Tryd.ntmps50
              go_wp2_with fail
              rw [← HW1.out]
              go_wp2_with fail
              refine (H1 _).out.mono ?_
              intro e w2 hx
              obtain ⟨rfl, rfl⟩ := hx
              rw [B1.out]
              go_wp2_with fail
              refine (H2 _).out.mono ?_
              intro e w2 hx
              obtain ⟨rfl, rfl⟩ := hx
              rw [B2.out]
              go_wp2_with fail
              refine (H3 _).out.mono ?_
              intro e w2 hx
              obtain ⟨rfl, rfl⟩ := hx
              rw [B3.out]
              go_wp2_with fail
              refine (H4 _ x1).out.mono ?_
              intro e w2 hx
              obtain ⟨rfl, rfl⟩ := hx
              have e0 := (bW.ext (kindsW_ext W1)).cell 0
              simp only [List.getElem?_toArray, List.getElem?_cons_zero, List.getElem?_cons_succ] at e0
              go_wp2_with fail
              clear e0
              refine (HK W1).out.mono ?_
              intro e w2 hx
              obtain ⟨rfl, hW2⟩ := hx
              have x12 : Ext W1 w2 := by rw [← hW2]; exact kindsW_ext W1
              have x2 : Ext w w2 := x1.trans x12
              have bW2 := bW.ext x12
              have he2 := he.ext x2
              have g1 := he2.bound
              have g2 := he2.shape
              have g3 := he2.kind
              have g7 := he2.full
              have c0 := bW2.cell 0
              have c1 := bW2.cell 1
              have c2 := bW2.cell 2
              have c4 := bW2.cell 4
              simp only [List.getElem?_toArray, List.getElem?_cons_zero, List.getElem?_cons_succ] at c0 c1 c2 c4
              clear hW2 bW2 he2 bW H4 HK
              rw [B5.out]
              rw [B4.out]
              have h6 := H6.out
              go_wp2
              go_ret
              refine ⟨?_, x2⟩
              rw [show Fr.code ⟨kind, fr, to, seq, nums⟩ = 3 by (show codeOf (decide (kind ∈ kinds)) (inB fr 5) (inB to 5) (inB seq 2147483648) (anyFar nums) (decide (fr = to)) (decide (200 < nums.length)) = 3; rw [B5.out, B1.out, B2.out, B3.out, B4.out, B6.out]; rfl)]
              rfl
            · have B6 := hid (decide_eq_false h6)
              by_cases h7 : 200 < nums.length
              · have B7 := hid (decide_eq_true h7)
                go_enter Tryd.func50, Tryd.ntmps50
                go_wp2_with fail
                rw [← HW1.out]
                go_wp2_with fail
                refine (H1 _).out.mono ?_
                intro e w2 hx
                obtain ⟨rfl, rfl⟩ := hx
                rw [B1.out]
                go_wp2_with fail
                refine (H2 _).out.mono ?_
                intro e w2 hx
                obtain ⟨rfl, rfl⟩ := hx
                rw [B2.out]
                go_wp2_with fail
                refine (H3 _).out.mono ?_
                intro e w2 hx
                obtain ⟨rfl, rfl⟩ := hx
                rw [B3.out]
                go_wp2_with fail
                refine (H4 _ x1).out.mono ?_
                intro e w2 hx
                obtain ⟨rfl, rfl⟩ := hx
                have e0 := (bW.ext (kindsW_ext W1)).cell 0
                simp only [List.getElem?_toArray, List.getElem?_cons_zero, List.getElem?_cons_succ] at e0
                go_wp2_with fail
                clear e0
                refine (HK W1).out.mono ?_
                intro e w2 hx
                obtain ⟨rfl, hW2⟩ := hx
                have x12 : Ext W1 w2 := by rw [← hW2]; exact kindsW_ext W1
                have x2 : Ext w w2 := x1.trans x12
                have bW2 := bW.ext x12
                have he2 := he.ext x2
                have g1 := he2.bound
                have g2 := he2.shape
                have g3 := he2.kind
                have g7 := he2.full
                have c0 := bW2.cell 0
                have c1 := bW2.cell 1
                have c2 := bW2.cell 2
                have c4 := bW2.cell 4
                simp only [List.getElem?_toArray, List.getElem?_cons_zero, List.getElem?_cons_succ] at c0 c1 c2 c4
                clear hW2 bW2 he2 bW H4 HK
                rw [B5.out]
                rw [B4.out]
                go_wp2
                go_ret
                refine ⟨?_, x2⟩
                rw [show Fr.code ⟨kind, fr, to, seq, nums⟩ = 8 by (show codeOf (decide (kind ∈ kinds)) (inB fr 5) (inB to 5) (inB seq 2147483648) (anyFar nums) (decide (fr = to)) (decide (200 < nums.length)) = 8; rw [B5.out, B1.out, B2.out, B3.out, B4.out, B6.out, B7.out]; rfl)]
                rfl
              · have B7 := hid (decide_eq_false h7)
                go_enter Tryd.func50, Tryd.ntmps50
                go_wp2_with fail
                rw [← HW1.out]
                go_wp2_with fail
                refine (H1 _).out.mono ?_
                intro e w2 hx
                obtain ⟨rfl, rfl⟩ := hx
                rw [B1.out]
                go_wp2_with fail
                refine (H2 _).out.mono ?_
                intro e w2 hx
                obtain ⟨rfl, rfl⟩ := hx
                rw [B2.out]
                go_wp2_with fail
                refine (H3 _).out.mono ?_
                intro e w2 hx
                obtain ⟨rfl, rfl⟩ := hx
                rw [B3.out]
                go_wp2_with fail
                refine (H4 _ x1).out.mono ?_
                intro e w2 hx
                obtain ⟨rfl, rfl⟩ := hx
                have e0 := (bW.ext (kindsW_ext W1)).cell 0
                simp only [List.getElem?_toArray, List.getElem?_cons_zero, List.getElem?_cons_succ] at e0
                go_wp2_with fail
                clear e0
                refine (HK W1).out.mono ?_
                intro e w2 hx
                obtain ⟨rfl, hW2⟩ := hx
                have x12 : Ext W1 w2 := by rw [← hW2]; exact kindsW_ext W1
                have x2 : Ext w w2 := x1.trans x12
                have bW2 := bW.ext x12
                have he2 := he.ext x2
                have g1 := he2.bound
                have g2 := he2.shape
                have g3 := he2.kind
                have g7 := he2.full
                have c0 := bW2.cell 0
                have c1 := bW2.cell 1
                have c2 := bW2.cell 2
                have c4 := bW2.cell 4
                simp only [List.getElem?_toArray, List.getElem?_cons_zero, List.getElem?_cons_succ] at c0 c1 c2 c4
                clear hW2 bW2 he2 bW H4 HK
                rw [B5.out]
                rw [B4.out]
                go_wp2
                go_ret
                refine ⟨?_, x2⟩
                rw [show Fr.code ⟨kind, fr, to, seq, nums⟩ = 0 by (show codeOf (decide (kind ∈ kinds)) (inB fr 5) (inB to 5) (inB seq 2147483648) (anyFar nums) (decide (fr = to)) (decide (200 < nums.length)) = 0; rw [B5.out, B1.out, B2.out, B3.out, B4.out, B6.out, B7.out]; rfl)]
                rfl
end Go.Proofs.YtcfopaopcbjkeaaDoor
