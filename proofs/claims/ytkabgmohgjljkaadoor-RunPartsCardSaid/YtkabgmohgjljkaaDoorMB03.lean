/- Texts of one proof, put together: F4 F5 Own F6 FP Ow2. -/
import Derived.Test.YtkabgmohgjljkaaDoorMB01
import Derived.Test.YtkabgmohgjljkaaDoorMB02

/- The frame: its check is walked. -/
namespace Go.Proofs.YtkabgmohgjljkaaDoor
set_option linter.unusedSimpArgs false
set_option linter.unusedVariables false
open Go Go.RowKit

/-- A frame, plainly. -/
structure Fr where
  kind : UInt8
  fr : Int
  to : Int
  seq : Int
  nums : List Int

def inB (n m : Int) : Bool := decide (0 ≤ n) && decide (n ≤ m)
def kinds : List UInt8 := [100, 101, 116, 97]
def codeOf (k b1 b2 b3 far same full : Bool) : Nat := bif !k then 4 else bif !b1 then 2 else bif !b2 then 2 else bif !b3 then 2 else bif far then 2 else bif same then 3 else bif full then 8 else 0
def Fr.code (f : Fr) : Nat := codeOf (decide (f.kind ∈ kinds)) (inB f.fr 5) (inB f.to 5) (inB f.seq 2147483648) (anyFar f.nums) (decide (f.fr = f.to)) (decide (200 < f.nums.length))
def frv (f : Fr) (a : Option Addr) (cap : Nat) : Value := .agg #[.int .u8 (f.kind.toNat : Int), .int .i64 f.fr, .int .i64 f.to, .int .i64 f.seq, .slice a f.nums.length cap]

/-- The errors' values, by number. -/
structure ErrsC (w : World) (ev : Nat → Value) : Prop where
  bound : w.cell? ⟨3, 0, none⟩ = some (ev 2)
  shape : w.cell? ⟨2, 0, none⟩ = some (ev 3)
  kind : w.cell? ⟨0, 0, none⟩ = some (ev 4)
  full : w.cell? ⟨1, 0, none⟩ = some (ev 8)
structure Errs (w : World) (ev : Nat → Value) : Prop extends ErrsC w ev where
  text : w.cell? ⟨4, 0, none⟩ = some (ev 1)
  sum : w.cell? ⟨10, 0, none⟩ = some (ev 11)
def errv (ev : Nat → Value) (c : Nat) : Value := if c = 0 then .nilIface else ev c

theorem ErrsC.ext {w w' : World} {ev : Nat → Value} (h : ErrsC w ev) (x : Ext w w') : ErrsC w' ev :=
  ⟨x.cellx h.bound, x.cellx h.shape, x.cellx h.kind, x.cellx h.full⟩
theorem Errs.ext {w w' : World} {ev : Nat → Value} (h : Errs w ev) (x : Ext w w') : Errs w' ev :=
  ⟨h.toErrsC.ext x, x.cellx h.text, x.cellx h.sum⟩
theorem Ints.ext {w w' : World} {a : Option Addr} {len : Nat} {vs : List Int} (h : Ints w a len vs) (x : Ext w w') : Ints w' a len vs :=
  ⟨h.ln, h.sm, fun y hy i hi => x.cellx (h.cl y hy i hi), h.hi⟩

theorem kinds_cells : (bcells kinds).toArray = #[Value.int .u8 100, Value.int .u8 101, Value.int .u8 116, Value.int .u8 97] := rfl
/-- The row of the kinds, behind its conversion. -/
def kindsW (W : World) : World := W.alloc (.cells #[Value.int .u8 100, Value.int .u8 101, Value.int .u8 116, Value.int .u8 97] 5 (4, 5))
theorem kindsW_ext (W : World) : Ext W (kindsW W) := (Ext.refl W).alloc _
theorem kinds_any (kind : UInt8) (W : World) : Calls Tryd.prog 55 #[.slice (some ⟨W.heap.size, 0, none⟩) 4 4, .int .u8 (kind.toNat : Int)] (kindsW W) fun e w' =>
    e = .returned (.bool (decide (kind ∈ kinds))) ∧ kindsW W = w' := by
  refine containsb_any kinds kind W.heap.size 4 (kindsW W) (by decide) fun k hk => ?_
  unfold kindsW
  rw [World.cell?_alloc_mark]
  have hk4 : k < 4 := hk
  rcases (by omega : k = 0 ∨ k = 1 ∨ k = 2 ∨ k = 3) with rfl | rfl | rfl | rfl <;> rfl
theorem run_kinds (W : World) : (convert 126 126 (.slice (some ⟨W.heap.size, 0, none⟩) 4 4)).run Tryd.prog (W.alloc (.cells #[Value.int .u8 100, Value.int .u8 101, Value.int .u8 116, Value.int .u8 97] 5)) = .ok (.slice (some ⟨W.heap.size, 0, none⟩) 4 4) (kindsW W) := by
  have hsh : ∀ (C : Array Value), (W.alloc (.cells C 5)).shape? W.heap.size = some (5, C.size) := fun C => by
    have : (W.alloc (.cells C 5)).heap[W.heap.size]? = some (.cells C 5) := heap_alloc_new W _
    unfold World.shape?
    rw [this]
  have hfr : ∀ (C : Array Value) (n : Nat), (W.alloc (.cells C 5)).freeze ⟨W.heap.size, n, none⟩ 1 = W.alloc (.cells C 5 (n, n + 1)) := fun C n => by
    have hm : ∀ (a : Array Obj) (x : Obj) (f : Obj → Obj), (a.push x).modify a.size f = a.push (f x) := by
      intro a x f
      apply Array.ext
      · simp
      · intro i h1 h2
        simp only [Array.getElem_modify, Array.getElem_push]
        by_cases h : a.size = i
        · subst h; simp
        · have hi : i < a.size := by simp at h1; omega
          simp [h, hi]
    unfold World.freeze
    rw [if_neg (by decide)]
    show ({ W.alloc (.cells C 5) with heap := (W.heap.push (.cells C 5)).modify W.heap.size _ } : World) = _
    rw [hm]
    rfl
  simp [convert, run_underlying Tryd.underlying126, run_underlying Tryd.underlying5, markStringish, hsh]
  exact hfr _ _


set_option maxRecDepth 100000 in
set_option maxHeartbeats 3200000 in
theorem fcheck_any (f : Fr) (a : Option Addr) (cap : Nat) (w : World) (ev : Nat → Value) (hr : Ints w a f.nums.length f.nums) (hl : (f.nums.length : Int) ≤ 9223372036854775807) (he : ErrsC w ev) :
    Calls Tryd.prog 35 #[frv f a cap] w fun e w' => e = .returned (errv ev f.code) ∧ Ext w w' := by
  obtain ⟨kind, fr, to, seq, nums⟩ := f
  have H1 : ∀ w, Hid (Calls Tryd.prog 52 #[.int .i64 fr, .int .i64 5] w fun e w' => e = .returned (.bool (inB fr 5)) ∧ w = w') := fun w => within_any fr 5 w
  have H2 : ∀ w, Hid (Calls Tryd.prog 52 #[.int .i64 to, .int .i64 5] w fun e w' => e = .returned (.bool (inB to 5)) ∧ w = w') := fun w => within_any to 5 w
  have H3 : ∀ w, Hid (Calls Tryd.prog 52 #[.int .i64 seq, .int .i64 2147483648] w fun e w' => e = .returned (.bool (inB seq 2147483648)) ∧ w = w') := fun w => within_any seq 2147483648 w
  have H4 := fun w' (x : Ext w w') => hid (containsfi_any a nums.length cap nums w' (hr.ext x) hl)
  have HK := fun W => hid (kinds_any kind W)
  have hcv := run_kinds
  obtain ⟨W1, hW1⟩ : ∃ W1, W1 = w.alloc (.cells #[Value.int .u8 (kind.toNat : Int), .int .i64 fr, .int .i64 to, .int .i64 seq, .slice a nums.length cap] 48) := ⟨_, rfl⟩
  have x1 : Ext w W1 := by rw [hW1]; exact (Ext.refl w).alloc _
  have bW : Blk W1 w.heap.size #[Value.int .u8 (kind.toNat : Int), .int .i64 fr, .int .i64 to, .int .i64 seq, .slice a nums.length cap] 48 := by rw [hW1]; exact Blk.new _ _ _
  have d0 := bW.cell 0
  have d1 := bW.cell 1
  have d2 := bW.cell 2
  have d3 := bW.cell 3
  have d4 := bW.cell 4
  simp only [List.getElem?_toArray, List.getElem?_cons_zero, List.getElem?_cons_succ] at d0 d1 d2 d3 d4
  have HW1 := hid hW1
  unfold frv
  simp only at hl ⊢
  clear hr hW1
  cases b1 : inB fr 5 with
  | false =>
    have B1 := hid b1
    clear b1
    cases b5 : decide (kind ∈ kinds) with
    | false =>
      have B5 := hid b5
      clear b5
      go_enter Tryd.func35, Tryd.ntmps35
      go_wp2_with fail
      rw [← HW1.out]
      go_wp2_with fail
      refine (H1 _).out.mono ?_
      intro e w2 hx
      obtain ⟨rfl, rfl⟩ := hx
      rw [B1.out]
      go_wp2_with fail
      refine (H4 _ x1).out.mono ?_
      intro e w2 hx
      obtain ⟨rfl, rfl⟩ := hx
      have e0 := (bW.ext (kindsW_ext W1)).cell 0
      simp only [List.getElem?_toArray, List.getElem?_cons_zero, List.getElem?_cons_succ] at e0
      go_wp2_with fail
      clear e0
      refine (HK W1).out.mono ?_
      intro e w2 hx
      obtain ⟨rfl, hW2⟩ := hx
      have x12 : Ext W1 w2 := by rw [← hW2]; exact kindsW_ext W1
      have x2 : Ext w w2 := x1.trans x12
      have bW2 := bW.ext x12
      have he2 := he.ext x2
      have g1 := he2.bound
      have g2 := he2.shape
      have g3 := he2.kind
      have g7 := he2.full
      have c0 := bW2.cell 0
      have c1 := bW2.cell 1
      have c2 := bW2.cell 2
      have c4 := bW2.cell 4
      simp only [List.getElem?_toArray, List.getElem?_cons_zero, List.getElem?_cons_succ] at c0 c1 c2 c4
      clear hW2 bW2 he2 bW H4 HK
      rw [B5.out]
      go_wp2
      go_ret
      refine ⟨?_, x2⟩
      rw [show Fr.code ⟨kind, fr, to, seq, nums⟩ = 4 by (show codeOf (decide (kind ∈ kinds)) (inB fr 5) (inB to 5) (inB seq 2147483648) (anyFar nums) (decide (fr = to)) (decide (200 < nums.length)) = 4; rw [B5.out]; rfl)]
      rfl
    | true =>
      have B5 := hid b5
      clear b5
      go_enter Tryd.func35, Tryd.ntmps35
      go_wp2_with fail
      rw [← HW1.out]
      go_wp2_with fail
      refine (H1 _).out.mono ?_
      intro e w2 hx
      obtain ⟨rfl, rfl⟩ := hx
      rw [B1.out]
      go_wp2_with fail
      refine (H4 _ x1).out.mono ?_
      intro e w2 hx
      obtain ⟨rfl, rfl⟩ := hx
      have e0 := (bW.ext (kindsW_ext W1)).cell 0
      simp only [List.getElem?_toArray, List.getElem?_cons_zero, List.getElem?_cons_succ] at e0
      go_wp2_with fail
      clear e0
      refine (HK W1).out.mono ?_
      intro e w2 hx
      obtain ⟨rfl, hW2⟩ := hx
      have x12 : Ext W1 w2 := by rw [← hW2]; exact kindsW_ext W1
      have x2 : Ext w w2 := x1.trans x12
      have bW2 := bW.ext x12
      have he2 := he.ext x2
      have g1 := he2.bound
      have g2 := he2.shape
      have g3 := he2.kind
      have g7 := he2.full
      have c0 := bW2.cell 0
      have c1 := bW2.cell 1
      have c2 := bW2.cell 2
      have c4 := bW2.cell 4
      simp only [List.getElem?_toArray, List.getElem?_cons_zero, List.getElem?_cons_succ] at c0 c1 c2 c4
      clear hW2 bW2 he2 bW H4 HK
      rw [B5.out]
      go_wp2
      go_ret
      refine ⟨?_, x2⟩
      rw [show Fr.code ⟨kind, fr, to, seq, nums⟩ = 2 by (show codeOf (decide (kind ∈ kinds)) (inB fr 5) (inB to 5) (inB seq 2147483648) (anyFar nums) (decide (fr = to)) (decide (200 < nums.length)) = 2; rw [B5.out, B1.out]; rfl)]
      rfl
  | true =>
    have B1 := hid b1
    clear b1
    cases b2 : inB to 5 with
    | false =>
      have B2 := hid b2
      clear b2
      cases b5 : decide (kind ∈ kinds) with
      | false =>
        have B5 := hid b5
        clear b5
        go_enter Tryd.func35, Tryd.ntmps35
        go_wp2_with fail
        rw [← HW1.out]
        go_wp2_with fail
        refine (H1 _).out.mono ?_
        intro e w2 hx
        obtain ⟨rfl, rfl⟩ := hx
        rw [B1.out]
        go_wp2_with fail
        refine (H2 _).out.mono ?_
        intro e w2 hx
        obtain ⟨rfl, rfl⟩ := hx
        rw [B2.out]
        go_wp2_with fail
        refine (H4 _ x1).out.mono ?_
        intro e w2 hx
        obtain ⟨rfl, rfl⟩ := hx
        have e0 := (bW.ext (kindsW_ext W1)).cell 0
        simp only [List.getElem?_toArray, List.getElem?_cons_zero, List.getElem?_cons_succ] at e0
        go_wp2_with fail
        clear e0
        refine (HK W1).out.mono ?_
        intro e w2 hx
        obtain ⟨rfl, hW2⟩ := hx
        have x12 : Ext W1 w2 := by rw [← hW2]; exact kindsW_ext W1
        have x2 : Ext w w2 := x1.trans x12
        have bW2 := bW.ext x12
        have he2 := he.ext x2
        have g1 := he2.bound
        have g2 := he2.shape
        have g3 := he2.kind
        have g7 := he2.full
        have c0 := bW2.cell 0
        have c1 := bW2.cell 1
        have c2 := bW2.cell 2
        have c4 := bW2.cell 4
        simp only [List.getElem?_toArray, List.getElem?_cons_zero, List.getElem?_cons_succ] at c0 c1 c2 c4
        clear hW2 bW2 he2 bW H4 HK
        rw [B5.out]
        go_wp2
        go_ret
        refine ⟨?_, x2⟩
        rw [show Fr.code ⟨kind, fr, to, seq, nums⟩ = 4 by (show codeOf (decide (kind ∈ kinds)) (inB fr 5) (inB to 5) (inB seq 2147483648) (anyFar nums) (decide (fr = to)) (decide (200 < nums.length)) = 4; rw [B5.out]; rfl)]
        rfl
      | true =>
        have B5 := hid b5
        clear b5
        go_enter Tryd.func35, Tryd.ntmps35
        go_wp2_with fail
        rw [← HW1.out]
        go_wp2_with fail
        refine (H1 _).out.mono ?_
        intro e w2 hx
        obtain ⟨rfl, rfl⟩ := hx
        rw [B1.out]
        go_wp2_with fail
        refine (H2 _).out.mono ?_
        intro e w2 hx
        obtain ⟨rfl, rfl⟩ := hx
        rw [B2.out]
        go_wp2_with fail
        refine (H4 _ x1).out.mono ?_
        intro e w2 hx
        obtain ⟨rfl, rfl⟩ := hx
        have e0 := (bW.ext (kindsW_ext W1)).cell 0
        simp only [List.getElem?_toArray, List.getElem?_cons_zero, List.getElem?_cons_succ] at e0
        go_wp2_with fail
        clear e0
        refine (HK W1).out.mono ?_
        intro e w2 hx
        obtain ⟨rfl, hW2⟩ := hx
        have x12 : Ext W1 w2 := by rw [← hW2]; exact kindsW_ext W1
        have x2 : Ext w w2 := x1.trans x12
        have bW2 := bW.ext x12
        have he2 := he.ext x2
        have g1 := he2.bound
        have g2 := he2.shape
        have g3 := he2.kind
        have g7 := he2.full
        have c0 := bW2.cell 0
        have c1 := bW2.cell 1
        have c2 := bW2.cell 2
        have c4 := bW2.cell 4
        simp only [List.getElem?_toArray, List.getElem?_cons_zero, List.getElem?_cons_succ] at c0 c1 c2 c4
        clear hW2 bW2 he2 bW H4 HK
        rw [B5.out]
        go_wp2
        go_ret
        refine ⟨?_, x2⟩
        rw [show Fr.code ⟨kind, fr, to, seq, nums⟩ = 2 by (show codeOf (decide (kind ∈ kinds)) (inB fr 5) (inB to 5) (inB seq 2147483648) (anyFar nums) (decide (fr = to)) (decide (200 < nums.length)) = 2; rw [B5.out, B1.out, B2.out]; rfl)]
        rfl
    | true =>
      have B2 := hid b2
      clear b2
      cases b3 : inB seq 2147483648 with
      | false =>
        have B3 := hid b3
        clear b3
        cases b5 : decide (kind ∈ kinds) with
        | false =>
          have B5 := hid b5
          clear b5
          go_enter Tryd.func35, Tryd.ntmps35
          go_wp2_with fail
          rw [← HW1.out]
          go_wp2_with fail
          refine (H1 _).out.mono ?_
          intro e w2 hx
          obtain ⟨rfl, rfl⟩ := hx
          rw [B1.out]
          go_wp2_with fail
          refine (H2 _).out.mono ?_
          intro e w2 hx
          obtain ⟨rfl, rfl⟩ := hx
          rw [B2.out]
          go_wp2_with fail
          refine (H3 _).out.mono ?_
          intro e w2 hx
          obtain ⟨rfl, rfl⟩ := hx
          rw [B3.out]
          go_wp2_with fail
          refine (H4 _ x1).out.mono ?_
          intro e w2 hx
          obtain ⟨rfl, rfl⟩ := hx
          have e0 := (bW.ext (kindsW_ext W1)).cell 0
          simp only [List.getElem?_toArray, List.getElem?_cons_zero, List.getElem?_cons_succ] at e0
          go_wp2_with fail
          clear e0
          refine (HK W1).out.mono ?_
          intro e w2 hx
          obtain ⟨rfl, hW2⟩ := hx
          have x12 : Ext W1 w2 := by rw [← hW2]; exact kindsW_ext W1
          have x2 : Ext w w2 := x1.trans x12
          have bW2 := bW.ext x12
          have he2 := he.ext x2
          have g1 := he2.bound
          have g2 := he2.shape
          have g3 := he2.kind
          have g7 := he2.full
          have c0 := bW2.cell 0
          have c1 := bW2.cell 1
          have c2 := bW2.cell 2
          have c4 := bW2.cell 4
          simp only [List.getElem?_toArray, List.getElem?_cons_zero, List.getElem?_cons_succ] at c0 c1 c2 c4
          clear hW2 bW2 he2 bW H4 HK
          rw [B5.out]
          go_wp2
          go_ret
          refine ⟨?_, x2⟩
          rw [show Fr.code ⟨kind, fr, to, seq, nums⟩ = 4 by (show codeOf (decide (kind ∈ kinds)) (inB fr 5) (inB to 5) (inB seq 2147483648) (anyFar nums) (decide (fr = to)) (decide (200 < nums.length)) = 4; rw [B5.out]; rfl)]
          rfl
        | true =>
          have B5 := hid b5
          clear b5
          go_enter Tryd.func35, Tryd.ntmps35
          go_wp2_with fail
          rw [← HW1.out]
          go_wp2_with fail
          refine (H1 _).out.mono ?_
          intro e w2 hx
          obtain ⟨rfl, rfl⟩ := hx
          rw [B1.out]
          go_wp2_with fail
          refine (H2 _).out.mono ?_
          intro e w2 hx
          obtain ⟨rfl, rfl⟩ := hx
          rw [B2.out]
          go_wp2_with fail
          refine (H3 _).out.mono ?_
          intro e w2 hx
          obtain ⟨rfl, rfl⟩ := hx
          rw [B3.out]
          go_wp2_with fail
          refine (H4 _ x1).out.mono ?_
          intro e w2 hx
          obtain ⟨rfl, rfl⟩ := hx
          have e0 := (bW.ext (kindsW_ext W1)).cell 0
          simp only [List.getElem?_toArray, List.getElem?_cons_zero, List.getElem?_cons_succ] at e0
          go_wp2_with fail
          clear e0
          refine (HK W1).out.mono ?_
          intro e w2 hx
          obtain ⟨rfl, hW2⟩ := hx
          have x12 : Ext W1 w2 := by rw [← hW2]; exact kindsW_ext W1
          have x2 : Ext w w2 := x1.trans x12
          have bW2 := bW.ext x12
          have he2 := he.ext x2
          have g1 := he2.bound
          have g2 := he2.shape
          have g3 := he2.kind
          have g7 := he2.full
          have c0 := bW2.cell 0
          have c1 := bW2.cell 1
          have c2 := bW2.cell 2
          have c4 := bW2.cell 4
          simp only [List.getElem?_toArray, List.getElem?_cons_zero, List.getElem?_cons_succ] at c0 c1 c2 c4
          clear hW2 bW2 he2 bW H4 HK
          rw [B5.out]
          go_wp2
          go_ret
          refine ⟨?_, x2⟩
          rw [show Fr.code ⟨kind, fr, to, seq, nums⟩ = 2 by (show codeOf (decide (kind ∈ kinds)) (inB fr 5) (inB to 5) (inB seq 2147483648) (anyFar nums) (decide (fr = to)) (decide (200 < nums.length)) = 2; rw [B5.out, B1.out, B2.out, B3.out]; rfl)]
          rfl
      | true =>
        have B3 := hid b3
        clear b3
        cases b5 : decide (kind ∈ kinds) with
        | false =>
          have B5 := hid b5
          clear b5
          go_enter Tryd.func35, Tryd.ntmps35
          go_wp2_with fail
          rw [← HW1.out]
          go_wp2_with fail
          refine (H1 _).out.mono ?_
          intro e w2 hx
          obtain ⟨rfl, rfl⟩ := hx
          rw [B1.out]
          go_wp2_with fail
          refine (H2 _).out.mono ?_
          intro e w2 hx
          obtain ⟨rfl, rfl⟩ := hx
          rw [B2.out]
          go_wp2_with fail
          refine (H3 _).out.mono ?_
          intro e w2 hx
          obtain ⟨rfl, rfl⟩ := hx
          rw [B3.out]
          go_wp2_with fail
          refine (H4 _ x1).out.mono ?_
          intro e w2 hx
          obtain ⟨rfl, rfl⟩ := hx
          have e0 := (bW.ext (kindsW_ext W1)).cell 0
          simp only [List.getElem?_toArray, List.getElem?_cons_zero, List.getElem?_cons_succ] at e0
          go_wp2_with fail
          clear e0
          refine (HK W1).out.mono ?_
          intro e w2 hx
          obtain ⟨rfl, hW2⟩ := hx
          have x12 : Ext W1 w2 := by rw [← hW2]; exact kindsW_ext W1
          have x2 : Ext w w2 := x1.trans x12
          have bW2 := bW.ext x12
          have he2 := he.ext x2
          have g1 := he2.bound
          have g2 := he2.shape
          have g3 := he2.kind
          have g7 := he2.full
          have c0 := bW2.cell 0
          have c1 := bW2.cell 1
          have c2 := bW2.cell 2
          have c4 := bW2.cell 4
          simp only [List.getElem?_toArray, List.getElem?_cons_zero, List.getElem?_cons_succ] at c0 c1 c2 c4
          clear hW2 bW2 he2 bW H4 HK
          rw [B5.out]
          go_wp2
          go_ret
          refine ⟨?_, x2⟩
          rw [show Fr.code ⟨kind, fr, to, seq, nums⟩ = 4 by (show codeOf (decide (kind ∈ kinds)) (inB fr 5) (inB to 5) (inB seq 2147483648) (anyFar nums) (decide (fr = to)) (decide (200 < nums.length)) = 4; rw [B5.out]; rfl)]
          rfl
        | true =>
          have B5 := hid b5
          clear b5
          cases b4 : anyFar nums with
          | true =>
            have B4 := hid b4
            clear b4
            go_enter Tryd.func35, Tryd.ntmps35
            go_wp2_with fail
            rw [← HW1.out]
            go_wp2_with fail
            refine (H1 _).out.mono ?_
            intro e w2 hx
            obtain ⟨rfl, rfl⟩ := hx
            rw [B1.out]
            go_wp2_with fail
            refine (H2 _).out.mono ?_
            intro e w2 hx
            obtain ⟨rfl, rfl⟩ := hx
            rw [B2.out]
            go_wp2_with fail
            refine (H3 _).out.mono ?_
            intro e w2 hx
            obtain ⟨rfl, rfl⟩ := hx
            rw [B3.out]
            go_wp2_with fail
            refine (H4 _ x1).out.mono ?_
            intro e w2 hx
            obtain ⟨rfl, rfl⟩ := hx
            have e0 := (bW.ext (kindsW_ext W1)).cell 0
            simp only [List.getElem?_toArray, List.getElem?_cons_zero, List.getElem?_cons_succ] at e0
            go_wp2_with fail
            clear e0
            refine (HK W1).out.mono ?_
            intro e w2 hx
            obtain ⟨rfl, hW2⟩ := hx
            have x12 : Ext W1 w2 := by rw [← hW2]; exact kindsW_ext W1
            have x2 : Ext w w2 := x1.trans x12
            have bW2 := bW.ext x12
            have he2 := he.ext x2
            have g1 := he2.bound
            have g2 := he2.shape
            have g3 := he2.kind
            have g7 := he2.full
            have c0 := bW2.cell 0
            have c1 := bW2.cell 1
            have c2 := bW2.cell 2
            have c4 := bW2.cell 4
            simp only [List.getElem?_toArray, List.getElem?_cons_zero, List.getElem?_cons_succ] at c0 c1 c2 c4
            clear hW2 bW2 he2 bW H4 HK
            rw [B5.out]
            rw [B4.out]
            go_wp2
            go_ret
            refine ⟨?_, x2⟩
            rw [show Fr.code ⟨kind, fr, to, seq, nums⟩ = 2 by (show codeOf (decide (kind ∈ kinds)) (inB fr 5) (inB to 5) (inB seq 2147483648) (anyFar nums) (decide (fr = to)) (decide (200 < nums.length)) = 2; rw [B5.out, B1.out, B2.out, B3.out, B4.out]; rfl)]
            rfl
          | false =>
            have B4 := hid b4
            clear b4
            by_cases h6 : fr = to
            · have B6 := hid (decide_eq_true h6)
              have H6 := hid h6
              clear h6
              go_enter Tryd.func35, Tryd.ntmps35
              go_wp2_with fail
              rw [← HW1.out]
              go_wp2_with fail
              refine (H1 _).out.mono ?_
              intro e w2 hx
              obtain ⟨rfl, rfl⟩ := hx
              rw [B1.out]
              go_wp2_with fail
              refine (H2 _).out.mono ?_
              intro e w2 hx
              obtain ⟨rfl, rfl⟩ := hx
              rw [B2.out]
              go_wp2_with fail
              refine (H3 _).out.mono ?_
              intro e w2 hx
              obtain ⟨rfl, rfl⟩ := hx
              rw [B3.out]
              go_wp2_with fail
              refine (H4 _ x1).out.mono ?_
              intro e w2 hx
              obtain ⟨rfl, rfl⟩ := hx
              have e0 := (bW.ext (kindsW_ext W1)).cell 0
              simp only [List.getElem?_toArray, List.getElem?_cons_zero, List.getElem?_cons_succ] at e0
              go_wp2_with fail
              clear e0
              refine (HK W1).out.mono ?_
              intro e w2 hx
              obtain ⟨rfl, hW2⟩ := hx
              have x12 : Ext W1 w2 := by rw [← hW2]; exact kindsW_ext W1
              have x2 : Ext w w2 := x1.trans x12
              have bW2 := bW.ext x12
              have he2 := he.ext x2
              have g1 := he2.bound
              have g2 := he2.shape
              have g3 := he2.kind
              have g7 := he2.full
              have c0 := bW2.cell 0
              have c1 := bW2.cell 1
              have c2 := bW2.cell 2
              have c4 := bW2.cell 4
              simp only [List.getElem?_toArray, List.getElem?_cons_zero, List.getElem?_cons_succ] at c0 c1 c2 c4
              clear hW2 bW2 he2 bW H4 HK
              rw [B5.out]
              rw [B4.out]
              have h6 := H6.out
              go_wp2
              go_ret
              refine ⟨?_, x2⟩
              rw [show Fr.code ⟨kind, fr, to, seq, nums⟩ = 3 by (show codeOf (decide (kind ∈ kinds)) (inB fr 5) (inB to 5) (inB seq 2147483648) (anyFar nums) (decide (fr = to)) (decide (200 < nums.length)) = 3; rw [B5.out, B1.out, B2.out, B3.out, B4.out, B6.out]; rfl)]
              rfl
            · have B6 := hid (decide_eq_false h6)
              by_cases h7 : 200 < nums.length
              · have B7 := hid (decide_eq_true h7)
                go_enter Tryd.func35, Tryd.ntmps35
                go_wp2_with fail
                rw [← HW1.out]
                go_wp2_with fail
                refine (H1 _).out.mono ?_
                intro e w2 hx
                obtain ⟨rfl, rfl⟩ := hx
                rw [B1.out]
                go_wp2_with fail
                refine (H2 _).out.mono ?_
                intro e w2 hx
                obtain ⟨rfl, rfl⟩ := hx
                rw [B2.out]
                go_wp2_with fail
                refine (H3 _).out.mono ?_
                intro e w2 hx
                obtain ⟨rfl, rfl⟩ := hx
                rw [B3.out]
                go_wp2_with fail
                refine (H4 _ x1).out.mono ?_
                intro e w2 hx
                obtain ⟨rfl, rfl⟩ := hx
                have e0 := (bW.ext (kindsW_ext W1)).cell 0
                simp only [List.getElem?_toArray, List.getElem?_cons_zero, List.getElem?_cons_succ] at e0
                go_wp2_with fail
                clear e0
                refine (HK W1).out.mono ?_
                intro e w2 hx
                obtain ⟨rfl, hW2⟩ := hx
                have x12 : Ext W1 w2 := by rw [← hW2]; exact kindsW_ext W1
                have x2 : Ext w w2 := x1.trans x12
                have bW2 := bW.ext x12
                have he2 := he.ext x2
                have g1 := he2.bound
                have g2 := he2.shape
                have g3 := he2.kind
                have g7 := he2.full
                have c0 := bW2.cell 0
                have c1 := bW2.cell 1
                have c2 := bW2.cell 2
                have c4 := bW2.cell 4
                simp only [List.getElem?_toArray, List.getElem?_cons_zero, List.getElem?_cons_succ] at c0 c1 c2 c4
                clear hW2 bW2 he2 bW H4 HK
                rw [B5.out]
                rw [B4.out]
                go_wp2
                go_ret
                refine ⟨?_, x2⟩
                rw [show Fr.code ⟨kind, fr, to, seq, nums⟩ = 8 by (show codeOf (decide (kind ∈ kinds)) (inB fr 5) (inB to 5) (inB seq 2147483648) (anyFar nums) (decide (fr = to)) (decide (200 < nums.length)) = 8; rw [B5.out, B1.out, B2.out, B3.out, B4.out, B6.out, B7.out]; rfl)]
                rfl
              · have B7 := hid (decide_eq_false h7)
                go_enter Tryd.func35, Tryd.ntmps35
                go_wp2_with fail
                rw [← HW1.out]
                go_wp2_with fail
                refine (H1 _).out.mono ?_
                intro e w2 hx
                obtain ⟨rfl, rfl⟩ := hx
                rw [B1.out]
                go_wp2_with fail
                refine (H2 _).out.mono ?_
                intro e w2 hx
                obtain ⟨rfl, rfl⟩ := hx
                rw [B2.out]
                go_wp2_with fail
                refine (H3 _).out.mono ?_
                intro e w2 hx
                obtain ⟨rfl, rfl⟩ := hx
                rw [B3.out]
                go_wp2_with fail
                refine (H4 _ x1).out.mono ?_
                intro e w2 hx
                obtain ⟨rfl, rfl⟩ := hx
                have e0 := (bW.ext (kindsW_ext W1)).cell 0
                simp only [List.getElem?_toArray, List.getElem?_cons_zero, List.getElem?_cons_succ] at e0
                go_wp2_with fail
                clear e0
                refine (HK W1).out.mono ?_
                intro e w2 hx
                obtain ⟨rfl, hW2⟩ := hx
                have x12 : Ext W1 w2 := by rw [← hW2]; exact kindsW_ext W1
                have x2 : Ext w w2 := x1.trans x12
                have bW2 := bW.ext x12
                have he2 := he.ext x2
                have g1 := he2.bound
                have g2 := he2.shape
                have g3 := he2.kind
                have g7 := he2.full
                have c0 := bW2.cell 0
                have c1 := bW2.cell 1
                have c2 := bW2.cell 2
                have c4 := bW2.cell 4
                simp only [List.getElem?_toArray, List.getElem?_cons_zero, List.getElem?_cons_succ] at c0 c1 c2 c4
                clear hW2 bW2 he2 bW H4 HK
                rw [B5.out]
                rw [B4.out]
                go_wp2
                go_ret
                refine ⟨?_, x2⟩
                rw [show Fr.code ⟨kind, fr, to, seq, nums⟩ = 0 by (show codeOf (decide (kind ∈ kinds)) (inB fr 5) (inB to 5) (inB seq 2147483648) (anyFar nums) (decide (fr = to)) (decide (200 < nums.length)) = 0; rw [B5.out, B1.out, B2.out, B3.out, B4.out, B6.out, B7.out]; rfl)]
                rfl
end Go.Proofs.YtkabgmohgjljkaaDoor


/- The frame: the reference's check is walked. -/
namespace Go.Proofs.YtkabgmohgjljkaaDoor
set_option linter.unusedSimpArgs false
set_option linter.unusedVariables false
open Go Go.RowKit

theorem inB_eq (n m : Int) : inB n m = !(decide (n < 0) || decide (m < n)) := by
  unfold inB
  by_cases h1 : 0 ≤ n <;> by_cases h2 : n ≤ m <;> simp [h1, h2] <;> omega
theorem kind_dec (k : UInt8) : decide (k ∈ kinds) = !(decide (¬ (k.toNat : Int) = 100) && decide (¬ (k.toNat : Int) = 101) && decide (¬ (k.toNat : Int) = 116) && decide (¬ (k.toNat : Int) = 97)) := by
  have h : ∀ j : UInt8, (k = j) ↔ ((k.toNat : Int) = (j.toNat : Int)) := fun j => ⟨fun h => by rw [h], fun h => UInt8.toNat_inj.1 (by omega)⟩
  simp [kinds, h]
  by_cases h1 : (k.toNat : Int) = 100 <;> by_cases h2 : (k.toNat : Int) = 101 <;> by_cases h3 : (k.toNat : Int) = 116 <;> by_cases h4 : (k.toNat : Int) = 97 <;> simp [h1, h2, h3, h4] <;> omega

theorem Fr.code_kind {f : Fr} (h : decide (f.kind ∈ kinds) = false) : f.code = 4 := by unfold Fr.code; rw [h]; rfl
theorem Fr.code_two {f : Fr} (hk : decide (f.kind ∈ kinds) = true) (h : f.fr < 0 ∨ 6 ≤ f.fr ∨ f.to < 0 ∨ 6 ≤ f.to ∨ f.seq < 0 ∨ 2147483648 < f.seq) : f.code = 2 := by
  unfold Fr.code
  rw [hk]
  cases h1 : inB f.fr 5 with
  | false => rfl
  | true =>
    cases h2 : inB f.to 5 with
    | false => rfl
    | true =>
      cases h3 : inB f.seq 2147483648 with
      | false => rfl
      | true =>
        exfalso
        simp [inB] at h1 h2 h3
        omega

theorem Fr.code_in {f : Fr} (hk : decide (f.kind ∈ kinds) = true) (h : ¬ (f.fr < 0 ∨ 6 ≤ f.fr ∨ f.to < 0 ∨ 6 ≤ f.to ∨ f.seq < 0 ∨ 2147483648 < f.seq)) : f.code = codeOf true true true true (anyFar f.nums) (decide (f.fr = f.to)) (decide (200 < f.nums.length)) := by
  have h1 : inB f.fr 5 = true := by simp [inB]; omega
  have h2 : inB f.to 5 = true := by simp [inB]; omega
  have h3 : inB f.seq 2147483648 = true := by simp [inB]; omega
  unfold Fr.code
  rw [hk, h1, h2, h3]
theorem anyFar_yes {nums : List Int} {k : Nat} (hk : k < nums.length) (h : nums.getD k 0 < 0 ∨ 2147483648 < nums.getD k 0) : anyFar nums = true := by
  refine List.any_eq_true.2 ⟨nums.getD k 0, ?_, ?_⟩
  · rw [List.getD_eq_getElem?_getD, List.getElem?_eq_getElem hk]; exact List.getElem_mem _
  · unfold farB; generalize nums.getD k 0 = v at *; simp; omega
theorem anyFar_no {nums : List Int} (h : ∀ j, j < nums.length → ¬ (nums.getD j 0 < 0 ∨ 2147483648 < nums.getD j 0)) : anyFar nums = false := by
  refine List.any_eq_false.2 fun v hv => ?_
  obtain ⟨j, hj, e⟩ := List.mem_iff_getElem.1 hv
  have h1 := h j hj
  rw [List.getD_eq_getElem?_getD, List.getElem?_eq_getElem hj, Option.getD_some, e] at h1
  simp [farB]; omega

set_option maxRecDepth 100000 in
set_option maxHeartbeats 12800000 in
theorem referror_in (kv : Int) (kind : UInt8) (hkv : (kind.toNat : Int) = kv) (hk4 : kv = 100 ∨ kv = 101 ∨ kv = 116 ∨ kv = 97) (fr to seq : Int) (nums : List Int) (a : Option Addr) (cap : Nat) (w : World) (hr : Ints w a nums.length nums) (hl : (nums.length : Int) ≤ 9223372036854775807) :
    Calls Tryd.prog 36 #[.agg #[.int .u8 kv, .int .i64 fr, .int .i64 to, .int .i64 seq, .slice a nums.length cap]] w fun e w' => e = .returned (.int .i64 ((Fr.code ⟨kind, fr, to, seq, nums⟩ : Nat) : Int)) ∧ Ext w w' := by
  have Hr := hid hr
  have Hk : Hid (decide (kind ∈ kinds) = true) := by
    refine hid ?_
    rw [kind_dec, hkv]
    rcases hk4 with rfl | rfl | rfl | rfl <;> rfl
  clear hr hkv
  have H2 := fun h => hid (Fr.code_two (f := ⟨kind, fr, to, seq, nums⟩) Hk.out h)
  simp only at H2
  rcases hk4 with rfl | rfl | rfl | rfl
  · go_enter Tryd.func36, Tryd.ntmps36
    go_wp2
    all_goals try (go_ret; exact ⟨by rw [(H2 (by omega)).out]; rfl, (Ext.refl w).alloc _⟩)
    obtain ⟨W1, hW1⟩ : ∃ W1, W1 = w.alloc (.cells #[.int .u8 100, .int .i64 fr, .int .i64 to, .int .i64 seq, .slice a nums.length cap] 45) := ⟨_, rfl⟩
    have x1 : Ext w W1 := by rw [hW1]; exact (Ext.refl w).alloc _
    have HC := hid (Fr.code_in (f := ⟨kind, fr, to, seq, nums⟩) Hk.out (by simp only; omega))
    have Hr1 := hid (Hr.out.ext x1)
    have bW : Blk W1 w.heap.size #[.int .u8 100, .int .i64 fr, .int .i64 to, .int .i64 seq, .slice a nums.length cap] 45 := by rw [hW1]; exact Blk.new _ _ _
    have d1 := bW.cell 1
    have d2 := bW.cell 2
    have d4 := bW.cell 4
    simp only [List.getElem?_toArray, List.getElem?_cons_zero, List.getElem?_cons_succ] at d1 d2 d4
    rw [← hW1]
    clear hW1 bW H2 Hr
    generalize w.heap.size = N at *
    go_loop [3] (fun t3 => ∃ k : Nat, t3 = .int .i64 (k : Int) ∧ k ≤ nums.length ∧ ∀ j, j < k → ¬ (nums.getD j 0 < 0 ∨ 2147483648 < nums.getD j 0)) (fun t3 => nums.length - (intOf t3).toNat)
    case atStart => exact ⟨0, rfl, Nat.zero_le _, fun j h => by omega⟩
    case round =>
      obtain ⟨k, rfl, hk, hne⟩ := hrel
      have Hne := hid hne
      clear hne
      by_cases hlt : k < nums.length
      · obtain ⟨x, rfl⟩ := Hr1.out.sm (by omega)
        have hc := Hr1.out.cl x rfl k hlt
        have HY := fun h => hid (anyFar_yes hlt h)
        obtain ⟨v, hv⟩ : ∃ v, v = nums.getD k 0 := ⟨_, rfl⟩
        rw [← hv] at hc HY
        have Hv := hid hv
        clear hv
        by_cases h1 : v < 0
        · go_wp2
          go_ret
          exact ⟨by rw [HC.out]; simp only; rw [(HY (by omega)).out]; rfl, x1⟩
        · by_cases h2 : 2147483648 < v
          · go_wp2
            go_ret
            exact ⟨by rw [HC.out]; simp only; rw [(HY (by omega)).out]; rfl, x1⟩
          · clear HY
            go_wp2
            refine ⟨⟨k + 1, by go_num, by omega, fun j hj => ?_⟩, by simp [intOf]; omega⟩
            by_cases hjk : j = k
            · subst hjk; rw [← Hv.out]; omega
            · exact Hne.out j (by omega)
      · obtain rfl : k = nums.length := by omega
        have HF := hid (anyFar_no Hne.out)
        clear Hne Hr1
        by_cases h6 : fr = to
        · subst h6
          have B6 := hid (decide_eq_true (rfl : fr = fr))
          go_wp2
          go_ret
          exact ⟨by rw [HC.out]; simp only; rw [HF.out, B6.out]; rfl, x1⟩
        · have B6 := hid (decide_eq_false h6)
          by_cases h7 : 200 < nums.length
          · have B7 := hid (decide_eq_true h7)
            go_wp2
            go_ret
            exact ⟨by rw [HC.out]; simp only; rw [HF.out, B6.out, B7.out]; rfl, x1⟩
          · have B7 := hid (decide_eq_false h7)
            go_wp2
            go_ret
            exact ⟨by rw [HC.out]; simp only; rw [HF.out, B6.out, B7.out]; rfl, x1⟩
  · go_enter Tryd.func36, Tryd.ntmps36
    go_wp2
    all_goals try (go_ret; exact ⟨by rw [(H2 (by omega)).out]; rfl, (Ext.refl w).alloc _⟩)
    obtain ⟨W1, hW1⟩ : ∃ W1, W1 = w.alloc (.cells #[.int .u8 101, .int .i64 fr, .int .i64 to, .int .i64 seq, .slice a nums.length cap] 45) := ⟨_, rfl⟩
    have x1 : Ext w W1 := by rw [hW1]; exact (Ext.refl w).alloc _
    have HC := hid (Fr.code_in (f := ⟨kind, fr, to, seq, nums⟩) Hk.out (by simp only; omega))
    have Hr1 := hid (Hr.out.ext x1)
    have bW : Blk W1 w.heap.size #[.int .u8 101, .int .i64 fr, .int .i64 to, .int .i64 seq, .slice a nums.length cap] 45 := by rw [hW1]; exact Blk.new _ _ _
    have d1 := bW.cell 1
    have d2 := bW.cell 2
    have d4 := bW.cell 4
    simp only [List.getElem?_toArray, List.getElem?_cons_zero, List.getElem?_cons_succ] at d1 d2 d4
    rw [← hW1]
    clear hW1 bW H2 Hr
    generalize w.heap.size = N at *
    go_loop [3] (fun t3 => ∃ k : Nat, t3 = .int .i64 (k : Int) ∧ k ≤ nums.length ∧ ∀ j, j < k → ¬ (nums.getD j 0 < 0 ∨ 2147483648 < nums.getD j 0)) (fun t3 => nums.length - (intOf t3).toNat)
    case atStart => exact ⟨0, rfl, Nat.zero_le _, fun j h => by omega⟩
    case round =>
      obtain ⟨k, rfl, hk, hne⟩ := hrel
      have Hne := hid hne
      clear hne
      by_cases hlt : k < nums.length
      · obtain ⟨x, rfl⟩ := Hr1.out.sm (by omega)
        have hc := Hr1.out.cl x rfl k hlt
        have HY := fun h => hid (anyFar_yes hlt h)
        obtain ⟨v, hv⟩ : ∃ v, v = nums.getD k 0 := ⟨_, rfl⟩
        rw [← hv] at hc HY
        have Hv := hid hv
        clear hv
        by_cases h1 : v < 0
        · go_wp2
          go_ret
          exact ⟨by rw [HC.out]; simp only; rw [(HY (by omega)).out]; rfl, x1⟩
        · by_cases h2 : 2147483648 < v
          · go_wp2
            go_ret
            exact ⟨by rw [HC.out]; simp only; rw [(HY (by omega)).out]; rfl, x1⟩
          · clear HY
            go_wp2
            refine ⟨⟨k + 1, by go_num, by omega, fun j hj => ?_⟩, by simp [intOf]; omega⟩
            by_cases hjk : j = k
            · subst hjk; rw [← Hv.out]; omega
            · exact Hne.out j (by omega)
      · obtain rfl : k = nums.length := by omega
        have HF := hid (anyFar_no Hne.out)
        clear Hne Hr1
        by_cases h6 : fr = to
        · subst h6
          have B6 := hid (decide_eq_true (rfl : fr = fr))
          go_wp2
          go_ret
          exact ⟨by rw [HC.out]; simp only; rw [HF.out, B6.out]; rfl, x1⟩
        · have B6 := hid (decide_eq_false h6)
          by_cases h7 : 200 < nums.length
          · have B7 := hid (decide_eq_true h7)
            go_wp2
            go_ret
            exact ⟨by rw [HC.out]; simp only; rw [HF.out, B6.out, B7.out]; rfl, x1⟩
          · have B7 := hid (decide_eq_false h7)
            go_wp2
            go_ret
            exact ⟨by rw [HC.out]; simp only; rw [HF.out, B6.out, B7.out]; rfl, x1⟩
  · go_enter Tryd.func36, Tryd.ntmps36
    go_wp2
    all_goals try (go_ret; exact ⟨by rw [(H2 (by omega)).out]; rfl, (Ext.refl w).alloc _⟩)
    obtain ⟨W1, hW1⟩ : ∃ W1, W1 = w.alloc (.cells #[.int .u8 116, .int .i64 fr, .int .i64 to, .int .i64 seq, .slice a nums.length cap] 45) := ⟨_, rfl⟩
    have x1 : Ext w W1 := by rw [hW1]; exact (Ext.refl w).alloc _
    have HC := hid (Fr.code_in (f := ⟨kind, fr, to, seq, nums⟩) Hk.out (by simp only; omega))
    have Hr1 := hid (Hr.out.ext x1)
    have bW : Blk W1 w.heap.size #[.int .u8 116, .int .i64 fr, .int .i64 to, .int .i64 seq, .slice a nums.length cap] 45 := by rw [hW1]; exact Blk.new _ _ _
    have d1 := bW.cell 1
    have d2 := bW.cell 2
    have d4 := bW.cell 4
    simp only [List.getElem?_toArray, List.getElem?_cons_zero, List.getElem?_cons_succ] at d1 d2 d4
    rw [← hW1]
    clear hW1 bW H2 Hr
    generalize w.heap.size = N at *
    go_loop [3] (fun t3 => ∃ k : Nat, t3 = .int .i64 (k : Int) ∧ k ≤ nums.length ∧ ∀ j, j < k → ¬ (nums.getD j 0 < 0 ∨ 2147483648 < nums.getD j 0)) (fun t3 => nums.length - (intOf t3).toNat)
    case atStart => exact ⟨0, rfl, Nat.zero_le _, fun j h => by omega⟩
    case round =>
      obtain ⟨k, rfl, hk, hne⟩ := hrel
      have Hne := hid hne
      clear hne
      by_cases hlt : k < nums.length
      · obtain ⟨x, rfl⟩ := Hr1.out.sm (by omega)
        have hc := Hr1.out.cl x rfl k hlt
        have HY := fun h => hid (anyFar_yes hlt h)
        obtain ⟨v, hv⟩ : ∃ v, v = nums.getD k 0 := ⟨_, rfl⟩
        rw [← hv] at hc HY
        have Hv := hid hv
        clear hv
        by_cases h1 : v < 0
        · go_wp2
          go_ret
          exact ⟨by rw [HC.out]; simp only; rw [(HY (by omega)).out]; rfl, x1⟩
        · by_cases h2 : 2147483648 < v
          · go_wp2
            go_ret
            exact ⟨by rw [HC.out]; simp only; rw [(HY (by omega)).out]; rfl, x1⟩
          · clear HY
            go_wp2
            refine ⟨⟨k + 1, by go_num, by omega, fun j hj => ?_⟩, by simp [intOf]; omega⟩
            by_cases hjk : j = k
            · subst hjk; rw [← Hv.out]; omega
            · exact Hne.out j (by omega)
      · obtain rfl : k = nums.length := by omega
        have HF := hid (anyFar_no Hne.out)
        clear Hne Hr1
        by_cases h6 : fr = to
        · subst h6
          have B6 := hid (decide_eq_true (rfl : fr = fr))
          go_wp2
          go_ret
          exact ⟨by rw [HC.out]; simp only; rw [HF.out, B6.out]; rfl, x1⟩
        · have B6 := hid (decide_eq_false h6)
          by_cases h7 : 200 < nums.length
          · have B7 := hid (decide_eq_true h7)
            go_wp2
            go_ret
            exact ⟨by rw [HC.out]; simp only; rw [HF.out, B6.out, B7.out]; rfl, x1⟩
          · have B7 := hid (decide_eq_false h7)
            go_wp2
            go_ret
            exact ⟨by rw [HC.out]; simp only; rw [HF.out, B6.out, B7.out]; rfl, x1⟩
  · go_enter Tryd.func36, Tryd.ntmps36
    go_wp2
    all_goals try (go_ret; exact ⟨by rw [(H2 (by omega)).out]; rfl, (Ext.refl w).alloc _⟩)
    obtain ⟨W1, hW1⟩ : ∃ W1, W1 = w.alloc (.cells #[.int .u8 97, .int .i64 fr, .int .i64 to, .int .i64 seq, .slice a nums.length cap] 45) := ⟨_, rfl⟩
    have x1 : Ext w W1 := by rw [hW1]; exact (Ext.refl w).alloc _
    have HC := hid (Fr.code_in (f := ⟨kind, fr, to, seq, nums⟩) Hk.out (by simp only; omega))
    have Hr1 := hid (Hr.out.ext x1)
    have bW : Blk W1 w.heap.size #[.int .u8 97, .int .i64 fr, .int .i64 to, .int .i64 seq, .slice a nums.length cap] 45 := by rw [hW1]; exact Blk.new _ _ _
    have d1 := bW.cell 1
    have d2 := bW.cell 2
    have d4 := bW.cell 4
    simp only [List.getElem?_toArray, List.getElem?_cons_zero, List.getElem?_cons_succ] at d1 d2 d4
    rw [← hW1]
    clear hW1 bW H2 Hr
    generalize w.heap.size = N at *
    go_loop [3] (fun t3 => ∃ k : Nat, t3 = .int .i64 (k : Int) ∧ k ≤ nums.length ∧ ∀ j, j < k → ¬ (nums.getD j 0 < 0 ∨ 2147483648 < nums.getD j 0)) (fun t3 => nums.length - (intOf t3).toNat)
    case atStart => exact ⟨0, rfl, Nat.zero_le _, fun j h => by omega⟩
    case round =>
      obtain ⟨k, rfl, hk, hne⟩ := hrel
      have Hne := hid hne
      clear hne
      by_cases hlt : k < nums.length
      · obtain ⟨x, rfl⟩ := Hr1.out.sm (by omega)
        have hc := Hr1.out.cl x rfl k hlt
        have HY := fun h => hid (anyFar_yes hlt h)
        obtain ⟨v, hv⟩ : ∃ v, v = nums.getD k 0 := ⟨_, rfl⟩
        rw [← hv] at hc HY
        have Hv := hid hv
        clear hv
        by_cases h1 : v < 0
        · go_wp2
          go_ret
          exact ⟨by rw [HC.out]; simp only; rw [(HY (by omega)).out]; rfl, x1⟩
        · by_cases h2 : 2147483648 < v
          · go_wp2
            go_ret
            exact ⟨by rw [HC.out]; simp only; rw [(HY (by omega)).out]; rfl, x1⟩
          · clear HY
            go_wp2
            refine ⟨⟨k + 1, by go_num, by omega, fun j hj => ?_⟩, by simp [intOf]; omega⟩
            by_cases hjk : j = k
            · subst hjk; rw [← Hv.out]; omega
            · exact Hne.out j (by omega)
      · obtain rfl : k = nums.length := by omega
        have HF := hid (anyFar_no Hne.out)
        clear Hne Hr1
        by_cases h6 : fr = to
        · subst h6
          have B6 := hid (decide_eq_true (rfl : fr = fr))
          go_wp2
          go_ret
          exact ⟨by rw [HC.out]; simp only; rw [HF.out, B6.out]; rfl, x1⟩
        · have B6 := hid (decide_eq_false h6)
          by_cases h7 : 200 < nums.length
          · have B7 := hid (decide_eq_true h7)
            go_wp2
            go_ret
            exact ⟨by rw [HC.out]; simp only; rw [HF.out, B6.out, B7.out]; rfl, x1⟩
          · have B7 := hid (decide_eq_false h7)
            go_wp2
            go_ret
            exact ⟨by rw [HC.out]; simp only; rw [HF.out, B6.out, B7.out]; rfl, x1⟩

set_option maxRecDepth 100000 in
set_option maxHeartbeats 1600000 in
theorem referror_any (f : Fr) (a : Option Addr) (cap : Nat) (w : World) (hr : Ints w a f.nums.length f.nums) (hl : (f.nums.length : Int) ≤ 9223372036854775807) :
    Calls Tryd.prog 36 #[frv f a cap] w fun e w' => e = .returned (.int .i64 (f.code : Int)) ∧ Ext w w' := by
  obtain ⟨kind, fr, to, seq, nums⟩ := f
  by_cases hk : (kind.toNat : Int) = 100 ∨ (kind.toNat : Int) = 101 ∨ (kind.toNat : Int) = 116 ∨ (kind.toNat : Int) = 97
  · exact referror_in _ kind rfl hk fr to seq nums a cap w hr hl
  · have hd : decide (kind ∈ kinds) = false := by
      rw [kind_dec]
      simp; omega
    have Hc := hid (Fr.code_kind (f := ⟨kind, fr, to, seq, nums⟩) hd)
    have k1 : ¬ (kind.toNat : Int) = 100 := by omega
    have k2 : ¬ (kind.toNat : Int) = 101 := by omega
    have k3 : ¬ (kind.toNat : Int) = 116 := by omega
    have k4 : ¬ (kind.toNat : Int) = 97 := by omega
    unfold frv
    simp only
    clear hk hd hr hl
    generalize (kind.toNat : Int) = kv at *
    have e1 : (kv != 100) = true := bne_iff_ne.2 k1
    have e2 : (kv != 101) = true := bne_iff_ne.2 k2
    have e3 : (kv != 116) = true := bne_iff_ne.2 k3
    have e4 : (kv != 97) = true := bne_iff_ne.2 k4
    go_enter Tryd.func36, Tryd.ntmps36
    go_wp2
    go_ret
    exact ⟨by rw [Hc.out]; rfl, (Ext.refl w).alloc _⟩
end Go.Proofs.YtkabgmohgjljkaaDoor


/- Slices that grow: append met inside a region whose order is drawn. -/
namespace Go.Proofs.YtkabgmohgjljkaaDoor
set_option linter.unusedSimpArgs false
set_option linter.unusedVariables false
open Go Go.RowKit

theorem grown_keep {w w' : World} {row : Option Nat} (h : w.grownBy w' row) : Keep (fun k => row = some k) w w' :=
  ⟨h.os, h.tape, h.output, h.size, fun k hk hx => h.block k hk fun e => hx e.symm⟩

section
variable {P : Program} {ops : Array Oper}
theorem does_of_run {o : Oper} {a : Act} {w w' : World} {v : Value} {R : Value → World → Prop} (hg : o.guard = none) (hr : (execOp a.eval o).run P w = .ok (.value v) w') (h : R v w') : does P ops o a w R := by
  unfold does
  rw [if_pos (by simp [Region.wanted, hg]), hr]
  exact h
theorem run_exec_append {o : Oper} {a : Act} {w w' : World} (s x : Operand) (t : TypeId) (ho : o.op = .call { callee := .builtin .append, args := #[s, x], argTypes := #[t, t] })
    {v1 v2 v : Value} (h1 : a.eval s = v1) (h2 : a.eval x = v2) (hr : (Builtin.append_ #[t, t] o.type #[v1, v2]).run P w = .ok v w') : (execOp a.eval o).run P w = .ok (.value v) w' := by
  unfold execOp
  simp only [ho, resolve, invoke, builtin, Sem.run_bind, Sem.run_pure, Result.andThen_ok, List.map_toArray, List.map_cons, List.map_nil, h1, h2, hr]

/-- append of m elements that lie at an address to a slice of the call's own. -/
theorem does_append {o : Oper} {a : Act} {w : World} {R : Value → World → Prop} (hg : o.guard = none) (s x : Operand) (t : TypeId)
    (ho : o.op = .call { callee := .builtin .append, args := #[s, x], argTypes := #[t, t] })
    (e : TypeId) (i : TypeInfo) (z : Value) (size bytes : Nat) (ht : P.underlying t = some (.slice e)) (hi : P.info? e = some i) (hz : i.zero = some z)
    (hsize : i.size = size) (hby : i.bytes = bytes) (hzs : z.cells.size = size) (hsz : 0 < size)
    (v : Value) (n : Nat) (xs : List Value) (hs : a.eval s = v) (hown : w.ownsRow 0 e size v n xs)
    (ad : Addr) (m c : Nat) (news : List Value) (hx : a.eval x = .slice (some ad) m c) (hl : news.length = m * size) (hnews : ∀ j u, news[j]? = some u → w.cell? (ad.add j) = some u) (h1 : ∀ u ∈ news, u.oneCell' = true)
    (h63 : n + m ≤ maxLen) (hbytes : (n + m) * bytes ≤ 140737488355328)
    (h : ∀ v' w', w'.ownsRow 0 e size v' (n + m) (xs ++ news) → Keep (fun k => v.ownBlock = some k) w w' → (∀ k, v'.ownBlock = some k → v.ownBlock = some k ∨ w.heap.size ≤ k) → R v' w') : does P ops o a w R := by
  obtain ⟨v', w', hr, h2, h3, h4⟩ := run_append_own (P := P) w 0 t o.type e i z size bytes ht hi hz hsize hby hzs hsz v n xs hown ad m c news hl hnews h1 h63 hbytes (Nat.zero_le _)
  refine does_of_run hg (run_exec_append s x t ho hs hx hr) (h v' w' h2 (grown_keep h3) ?_)
  -- the block: of old, or new
  intro k hk
  rcases Nat.lt_or_ge k w.heap.size with hlt | hge
  · refine .inl ?_
    subst hsize
    subst hby
    rcases hown.2 with ⟨rfl, rfl⟩ | ⟨g, cap, cur, rfl, _, hgg, hnc, hcm, hcs, htake⟩
    · by_cases hm : m = 0
      · rw [h4.2 ⟨rfl, hm⟩] at hk; exact hk
      · have hr2 := run_append_nil (P := P) w t o.type e i z ht hi hz ad m c news hl hnews (by omega) (by simp only [maxLen] at h63; omega) (by have hb := hbytes; simp only [Nat.zero_add] at hb; omega)
        rw [hr2] at hr
        simp only [Result.ok.injEq] at hr
        rw [← hr.1] at hk
        simp [Value.ownBlock] at hk
        omega
    · by_cases hroom : n + m ≤ cap
      · have hfit : n * i.size + news.length ≤ cur.size := by rw [hl, hcs, ← Nat.add_mul]; exact Nat.mul_le_mul_right _ hroom
        have hr2 := run_append_room (P := P) w t o.type e i ht hi g n cap cur hgg ad m c news hl hnews h1 hroom hfit
        rw [hr2] at hr
        simp only [Result.ok.injEq] at hr
        rw [← hr.1] at hk
        simpa [Value.ownBlock] using hk
      · have holds := hown.cells (g := g) rfl
        have hr2 := run_append_grow (P := P) w t o.type e i z ht hi hz ⟨g, 0, none⟩ n cap xs hown.1 holds ad m c news hl hnews (by omega) (by simp only [maxLen] at h63; omega) (growslice_fits (by omega) hbytes)
        rw [hr2] at hr
        simp only [Result.ok.injEq] at hr
        rw [← hr.1] at hk
        simp [Value.ownBlock] at hk
        omega
  · exact .inr hge

theorem setRow_blk {w : World} {g : Nat} {c : Array Value} {e : TypeId} (h : Blk w g c e) (c' : Array Value) : Blk (w.setRow g c') g c' e := setRow_heap w g c c' e (0, 0) h
theorem setRow_keep (w : World) (g : Nat) (c' : Array Value) : Keep (fun b => b = g) w (w.setRow g c') :=
  ⟨rfl, rfl, rfl, by simp, fun k _ hk => setRow_other w g k _ hk⟩

/-- append within the capacity, in place. -/
theorem does_append_room {o : Oper} {a : Act} {w : World} {R : Value → World → Prop} (hg : o.guard = none) (s x : Operand) (t : TypeId)
    (ho : o.op = .call { callee := .builtin .append, args := #[s, x], argTypes := #[t, t] })
    (e : TypeId) (i : TypeInfo) (ht : P.underlying t = some (.slice e)) (hi : P.info? e = some i) (g n cap : Nat) (cur : Array Value) (hb : Blk w g cur e) (hs : a.eval s = .slice (some ⟨g, 0, none⟩) n cap)
    (ad : Addr) (m c : Nat) (news : List Value) (hx : a.eval x = .slice (some ad) m c) (hl : news.length = m * i.size) (hnews : ∀ j u, news[j]? = some u → w.cell? (ad.add j) = some u) (h1 : ∀ u ∈ news, u.oneCell' = true)
    (hroom : n + m ≤ cap) (hfit : n * i.size + news.length ≤ cur.size)
    (h : R (.slice (some ⟨g, 0, none⟩) (n + m) cap) (w.setRow g (cur.toList.take (n * i.size) ++ news ++ cur.toList.drop (n * i.size + news.length)).toArray)) : does P ops o a w R :=
  does_of_run hg (run_exec_append s x t ho hs hx (run_append_room w t o.type e i ht hi g n cap cur hb ad m c news hl hnews h1 hroom hfit)) h

/-- clear of one. -/
theorem run_clear_one (w : World) (t ty e : TypeId) (i : TypeInfo) (z : Value) (ht : P.underlying t = some (.slice e)) (hi : P.info? e = some i) (hz : i.zero = some z) (hz1 : z.cells = #[z]) (hzo : z.oneCell' = true)
    (g off n cap : Nat) (hn : n = 1) (c : Array Value) (hb : Blk w g c e) (hlt : off < c.size) :
    (Builtin.clear_ #[t] ty #[.slice (some ⟨g, off, none⟩) n cap]).run P w = .ok (.tuple #[]) (w.setCell ⟨g, off, none⟩ z) := by
  subst hn
  have h0 : w.cell? ⟨g, off, none⟩ = some c[off] := by
    have := hb.cell off
    simpa [hlt] using this
  have h1 : w.frozen? ⟨g, off, none⟩ = false := hb.free off
  have h2 : (Builtin.zeroCells z.cells 1).toList = [z] := by rw [hz1]; simp [Builtin.zeroCells, List.ofFn_succ]
  simp [Builtin.clear_, run_underlying ht, zeroValue, typeInfo, hi, hz, h2, storeCells, run_store, hzo, h0, h1, Addr.add]

theorem run_exec_copy {o : Oper} {a : Act} {w w' : World} (s x : Operand) (t u : TypeId) (ho : o.op = .call { callee := .builtin .copy, args := #[s, x], argTypes := #[t, u] })
    {v1 v2 v : Value} (h1 : a.eval s = v1) (h2 : a.eval x = v2) (hr : (Builtin.copy_ #[t, u] o.type #[v1, v2]).run P w = .ok v w') : (execOp a.eval o).run P w = .ok (.value v) w' := by
  unfold execOp
  simp only [ho, resolve, invoke, builtin, Sem.run_bind, Sem.run_pure, Result.andThen_ok, List.map_toArray, List.map_cons, List.map_nil, h1, h2, hr]
/-- copy within one block or from another. -/
theorem does_copy {o : Oper} {a : Act} {w : World} {R : Value → World → Prop} (hg : o.guard = none) (s x : Operand) (t u : TypeId)
    (ho : o.op = .call { callee := .builtin .copy, args := #[s, x], argTypes := #[t, u] }) (e : TypeId) (ht : P.underlying t = some (.slice e)) (hsz : (P.info? e).map (·.size) = some 1)
    (g off dLen dCap : Nat) (cur : Array Value) (e' : TypeId) (hb : Blk w g cur e') (hd : a.eval s = .slice (some ⟨g, off, none⟩) dLen dCap) (ad : Addr) (sLen sCap : Nat) (cs : List Value) (hx : a.eval x = .slice (some ad) sLen sCap)
    (hn : cs.length = Nat.min sLen dLen) (hsrc : ∀ j v, cs[j]? = some v → w.cell? (ad.add j) = some v) (hfit : off + cs.length ≤ cur.size) (h1 : ∀ v ∈ cs, v.oneCell' = true)
    (h : R (goInt cs.length) (w.setRow g (cur.toList.take off ++ cs ++ cur.toList.drop (off + cs.length)).toArray)) : does P ops o a w R :=
  does_of_run hg (run_exec_copy s x t u ho hd hx (run_copy_row P w t u o.type e g off dLen dCap ad sLen sCap cur e' cs ht hsz hb hn hsrc hfit h1)) h
/-- copy in a sequence. -/
theorem wpList_copy {Q : Exit → Act → World → Prop} {rest : List Oper} {o : Oper} {a : Act} {w : World} (hg : o.guard = none) (s x : Operand) (t u : TypeId)
    (ho : o.op = .call { callee := .builtin .copy, args := #[s, x], argTypes := #[t, u] }) {v1 v2 v : Value} {w' : World} (h1 : a.eval s = v1) (h2 : a.eval x = v2) (hr : (Builtin.copy_ #[t, u] o.type #[v1, v2]).run P w = .ok v w')
    (h : wpList P ops Q rest (a.put o.dst v) w') : wpList P ops Q (o :: rest) a w := by
  refine wpList_plain hg fun K hK => ?_
  unfold Oper.wp
  rw [run_exec_copy s x t u ho h1 h2 hr]
  exact hK _ _ h
end
end Go.Proofs.YtkabgmohgjljkaaDoor


/- The frame: it is written. -/
namespace Go.Proofs.YtkabgmohgjljkaaDoor
set_option linter.unusedSimpArgs false
set_option linter.unusedVariables false
open Go Go.RowKit

/-- The body of a frame's text; the text. -/
def Fr.body (f : Fr) : List UInt8 := [f.kind, UInt8.ofNat f.fr.toNat, UInt8.ofNat f.to.toNat] ++ high4 f.seq.toNat ++ [UInt8.ofNat f.nums.length] ++ f.nums.flatMap fun n => high4 n.toNat
def Fr.text (f : Fr) : List UInt8 := f.body ++ low4 (crc f.body)

theorem bytes_info : (Tryd.prog.info? 5).map (fun i => (i.zero, i.size, i.bytes)) = some (some (.int .u8 0), 1, 1) := by kernel_rfl

/-- What a right frame's numbers are. -/
theorem Fr.code_zero {f : Fr} (h : f.code = 0) : f.kind ∈ kinds ∧ (0 ≤ f.fr ∧ f.fr ≤ 5) ∧ (0 ≤ f.to ∧ f.to ≤ 5) ∧ (0 ≤ f.seq ∧ f.seq ≤ 2147483648) ∧ anyFar f.nums = false ∧ f.fr ≠ f.to ∧ f.nums.length ≤ 200 := by
  unfold Fr.code at h
  have key : ∀ k b1 b2 b3 far same full, codeOf k b1 b2 b3 far same full = 0 → k = true ∧ b1 = true ∧ b2 = true ∧ b3 = true ∧ far = false ∧ same = false ∧ full = false := by
    intro k b1 b2 b3 far same full
    cases k <;> cases b1 <;> cases b2 <;> cases b3 <;> cases far <;> cases same <;> cases full <;> simp [codeOf]
  obtain ⟨h1, h2, h3, h4, h5, h6, h7⟩ := key _ _ _ _ _ _ _ h
  simp [inB] at h1 h2 h3 h4 h6 h7
  exact ⟨h1, h2, h3, h4, h5, h6, h7⟩
end Go.Proofs.YtkabgmohgjljkaaDoor


/- The frame, plainly: its text tells it; a text is a frame's or none. -/
namespace Go.Proofs.YtkabgmohgjljkaaDoor
set_option linter.unusedSimpArgs false
set_option linter.unusedVariables false
open Go Go.RowKit

theorem ofNat_inj {a b : Nat} (ha : a < 256) (hb : b < 256) (h : UInt8.ofNat a = UInt8.ofNat b) : a = b := by
  have := congrArg UInt8.toNat h
  simp only [UInt8.toNat_ofNat'] at this
  omega
theorem ofNat_byte (b : UInt8) : UInt8.ofNat b.toNat = b := by simp
theorem high4_inj {a b : Nat} (ha : a < 4294967296) (hb : b < 4294967296) (h : high4 a = high4 b) : a = b := by
  simp only [high4, List.cons.injEq, and_true] at h
  obtain ⟨h1, h2, h3, h4⟩ := h
  have g1 := congrArg UInt8.toNat h1
  have g2 := congrArg UInt8.toNat h2
  have g3 := congrArg UInt8.toNat h3
  have g4 := congrArg UInt8.toNat h4
  simp only [UInt8.toNat_ofNat'] at g1 g2 g3 g4
  omega
theorem high4_len (n : Nat) : (high4 n).length = 4 := rfl
theorem low4_len (n : Nat) : (low4 n).length = 4 := rfl
theorem num4_lt (a b c d : UInt8) : num4 a b c d < 4294967296 := by
  have h0 := byte_lt a
  have h1 := byte_lt b
  have h2 := byte_lt c
  have h3 := byte_lt d
  unfold num4; omega
theorem high4_num4 (a b c d : UInt8) : high4 (num4 a b c d) = [a, b, c, d] := by
  have h0 := byte_lt a
  have h1 := byte_lt b
  have h2 := byte_lt c
  have h3 := byte_lt d
  simp only [high4, num4, List.cons.injEq, and_true]
  refine ⟨?_, ?_, ?_, ?_⟩ <;> apply UInt8.toNat_inj.1 <;> simp only [UInt8.toNat_ofNat'] <;> omega
theorem num4_high4 (n : Nat) (hn : n < 4294967296) : num4 (UInt8.ofNat (n / 16777216)) (UInt8.ofNat (n / 65536)) (UInt8.ofNat (n / 256)) (UInt8.ofNat n) = n := by
  unfold num4
  simp only [UInt8.toNat_ofNat']
  omega
theorem text_7 (f : Fr) : f.text[7]? = some (UInt8.ofNat f.nums.length) := by
  simp [Fr.text, Fr.body, high4]

theorem flat_len (nums : List Int) : (nums.flatMap fun n => high4 n.toNat).length = 4 * nums.length := by
  induction nums with
  | nil => rfl
  | cons n l ih => simp only [List.flatMap_cons, List.length_append, ih, high4_len, List.length_cons]; omega
theorem Fr.body_len (f : Fr) : f.body.length = 8 + 4 * f.nums.length := by
  unfold Fr.body
  simp only [List.length_append, flat_len, high4_len, List.length_cons, List.length_nil]
theorem Fr.text_len (f : Fr) : f.text.length = 12 + 4 * f.nums.length := by
  unfold Fr.text
  rw [List.length_append, Fr.body_len, low4_len]; omega
theorem flat_inj : ∀ {l m : List Int}, (∀ n ∈ l, 0 ≤ n ∧ n ≤ 4294967295) → (∀ n ∈ m, 0 ≤ n ∧ n ≤ 4294967295) → l.length = m.length → (l.flatMap fun n => high4 n.toNat) = (m.flatMap fun n => high4 n.toNat) → l = m
  | [], [], _, _, _, _ => rfl
  | [], _ :: _, _, _, h, _ => by simp at h
  | _ :: _, [], _, _, h, _ => by simp at h
  | a :: l, b :: m, ha, hb, h, e => by
    simp only [List.flatMap_cons] at e
    obtain ⟨e1, e2⟩ := List.append_inj e (by rw [high4_len, high4_len])
    have h1 := ha a (by simp)
    have h2 := hb b (by simp)
    have h3 := high4_inj (by omega) (by omega) e1
    rw [flat_inj (fun n hn => ha n (by simp [hn])) (fun n hn => hb n (by simp [hn])) (by simpa using h) e2, show a = b by omega]
/-- All that a text can hold. -/
structure Fr.Fits (f : Fr) : Prop where
  fr : 0 ≤ f.fr ∧ f.fr ≤ 255
  to : 0 ≤ f.to ∧ f.to ≤ 255
  seq : 0 ≤ f.seq ∧ f.seq ≤ 4294967295
  nums : ∀ n ∈ f.nums, 0 ≤ n ∧ n ≤ 4294967295
theorem Fr.body_inj {f g : Fr} (hf : f.Fits) (hg : g.Fits) (hl : f.nums.length = g.nums.length) (h1 : f.body = g.body) : f = g := by
  obtain ⟨a1, a2, a3, a4⟩ := hf
  obtain ⟨b1, b2, b3, b4⟩ := hg
  obtain ⟨k, x, y, s, l⟩ := f
  obtain ⟨k', x', y', s', l'⟩ := g
  unfold Fr.body at h1
  simp only at *
  obtain ⟨h2, h3⟩ := List.append_inj h1 (by simp [high4_len])
  obtain ⟨h4, h5⟩ := List.append_inj h2 (by simp [high4_len])
  obtain ⟨h6, h7⟩ := List.append_inj h4 (by simp)
  simp only [List.cons.injEq, and_true] at h6
  obtain ⟨c1, c2, c3⟩ := h6
  have d2 := ofNat_inj (by omega) (by omega) c2
  have d3 := ofNat_inj (by omega) (by omega) c3
  have d4 := high4_inj (by omega) (by omega) h7
  have d5 := flat_inj a4 b4 hl h3
  clear h1 h2 h3 h4 h5 h7 a4 b4
  obtain rfl := c1
  obtain rfl : x = x' := by omega
  obtain rfl : y = y' := by omega
  obtain rfl : s = s' := by omega
  rw [d5]
theorem near_of {l : List Int} (h : anyFar l = false) : ∀ n ∈ l, 0 ≤ n ∧ n ≤ 2147483648 := by
  intro n hn
  have := List.any_eq_false.1 h n hn
  simpa [farB] using this
theorem Fr.fits_of {f : Fr} (h : f.code = 0) : f.Fits := by
  obtain ⟨a1, ⟨a2, a3⟩, ⟨a4, a5⟩, ⟨a6, a7⟩, a8, a9, a10⟩ := Fr.code_zero h
  exact ⟨by omega, by omega, by omega, fun n hn => by have := near_of a8 n hn; omega⟩
/-! ### what a text tells -/
def frOf (s : ByteArray) : Fr := ⟨at8 s 0, (at8 s 1).toNat, (at8 s 2).toNat, four s 3, (List.range (at8 s 7).toNat).map fun i => (four s (8 + 4 * i) : Int)⟩
def sumOk (s : ByteArray) : Bool := low4 (crc (s.data.toList.take (s.size - 4))) == s.data.toList.drop (s.size - 4)
def sizeOk (s : ByteArray) : Bool := decide (12 ≤ s.size) && decide (s.size = 12 + 4 * (at8 s 7).toNat)
/-- The error of a text. -/
def textCode (s : ByteArray) : Nat := if sizeOk s then (if sumOk s then (frOf s).code else 11) else 1

theorem take4 (L : List UInt8) (i : Nat) (h : i + 4 ≤ L.length) : L.take (i + 4) = L.take i ++ [L.getD i 0, L.getD (i + 1) 0, L.getD (i + 2) 0, L.getD (i + 3) 0] := by
  have g : ∀ k, k < L.length → L.take (k + 1) = L.take k ++ [L.getD k 0] := fun k hk => by
    rw [List.take_succ_eq_append_getElem hk, List.getD_eq_getElem?_getD, List.getElem?_eq_getElem hk]; rfl
  rw [g (i + 3) (by omega), g (i + 2) (by omega), g (i + 1) (by omega), g i (by omega)]
  simp
theorem chunks (s : ByteArray) : ∀ n, 8 + 4 * n ≤ s.size → s.data.toList.take (8 + 4 * n) = s.data.toList.take 8 ++ (((List.range n).map fun i => (four s (8 + 4 * i) : Int)).flatMap fun n => high4 n.toNat)
  | 0, _ => by simp
  | n + 1, h => by
    have hl : s.data.toList.length = s.size := by simp
    rw [show 8 + 4 * (n + 1) = (8 + 4 * n) + 4 by omega, take4 _ _ (by rw [hl]; omega), chunks s n (by omega), List.range_succ, List.map_append, List.flatMap_append, List.append_assoc]
    congr 2
    simp only [List.map_cons, List.map_nil, List.flatMap_cons, List.flatMap_nil, List.append_nil, Int.toNat_natCast]
    rw [four, high4_num4]
    rfl
theorem frOf_body {s : ByteArray} (h : sizeOk s = true) : (frOf s).body = s.data.toList.take (s.size - 4) := by
  simp only [sizeOk, Bool.and_eq_true, decide_eq_true_eq] at h
  obtain ⟨h1, h2⟩ := h
  have hl : s.data.toList.length = s.size := by simp
  rw [show s.size - 4 = 8 + 4 * (at8 s 7).toNat by omega, chunks s _ (by omega)]
  unfold Fr.body frOf
  simp only [List.length_map, List.length_range, Int.toNat_natCast, ofNat_byte]
  rw [four, high4_num4, take4 _ 4 (by rw [hl]; omega), show (4 : Nat) = 0 + 4 from rfl, take4 _ 0 (by rw [hl]; omega)]
  simp [at8]
theorem frOf_text {s : ByteArray} (h : sizeOk s = true) (h2 : sumOk s = true) : (frOf s).text = s.data.toList := by
  unfold Fr.text
  rw [frOf_body h, eq_of_beq h2, List.take_append_drop]

theorem frOf_fits (s : ByteArray) : (frOf s).Fits := by
  have q1 := byte_lt (at8 s 1)
  have q2 := byte_lt (at8 s 2)
  have q3 : ∀ i, four s i < 4294967296 := fun i => num4_lt _ _ _ _
  refine ⟨?_, ?_, ?_, fun n hn => ?_⟩
  · simp only [frOf]; omega
  · simp only [frOf]; omega
  · have := q3 3; simp only [frOf]; omega
  · simp only [frOf, List.mem_map, List.mem_range] at hn
    obtain ⟨i, _, rfl⟩ := hn
    have := q3 (8 + 4 * i)
    omega
/-- A right frame's text is read as it was written. -/
theorem Fr.of_text {f : Fr} (hf : f.code = 0) (s : ByteArray) (hs : s.data.toList = f.text) : sizeOk s = true ∧ sumOk s = true ∧ frOf s = f := by
  obtain ⟨a1, ⟨a2, a3⟩, ⟨a4, a5⟩, ⟨a6, a7⟩, a8, a9, a10⟩ := Fr.code_zero hf
  have hsz : s.size = 12 + 4 * f.nums.length := by
    rw [← Fr.text_len f, ← hs]; simp
  have h7 : at8 s 7 = UInt8.ofNat f.nums.length := by
    unfold at8; rw [hs, List.getD_eq_getElem?_getD, text_7]; rfl
  have h7n : (at8 s 7).toNat = f.nums.length := by
    rw [h7]; simp only [UInt8.toNat_ofNat']; omega
  have hok : sizeOk s = true := by
    simp only [sizeOk, Bool.and_eq_true, decide_eq_true_eq]; omega
  have hb : s.data.toList.take (s.size - 4) = f.body := by
    rw [hs, Fr.text, List.take_append_of_le_length (by rw [Fr.body_len]; omega), List.take_of_length_le (by rw [Fr.body_len]; omega)]
  have hd : s.data.toList.drop (s.size - 4) = low4 (crc f.body) := by
    rw [hs, Fr.text, show s.size - 4 = f.body.length by rw [Fr.body_len]; omega, List.drop_left]
  have hsum : sumOk s = true := by
    unfold sumOk; rw [hb, hd]; simp
  refine ⟨hok, hsum, Fr.body_inj (frOf_fits s) (Fr.fits_of hf) ?_ ((frOf_body hok).trans hb)⟩
  simp only [frOf, List.length_map, List.length_range, h7n]
end Go.Proofs.YtkabgmohgjljkaaDoor


/- Slices that grow, all of one's own: nothing of old is written. -/
namespace Go.Proofs.YtkabgmohgjljkaaDoor
set_option linter.unusedSimpArgs false
set_option linter.unusedVariables false
open Go Go.RowKit
section
variable {P : Program} {ops : Array Oper}
theorem grown_ext {w0 w w' : World} {e : TypeId} {size : Nat} {v : Value} {n : Nat} {xs : List Value} (hx : Ext w0 w) (hown : w.ownsRow w0.heap.size e size v n xs) (hg : w.grownBy w' v.ownBlock) : Ext w0 w' :=
  Keep.new hx (grown_keep hg) fun k hk => (hown.lt k hk).1
/-- append of m elements that lie at an address to a slice of the call's own. -/
theorem does_append0 {o : Oper} {a : Act} {w0 w : World} {R : Value → World → Prop} (hx0 : Ext w0 w) (hg : o.guard = none) (s x : Operand) (t : TypeId)
    (ho : o.op = .call { callee := .builtin .append, args := #[s, x], argTypes := #[t, t] })
    (e : TypeId) (i : TypeInfo) (z : Value) (size bytes : Nat) (ht : P.underlying t = some (.slice e)) (hi : P.info? e = some i) (hz : i.zero = some z)
    (hsize : i.size = size) (hby : i.bytes = bytes) (hzs : z.cells.size = size) (hsz : 0 < size)
    (v : Value) (n : Nat) (xs : List Value) (hs : a.eval s = v) (hown : w.ownsRow w0.heap.size e size v n xs)
    (ad : Addr) (m c : Nat) (news : List Value) (hx : a.eval x = .slice (some ad) m c) (hl : news.length = m * size) (hnews : ∀ j u, news[j]? = some u → w.cell? (ad.add j) = some u) (h1 : ∀ u ∈ news, u.oneCell' = true)
    (h63 : n + m ≤ maxLen) (hbytes : (n + m) * bytes ≤ 140737488355328)
    (h : ∀ v' w', w'.ownsRow w0.heap.size e size v' (n + m) (xs ++ news) → Ext w0 w' → R v' w') : does P ops o a w R := by
  obtain ⟨v', w', hr, h2, h3, h4⟩ := run_append_own (P := P) w w0.heap.size t o.type e i z size bytes ht hi hz hsize hby hzs hsz v n xs hown ad m c news hl hnews h1 h63 hbytes hx0.size
  exact does_of_run hg (run_exec_append s x t ho hs hx hr) (h v' w' h2 (grown_ext hx0 hown h3))
end
end Go.Proofs.YtkabgmohgjljkaaDoor
