
/- The frame: the reference's check is walked. -/
import Derived.Test.YtcfopaopcbjkeaaDoorF4
namespace Go.Proofs.YtcfopaopcbjkeaaDoor
set_option linter.unusedSimpArgs false
set_option linter.unusedVariables false
open Go Go.RowKit

theorem inB_eq (n m : Int) : inB n m = !(decide (n < 0) || decide (m < n)) := by
  unfold inB
  by_cases h1 : 0 ≤ n <;> by_cases h2 : n ≤ m <;> simp [h1, h2] <;> omega
theorem kind_dec (k : UInt8) : decide (k ∈ kinds) = !(decide (¬ (k.toNat : Int) = 100) && decide (¬ (k.toNat : Int) = 101) && decide (¬ (k.toNat : Int) = 116) && decide (¬ (k.toNat : Int) = 97)) := by
  have h : ∀ j : UInt8, (k = j) ↔ ((k.toNat : Int) = (j.toNat : Int)) := fun j => ⟨fun h => by rw [h], fun h => UInt8.toNat_inj.1 (by omega)⟩
  simp [kinds, h]
  by_cases h1 : (k.toNat : Int) = 100 <;> by_cases h2 : (k.toNat : Int) = 101 <;> by_cases h3 : (k.toNat : Int) = 116 <;> by_cases h4 : (k.toNat : Int) = 97 <;> simp [h1, h2, h3, h4] <;> omega

theorem Fr.code_kind {f : Fr} (h : decide (f.kind ∈ kinds) = false) : f.code = 4 := by unfold Fr.code; rw [h]; rfl
theorem Fr.code_two {f : Fr} (hk : decide (f.kind ∈ kinds) = true) (h : f.fr < 0 ∨ 6 ≤ f.fr ∨ f.to < 0 ∨ 6 ≤ f.to ∨ f.seq < 0 ∨ 2147483648 < f.seq) : f.code = 2 := by
  unfold Fr.code
  rw [hk]
  cases h1 : inB f.fr 5 with
  | false => rfl
  | true =>
    cases h2 : inB f.to 5 with
    | false => rfl
    | true =>
      cases h3 : inB f.seq 2147483648 with
      | false => rfl
      | true =>
        exfalso
        simp [inB] at h1 h2 h3
        omega

theorem Fr.code_in {f : Fr} (hk : decide (f.kind ∈ kinds) = true) (h : ¬ (f.fr < 0 ∨ 6 ≤ f.fr ∨ f.to < 0 ∨ 6 ≤ f.to ∨ f.seq < 0 ∨ 2147483648 < f.seq)) : f.code = codeOf true true true true (anyFar f.nums) (decide (f.fr = f.to)) (decide (200 < f.nums.length)) := by
  have h1 : inB f.fr 5 = true := by simp [inB]; omega
  have h2 : inB f.to 5 = true := by simp [inB]; omega
  have h3 : inB f.seq 2147483648 = true := by simp [inB]; omega
  unfold Fr.code
  rw [hk, h1, h2, h3]
theorem anyFar_yes {nums : List Int} {k : Nat} (hk : k < nums.length) (h : nums.getD k 0 < 0 ∨ 2147483648 < nums.getD k 0) : anyFar nums = true := by
  refine List.any_eq_true.2 ⟨nums.getD k 0, ?_, ?_⟩
  · rw [List.getD_eq_getElem?_getD, List.getElem?_eq_getElem hk]; exact List.getElem_mem _
  · unfold farB; generalize nums.getD k 0 = v at *; simp; omega
theorem anyFar_no {nums : List Int} (h : ∀ j, j < nums.length → ¬ (nums.getD j 0 < 0 ∨ 2147483648 < nums.getD j 0)) : anyFar nums = false := by
  refine List.any_eq_false.2 fun v hv => ?_
  obtain ⟨j, hj, e⟩ := List.mem_iff_getElem.1 hv
  have h1 := h j hj
  rw [List.getD_eq_getElem?_getD, List.getElem?_eq_getElem hj, Option.getD_some, e] at h1
  simp [farB]; omega

set_option maxRecDepth 100000 in
set_option maxHeartbeats 12800000 in
theorem referror_in (kv : Int) (kind : UInt8) (hkv : (kind.toNat : Int) = kv) (hk4 : kv = 100 ∨ kv = 101 ∨ kv = 116 ∨ kv = 97) (fr to seq : Int) (nums : List Int) (a : Option Addr) (cap : Nat) (w : World) (hr : Ints w a nums.length nums) (hl : (nums.length : Int) ≤ 9223372036854775807) :
    Calls Tryd.prog 58 #[.agg #[.int .u8 kv, .int .i64 fr, .int .i64 to, .int .i64 seq, .slice a nums.length cap]] w fun e w' => e = .returned (.int .i64 ((Fr.code ⟨kind, fr, to, seq, nums⟩ : Nat) : Int)) ∧ Ext w w' := by
  have Hr := hid hr
  have Hk : Hid (decide (kind ∈ kinds) = true) := by
    refine hid ?_
    rw [kind_dec, hkv]
    rcases hk4 with rfl | rfl | rfl | rfl <;> rfl
  clear hr hkv
  have H2 := fun h => hid (Fr.code_two (f := ⟨kind, fr, to, seq, nums⟩) Hk.out h)
  simp only at H2
  rcases hk4 with rfl | rfl | rfl | rfl
  · go_enter Tryd.func58, Tryd.ntmps58
    go_wp2
    all_goals try (go_ret; exact ⟨by rw [(H2 (by omega)).out]; rfl, (Ext.refl w).alloc _⟩)
    obtain ⟨W1, hW1⟩ : ∃ W1, W1 = w.alloc (.cells #[.int .u8 100, .int .i64 fr, .int .i64 to, .int .i64 seq, .slice a nums.length cap] 73) := ⟨_, rfl⟩
    have x1 : Ext w W1 := by rw [hW1]; exact (Ext.refl w).alloc _
    have HC := hid (Fr.code_in (f := ⟨kind, fr, to, seq, nums⟩) Hk.out (by simp only; omega))
    have Hr1 := hid (Hr.out.ext x1)
    have bW : Blk W1 w.heap.size #[.int .u8 100, .int .i64 fr, .int .i64 to, .int .i64 seq, .slice a nums.length cap] 73 := by rw [hW1]; exact Blk.new _ _ _
    have d1 := bW.cell 1
    have d2 := bW.cell 2
    have d4 := bW.cell 4
    simp only [List.getElem?_toArray, List.getElem?_cons_zero, List.getElem?_cons_succ] at d1 d2 d4
    rw [← hW1]
    clear hW1 bW H2 Hr
    generalize w.heap.size = N at *
    go_loop [3] (fun t3 => ∃ k : Nat, t3 = .int .i64 (k : Int) ∧ k ≤ nums.length ∧ ∀ j, j < k → ¬ (nums.getD j 0 < 0 ∨ 2147483648 < nums.getD j 0)) (fun t3 => nums.length - (intOf t3).toNat)
    case atStart => exact ⟨0, rfl, Nat.zero_le _, fun j h => by omega⟩
    case round =>
      obtain ⟨k, rfl, hk, hne⟩ := hrel
      have Hne := hid hne
      clear hne
      by_cases hlt : k < nums.length
      · obtain ⟨x, rfl⟩ := Hr1.out.sm (by omega)
        have hc := Hr1.out.cl x rfl k hlt
        have HY := fun h => hid (anyFar_yes hlt h)
        obtain ⟨v, hv⟩ : ∃ v, v = nums.getD k 0 := ⟨_, rfl⟩
        rw [← hv] at hc HY
        have Hv := hid hv
        clear hv
        by_cases h1 : v < 0
        · go_wp2
          go_ret
          exact ⟨by rw [HC.out]; simp only; rw [(HY (by omega)).out]; rfl, x1⟩
        · by_cases h2 : 2147483648 < v
          · go_wp2
            go_ret
            exact ⟨by rw [HC.out]; simp only; rw [(HY (by omega)).out]; rfl, x1⟩
          · clear HY
            go_wp2
            refine ⟨⟨k + 1, by go_num, by omega, fun j hj => ?_⟩, by simp [intOf]; omega⟩
            by_cases hjk : j = k
            · subst hjk; rw [← Hv.out]; omega
            · exact Hne.out j (by omega)
      · obtain rfl : k = nums.length := by omega
        have HF := hid (anyFar_no Hne.out)
        clear Hne Hr1
        by_cases h6 : fr = to
        · subst h6
          have B6 := hid (decide_eq_true (rfl : fr = fr))
          go_wp2
          go_ret
          exact ⟨by rw [HC.out]; simp only; rw [HF.out, B6.out]; rfl, x1⟩
        · have B6 := hid (decide_eq_false h6)
          by_cases h7 : 200 < nums.length
          · have B7 := hid (decide_eq_true h7)
            go_wp2
            go_ret
            exact ⟨by rw [HC.out]; simp only; rw [HF.out, B6.out, B7.out]; rfl, x1⟩
          · have B7 := hid (decide_eq_false h7)
            go_wp2
            go_ret
            exact ⟨by rw [HC.out]; simp only; rw [HF.out, B6.out, B7.out]; rfl, x1⟩
  · go_enter Tryd.func58, Tryd.ntmps58
    go_wp2
    all_goals try (go_ret; exact ⟨by rw [(H2 (by omega)).out]; rfl, (Ext.refl w).alloc _⟩)
    obtain ⟨W1, hW1⟩ : ∃ W1, W1 = w.alloc (.cells #[.int .u8 101, .int .i64 fr, .int .i64 to, .int .i64 seq, .slice a nums.length cap] 73) := ⟨_, rfl⟩
    have x1 : Ext w W1 := by rw [hW1]; exact (Ext.refl w).alloc _
    have HC := hid (Fr.code_in (f := ⟨kind, fr, to, seq, nums⟩) Hk.out (by simp only; omega))
    have Hr1 := hid (Hr.out.ext x1)
    have bW : Blk W1 w.heap.size #[.int .u8 101, .int .i64 fr, .int .i64 to, .int .i64 seq, .slice a nums.length cap] 73 := by rw [hW1]; exact Blk.new _ _ _
    have d1 := bW.cell 1
    have d2 := bW.cell 2
    have d4 := bW.cell 4
    simp only [List.getElem?_toArray, List.getElem?_cons_zero, List.getElem?_cons_succ] at d1 d2 d4
    rw [← hW1]
    clear hW1 bW H2 Hr
    generalize w.heap.size = N at *
    go_loop [3] (fun t3 => ∃ k : Nat, t3 = .int .i64 (k : Int) ∧ k ≤ nums.length ∧ ∀ j, j < k → ¬ (nums.getD j 0 < 0 ∨ 2147483648 < nums.getD j 0)) (fun t3 => nums.length - (intOf t3).toNat)
    case atStart => exact ⟨0, rfl, Nat.zero_le _, fun j h => by omega⟩
    case round =>
      obtain ⟨k, rfl, hk, hne⟩ := hrel
      have Hne := hid hne
      clear hne
      by_cases hlt : k < nums.length
      · obtain ⟨x, rfl⟩ := Hr1.out.sm (by omega)
        have hc := Hr1.out.cl x rfl k hlt
        have HY := fun h => hid (anyFar_yes hlt h)
        obtain ⟨v, hv⟩ : ∃ v, v = nums.getD k 0 := ⟨_, rfl⟩
        rw [← hv] at hc HY
        have Hv := hid hv
        clear hv
        by_cases h1 : v < 0
        · go_wp2
          go_ret
          exact ⟨by rw [HC.out]; simp only; rw [(HY (by omega)).out]; rfl, x1⟩
        · by_cases h2 : 2147483648 < v
          · go_wp2
            go_ret
            exact ⟨by rw [HC.out]; simp only; rw [(HY (by omega)).out]; rfl, x1⟩
          · clear HY
            go_wp2
            refine ⟨⟨k + 1, by go_num, by omega, fun j hj => ?_⟩, by simp [intOf]; omega⟩
            by_cases hjk : j = k
            · subst hjk; rw [← Hv.out]; omega
            · exact Hne.out j (by omega)
      · obtain rfl : k = nums.length := by omega
        have HF := hid (anyFar_no Hne.out)
        clear Hne Hr1
        by_cases h6 : fr = to
        · subst h6
          have B6 := hid (decide_eq_true (rfl : fr = fr))
          go_wp2
          go_ret
          exact ⟨by rw [HC.out]; simp only; rw [HF.out, B6.out]; rfl, x1⟩
        · have B6 := hid (decide_eq_false h6)
          by_cases h7 : 200 < nums.length
          · have B7 := hid (decide_eq_true h7)
            go_wp2
            go_ret
            exact ⟨by rw [HC.out]; simp only; rw [HF.out, B6.out, B7.out]; rfl, x1⟩
          · have B7 := hid (decide_eq_false h7)
            go_wp2
            go_ret
            exact ⟨by rw [HC.out]; simp only; rw [HF.out, B6.out, B7.out]; rfl, x1⟩
  · go_enter Tryd.func58, Tryd.ntmps58
    go_wp2
    all_goals try (go_ret; exact ⟨by rw [(H2 (by omega)).out]; rfl, (Ext.refl w).alloc _⟩)
    obtain ⟨W1, hW1⟩ : ∃ W1, W1 = w.alloc (.cells #[.int .u8 116, .int .i64 fr, .int .i64 to, .int .i64 seq, .slice a nums.length cap] 73) := ⟨_, rfl⟩
    have x1 : Ext w W1 := by rw [hW1]; exact (Ext.refl w).alloc _
    have HC := hid (Fr.code_in (f := ⟨kind, fr, to, seq, nums⟩) Hk.out (by simp only; omega))
    have Hr1 := hid (Hr.out.ext x1)
    have bW : Blk W1 w.heap.size #[.int .u8 116, .int .i64 fr, .int .i64 to, .int .i64 seq, .slice a nums.length cap] 73 := by rw [hW1]; exact Blk.new _ _ _
    have d1 := bW.cell 1
    have d2 := bW.cell 2
    have d4 := bW.cell 4
    simp only [List.getElem?_toArray, List.getElem?_cons_zero, List.getElem?_cons_succ] at d1 d2 d4
    rw [← hW1]
    clear hW1 bW H2 Hr
    generalize w.heap.size = N at *
    go_loop [3] (fun t3 => ∃ k : Nat, t3 = .int .i64 (k : Int) ∧ k ≤ nums.length ∧ ∀ j, j < k → ¬ (nums.getD j 0 < 0 ∨ 2147483648 < nums.getD j 0)) (fun t3 => nums.length - (intOf t3).toNat)
    case atStart => exact ⟨0, rfl, Nat.zero_le _, fun j h => by omega⟩
    case round =>
      obtain ⟨k, rfl, hk, hne⟩ := hrel
      have Hne := hid hne
      clear hne
      by_cases hlt : k < nums.length
      · obtain ⟨x, rfl⟩ := Hr1.out.sm (by omega)
        have hc := Hr1.out.cl x rfl k hlt
        have HY := fun h => hid (anyFar_yes hlt h)
        obtain ⟨v, hv⟩ : ∃ v, v = nums.getD k 0 := ⟨_, rfl⟩
        rw [← hv] at hc HY
        have Hv := hid hv
        clear hv
        by_cases h1 : v < 0
        · go_wp2
          go_ret
          exact ⟨by rw [HC.out]; simp only; rw [(HY (by omega)).out]; rfl, x1⟩
        · by_cases h2 : 2147483648 < v
          · go_wp2
            go_ret
            exact ⟨by rw [HC.out]; simp only; rw [(HY (by omega)).out]; rfl, x1⟩
          · clear HY
            go_wp2
            refine ⟨⟨k + 1, by go_num, by omega, fun j hj => ?_⟩, by simp [intOf]; omega⟩
            by_cases hjk : j = k
            · subst hjk; rw [← Hv.out]; omega
            · exact Hne.out j (by omega)
      · obtain rfl : k = nums.length := by omega
        have HF := hid (anyFar_no Hne.out)
        clear Hne Hr1
        by_cases h6 : fr = to
        · subst h6
          have B6 := hid (decide_eq_true (rfl : fr = fr))
          go_wp2
          go_ret
          exact ⟨by rw [HC.out]; simp only; rw [HF.out, B6.out]; rfl, x1⟩
        · have B6 := hid (decide_eq_false h6)
          by_cases h7 : 200 < nums.length
          · have B7 := hid (decide_eq_true h7)
            go_wp2
            go_ret
            exact ⟨by rw [HC.out]; simp only; rw [HF.out, B6.out, B7.out]; rfl, x1⟩
          · have B7 := hid (decide_eq_false h7)
            go_wp2
            go_ret
            exact ⟨by rw [HC.out]; simp only; rw [HF.out, B6.out, B7.out]; rfl, x1⟩
  · go_enter Tryd.func58, Tryd.ntmps58
    go_wp2
    all_goals try (go_ret; exact ⟨by rw [(H2 (by omega)).out]; rfl, (Ext.refl w).alloc _⟩)
    obtain ⟨W1, hW1⟩ : ∃ W1, W1 = w.alloc (.cells #[.int .u8 97, .int .i64 fr, .int .i64 to, .int .i64 seq, .slice a nums.length cap] 73) := ⟨_, rfl⟩
    have x1 : Ext w W1 := by rw [hW1]; exact (Ext.refl w).alloc _
    have HC := hid (Fr.code_in (f := ⟨kind, fr, to, seq, nums⟩) Hk.out (by simp only; omega))
    have Hr1 := hid (Hr.out.ext x1)
    have bW : Blk W1 w.heap.size #[.int .u8 97, .int .i64 fr, .int .i64 to, .int .i64 seq, .slice a nums.length cap] 73 := by rw [hW1]; exact Blk.new _ _ _
    have d1 := bW.cell 1
    have d2 := bW.cell 2
    have d4 := bW.cell 4
    simp only [List.getElem?_toArray, List.getElem?_cons_zero, List.getElem?_cons_succ] at d1 d2 d4
    rw [← hW1]
    clear hW1 bW H2 Hr
    generalize w.heap.size = N at *
    go_loop [3] (fun t3 => ∃ k : Nat, t3 = .int .i64 (k : Int) ∧ k ≤ nums.length ∧ ∀ j, j < k → ¬ (nums.getD j 0 < 0 ∨ 2147483648 < nums.getD j 0)) (fun t3 => nums.length - (intOf t3).toNat)
    case atStart => exact ⟨0, rfl, Nat.zero_le _, fun j h => by omega⟩
    case round =>
      obtain ⟨k, rfl, hk, hne⟩ := hrel
      have Hne := hid hne
      clear hne
      by_cases hlt : k < nums.length
      · obtain ⟨x, rfl⟩ := Hr1.out.sm (by omega)
        have hc := Hr1.out.cl x rfl k hlt
        have HY := fun h => hid (anyFar_yes hlt h)
        obtain ⟨v, hv⟩ : ∃ v, v = nums.getD k 0 := ⟨_, rfl⟩
        rw [← hv] at hc HY
        have Hv := hid hv
        clear hv
        by_cases h1 : v < 0
        · go_wp2
          go_ret
          exact ⟨by rw [HC.out]; simp only; rw [(HY (by omega)).out]; rfl, x1⟩
        · by_cases h2 : 2147483648 < v
          · go_wp2
            go_ret
            exact ⟨by rw [HC.out]; simp only; rw [(HY (by omega)).out]; rfl, x1⟩
          · clear HY
            go_wp2
            refine ⟨⟨k + 1, by go_num, by omega, fun j hj => ?_⟩, by simp [intOf]; omega⟩
            by_cases hjk : j = k
            · subst hjk; rw [← Hv.out]; omega
            · exact Hne.out j (by omega)
      · obtain rfl : k = nums.length := by omega
        have HF := hid (anyFar_no Hne.out)
        clear Hne Hr1
        by_cases h6 : fr = to
        · subst h6
          have B6 := hid (decide_eq_true (rfl : fr = fr))
          go_wp2
          go_ret
          exact ⟨by rw [HC.out]; simp only; rw [HF.out, B6.out]; rfl, x1⟩
        · have B6 := hid (decide_eq_false h6)
          by_cases h7 : 200 < nums.length
          · have B7 := hid (decide_eq_true h7)
            go_wp2
            go_ret
            exact ⟨by rw [HC.out]; simp only; rw [HF.out, B6.out, B7.out]; rfl, x1⟩
          · have B7 := hid (decide_eq_false h7)
            go_wp2
            go_ret
            exact ⟨by rw [HC.out]; simp only; rw [HF.out, B6.out, B7.out]; rfl, x1⟩

set_option maxRecDepth 100000 in
set_option maxHeartbeats 1600000 in
theorem referror_any (f : Fr) (a : Option Addr) (cap : Nat) (w : World) (hr : Ints w a f.nums.length f.nums) (hl : (f.nums.length : Int) ≤ 9223372036854775807) :
    Calls Tryd.prog 58 #[frv f a cap] w fun e w' => e = .returned (.int .i64 (f.code : Int)) ∧ Ext w w' := by
  obtain ⟨kind, fr, to, seq, nums⟩ := f
  by_cases hk : (kind.toNat : Int) = 100 ∨ (kind.toNat : Int) = 101 ∨ (kind.toNat : Int) = 116 ∨ (kind.toNat : Int) = 97
  · exact referror_in _ kind rfl hk fr to seq nums a cap w hr hl
  · have hd : decide (kind ∈ kinds) = false := by
      rw [kind_dec]
      simp; omega
    have Hc := hid (Fr.code_kind (f := ⟨kind, fr, to, seq, nums⟩) hd)
    have k1 : ¬ (kind.toNat : Int) = 100 := by omega
    have k2 : ¬ (kind.toNat : Int) = 101 := by omega
    have k3 : ¬ (kind.toNat : Int) = 116 := by omega
    have k4 : ¬ (kind.toNat : Int) = 97 := by omega
    unfold frv
    simp only
    clear hk hd hr hl
    generalize (kind.toNat : Int) = kv at *
    have e1 : (kv != 100) = true := bne_iff_ne.2 k1
    have e2 : (kv != 101) = true := bne_iff_ne.2 k2
    have e3 : (kv != 116) = true := bne_iff_ne.2 k3
    have e4 : (kv != 97) = true := bne_iff_ne.2 k4
    go_enter Tryd.func58, Tryd.ntmps58
    go_wp2
    go_ret
    exact ⟨by rw [Hc.out]; rfl, (Ext.refl w).alloc _⟩
end Go.Proofs.YtcfopaopcbjkeaaDoor
