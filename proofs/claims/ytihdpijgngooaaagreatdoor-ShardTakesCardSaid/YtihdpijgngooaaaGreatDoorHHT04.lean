/- Texts of one proof, put together: UX W6 W1 W2 W3 Par2 UY UZ V1 V2 W4 W7. -/
import Derived.Test.YtihdpijgngooaaaGreatDoorHHT01
import Derived.Test.YtihdpijgngooaaaGreatDoorHHT02
import Derived.Test.YtihdpijgngooaaaGreatDoorHHT03
set_option linter.unusedSimpArgs false
set_option linter.unusedVariables false
namespace Go.Proofs.YtihdpijgngooaaaGreatDoor
open Go Go.RowKit
theorem PP.inV_eq (P : PP) (n : Int) : P.inV n = (decide (0 ≤ n) && decide (n < P.vars.length)) := by
  unfold PP.inV
  by_cases h1 : n < 0
  · have h2 : ¬ 0 ≤ n := by omega
    simp [h1, h2]
  · by_cases h2 : n < P.vars.length
    · have h3 : 0 ≤ n := by omega
      have h4 : ¬ (P.vars.length : Int) ≤ n := by omega
      simp [h1, h2, h3, h4]
    · have h4 : (P.vars.length : Int) ≤ n := by omega
      simp [h2, h4]
set_option maxRecDepth 100000 in
set_option maxHeartbeats 1600000 in
theorem risvar_any (a1 a2 a3 : Option Addr) (c1 c2 c3 : Nat) (P : PP) (n : Int) (w : World) :
    Calls Tryz.prog 36 #[pval a1 a2 a3 c1 c2 c3 P, .int .i64 n] w fun e w' => e = .returned (.bool (P.inV n)) ∧ Ext w w' := by
  have Hr := hid (PP.inV_eq P n)
  unfold pval
  generalize P.funs.length = m2 at *
  generalize P.stmts.length = m3 at *
  generalize P.vars.length = m at *
  go_enter Tryz.func36, Tryz.ntmps36
  by_cases hn : 0 ≤ n
  · by_cases hm : n < m
    · go_wp2
      go_ret
      exact ⟨by rw [Hr.out, decide_eq_true hn, decide_eq_true hm]; rfl, (Ext.refl _).alloc _⟩
    · go_wp2
      go_ret
      exact ⟨by rw [Hr.out, decide_eq_true hn, decide_eq_false (show ¬ n < (m : Int) by omega)]; rfl, (Ext.refl _).alloc _⟩
  · go_wp2
    go_ret
    exact ⟨by rw [Hr.out, decide_eq_false (show ¬ 0 ≤ n by omega)]; rfl, (Ext.refl _).alloc _⟩
set_option maxRecDepth 100000 in
set_option maxHeartbeats 1600000 in
theorem rarevars_any (a1 a2 a3 : Option Addr) (c1 c2 c3 : Nat) (P : PP) (v : Value) (l : List Int) (w : World) (n0 : Nat) (h : IntsR w n0 v l) :
    Calls Tryz.prog 35 #[pval a1 a2 a3 c1 c2 c3 P, v] w fun e w' => e = .returned (.bool (P.allV l)) ∧ Ext w w' := by
  have HI := hid h
  obtain ⟨aa, ca, rfl, h2, h3, h4, h5⟩ := h
  have hml : (l.length : Int) ≤ 9223372036854775807 := by omega
  have H4 := hid h4
  have H5 := hid h5
  obtain ⟨W, hW⟩ : ∃ W, W = w.alloc (.cells (pcells a1 a2 a3 c1 c2 c3 P) 26) := ⟨_, rfl⟩
  have HX : Hid (Ext w W) := hid (by rw [hW]; exact (Ext.refl _).alloc _)
  have HB : Hid (Blk W w.heap.size (pcells a1 a2 a3 c1 c2 c3 P) 26) := hid (by rw [hW]; exact Blk.new _ _ _)
  have HV := fun n w1 => hid (risvar_any a1 a2 a3 c1 c2 c3 P n w1)
  unfold pval at HV ⊢
  unfold pcells at hW
  have HW := hid hW
  clear h2 h3 h4 h5 hW
  go_enter Tryz.func35, Tryz.ntmps35
  go_wp2
  rw [← HW.out]
  go_loopw [5] (fun t5 wr => ∃ k : Nat, t5 = .int .i64 (k : Int) ∧ k ≤ l.length ∧ (∀ j t, j < k → l[j]? = some t → P.inV t = true) ∧ Ext W wr) (fun t5 _ => l.length - (intOf t5).toNat)
  case atStart => exact ⟨0, rfl, Nat.zero_le _, fun j t h => by omega, Ext.refl _⟩
  case round =>
    obtain ⟨k, rfl, hk, hp, hx⟩ := hrel
    have Hp := hid hp
    have Hx := hid hx
    clear hp hx
    by_cases hlt : k < l.length
    · obtain ⟨y, rfl⟩ := H4.out (by omega)
      obtain ⟨q, hq⟩ : ∃ q, l[k]? = some q := ⟨_, List.getElem?_eq_getElem hlt⟩
      have hc := (HX.out.trans Hx.out).cellx ((H5.out y rfl (by omega)).2 k hlt q hq)
      have hcK : ∀ w1, Keep (fun _ => False) wr w1 → w1.cell? (y.add k) = some (.int .i64 q) := fun w1 k => k.ext.cellx hc
      have d0 := (HB.out.ext Hx.out).kc (X := fun _ => False) (fun e => e) 0 rfl
      have d1 := (HB.out.ext Hx.out).kc (X := fun _ => False) (fun e => e) 1 rfl
      have d2 := (HB.out.ext Hx.out).kc (X := fun _ => False) (fun e => e) 2 rfl
      simp only [pcells, qA0, qA1, qA2] at d0 d1 d2
      have Hq := hid hq
      clear hq hc
      go_wp2
      refine wp_flowT (fun _ => False) (by kernel_rfl) (by kernel_rfl) ?_
      repeat (apply FlowT.d; (intro w1 hk; unfold does; go_simp; (try go_ints); (first | exact DetR.mk | (simp only [↓IntWalk.iteOmega, Oper.doesUpon_value]; exact DetR.mk) | (simp only [↓IntWalk.iteOmega]; go_simp; (try go_ints); exact DetR.mk))); simp only [Act.put, qS0, qS1, qS2])
      apply FlowT.d
      · intro w1 hk
        unfold does
        go_simp
        exact CallR.det ((HV q w1).out)
      simp only [Act.put, qS0, qS1, qS2]
      repeat (apply FlowT.d; (intro w1 hk; unfold does; go_simp; (try go_ints); (first | exact DetR.mk | (simp only [↓IntWalk.iteOmega, Oper.doesUpon_value]; exact DetR.mk) | (simp only [↓IntWalk.iteOmega]; go_simp; (try go_ints); exact DetR.mk))); simp only [Act.put, qS0, qS1, qS2])
      refine FlowT.fin fun w2 hx2 hk2 => ?_
      have HX2 := hid (Hx.out.trans hx2)
      clear hx2 hk2 hcK d0 d1 d2
      cases hv : P.inV q with
      | true =>
        have Hv := hid hv
        clear hv
        go_wp2
        go_roundw
        case rel =>
          refine ⟨k + 1, by go_num, by omega, fun j t hj ht => ?_, HX2.out⟩
          by_cases hjk : j = k
          · subst hjk
            obtain rfl := Option.some.inj (Hq.out.symm.trans ht)
            exact Hv.out
          · exact Hp.out j t (by omega) ht
        case measure => simp [intOf]; omega
      | false =>
        have Hr := hid (show P.allV l = false from List.all_eq_false.2 ⟨q, List.mem_of_getElem? Hq.out, by rw [hv]; decide⟩)
        go_wp2
        go_ret
        exact ⟨by rw [Hr.out]; rfl, HX.out.trans HX2.out⟩
    · obtain rfl : k = l.length := by omega
      have Hr := hid (show P.allV l = true from List.all_eq_true.2 fun t ht => by
        obtain ⟨j, hj, e⟩ := List.mem_iff_getElem.1 ht
        exact Hp.out j t hj (by rw [List.getElem?_eq_getElem hj, e]))
      go_wp2
      go_ret
      exact ⟨by rw [Hr.out]; rfl, HX.out.trans Hx.out⟩
set_option maxRecDepth 100000 in
set_option maxHeartbeats 1600000 in
theorem rhas_any (v : Value) (l : List Int) (s : Int) (w : World) (n0 : Nat) (h : IntsR w n0 v l) :
    Calls Tryz.prog 37 #[v, .int .i64 s] w fun e w' => e = .returned (.bool (decide (s ∈ l))) ∧ w = w' := by
  obtain ⟨aa, ca, rfl, h2, h3, h4, h5⟩ := h
  have hml : (l.length : Int) ≤ 9223372036854775807 := by omega
  have H4 := hid h4
  have H5 := hid h5
  clear h2 h3 h4 h5
  go_enter Tryz.func37, Tryz.ntmps37
  go_wp2
  go_loop [5] (fun t5 => ∃ k : Nat, t5 = .int .i64 (k : Int) ∧ k ≤ l.length ∧ ∀ j t, j < k → l[j]? = some t → t ≠ s) (fun t5 => l.length - (intOf t5).toNat)
  case atStart => exact ⟨0, rfl, Nat.zero_le _, fun j t h => by omega⟩
  case round =>
    obtain ⟨k, rfl, hk, hp⟩ := hrel
    have Hp := hid hp
    clear hp
    by_cases hlt : k < l.length
    · obtain ⟨y, rfl⟩ := H4.out (by omega)
      obtain ⟨q, hq⟩ : ∃ q, l[k]? = some q := ⟨_, List.getElem?_eq_getElem hlt⟩
      have hc := (H5.out y rfl (by omega)).2 k hlt q hq
      have Hq := hid hq
      clear hq
      by_cases he : q = s
      · subst he
        have Hin := hid (List.mem_of_getElem? Hq.out)
        go_wp2
        go_ret
        exact ⟨by rw [decide_eq_true Hin.out]; rfl, rfl⟩
      · have He := hid he
        go_wp2
        refine ⟨⟨k + 1, by go_num, by omega, fun j t hj ht => ?_⟩, by simp [intOf]; omega⟩
        by_cases hjk : j = k
        · subst hjk
          obtain rfl := Option.some.inj (Hq.out.symm.trans ht)
          exact He.out
        · exact Hp.out j t (by omega) ht
    · obtain rfl : k = l.length := by omega
      have Hn := hid (show ¬ s ∈ l from fun ht => by
        obtain ⟨j, hj, e⟩ := List.mem_iff_getElem.1 ht
        exact Hp.out j s hj (by rw [List.getElem?_eq_getElem hj, e]) rfl)
      go_wp2
      go_ret
      exact ⟨by rw [decide_eq_false Hn.out]; rfl, rfl⟩
theorem eqB_comm (s t : ByteArray) : eqB s t = (t.toList == s.toList) := by
  unfold eqB
  rw [Bool.eq_iff_iff, beq_iff_eq, beq_iff_eq]
  exact ⟨fun h => h.symm, fun h => h.symm⟩
set_option maxRecDepth 100000 in
set_option maxHeartbeats 1600000 in
theorem rhastext_any (v : Value) (l : List ByteArray) (s : ByteArray) (w : World) (n0 : Nat) (h : StrsR w n0 v l) :
    Calls Tryz.prog 75 #[v, .string s] w fun e w' => e = .returned (.bool (memB s l)) ∧ w = w' := by
  obtain ⟨aa, ca, rfl, h2, h3, h4, h5⟩ := h
  have hml : (l.length : Int) ≤ 9223372036854775807 := by omega
  have H4 := hid h4
  have H5 := hid h5
  clear h2 h3 h4 h5
  go_enter Tryz.func75, Tryz.ntmps75
  go_wp2
  go_loop [5] (fun t5 => ∃ k : Nat, t5 = .int .i64 (k : Int) ∧ k ≤ l.length ∧ ∀ j t, j < k → l[j]? = some t → eqB s t = false) (fun t5 => l.length - (intOf t5).toNat)
  case atStart => exact ⟨0, rfl, Nat.zero_le _, fun j t h => by omega⟩
  case round =>
    obtain ⟨k, rfl, hk, hp⟩ := hrel
    have Hp := hid hp
    clear hp
    by_cases hlt : k < l.length
    · obtain ⟨y, rfl⟩ := H4.out (by omega)
      obtain ⟨q, hq⟩ : ∃ q, l[k]? = some q := ⟨_, List.getElem?_eq_getElem hlt⟩
      have hc := (H5.out y rfl (by omega)).2 k hlt q hq
      have Hq := hid hq
      clear hq
      cases he : eqB s q with
      | true =>
        have Hin := hid (show memB s l = true from List.any_eq_true.2 ⟨q, List.mem_of_getElem? Hq.out, he⟩)
        rw [eqB_comm] at he
        go_wp2
        go_ret
        exact ⟨by rw [Hin.out]; rfl, rfl⟩
      | false =>
        have He := hid he
        rw [eqB_comm] at he
        go_wp2
        refine ⟨⟨k + 1, by go_num, by omega, fun j t hj ht => ?_⟩, by simp [intOf]; omega⟩
        by_cases hjk : j = k
        · subst hjk
          obtain rfl := Option.some.inj (Hq.out.symm.trans ht)
          exact He.out
        · exact Hp.out j t (by omega) ht
    · obtain rfl : k = l.length := by omega
      have Hn := hid (show memB s l = false from List.any_eq_false.2 fun t ht => by
        obtain ⟨j, hj, e⟩ := List.mem_iff_getElem.1 ht
        rw [Hp.out j t hj (by rw [List.getElem?_eq_getElem hj, e])]
        decide)
      go_wp2
      go_ret
      exact ⟨by rw [Hn.out]; rfl, rfl⟩
end Go.Proofs.YtihdpijgngooaaaGreatDoor
namespace Go.Proofs.YtihdpijgngooaaaGreatDoor
open Go Go.RowKit Go.Shelf
open Go.Lib (trimS trimLeftS trimRightS toList_data)
theorem dw_nil {p : UInt8 → Bool} : ∀ l : List UInt8, (∀ x ∈ l, p x = true) → l.dropWhile p = []
  | [], _ => rfl
  | a :: l, h => by
    rw [List.dropWhile_cons, h a (List.mem_cons_self ..)]
    exact dw_nil l fun x hx => h x (List.mem_cons_of_mem _ hx)
theorem dw_mem {p : UInt8 → Bool} : ∀ (l : List UInt8) (b : UInt8), b ∈ l → p b = false → ∃ a r, l.dropWhile p = a :: r ∧ p a = false
  | a :: l, b, hb, hp => by
    cases ha : p a with
    | false => exact ⟨a, l, by rw [List.dropWhile_cons, ha]; rfl, ha⟩
    | true =>
      rcases List.mem_cons.1 hb with rfl | hb
      · rw [ha] at hp; cases hp
      · rw [List.dropWhile_cons, ha]
        exact dw_mem l b hb hp
theorem trimS_nil (l cs : List UInt8) : trimS l cs = [] ↔ ∀ b ∈ l, cs.contains b = true := by
  unfold trimS trimLeftS trimRightS
  constructor
  · intro h b hb
    cases hp : cs.contains b with
    | true => rfl
    | false =>
      obtain ⟨a, r, he, ha⟩ := dw_mem (p := (cs.contains ·)) l.reverse b (List.mem_reverse.2 hb) hp
      rw [he] at h
      obtain ⟨a2, r2, he2, _⟩ := dw_mem (p := (cs.contains ·)) (a :: r).reverse a (List.mem_reverse.2 (List.mem_cons_self ..)) ha
      rw [he2] at h
      cases h
  · intro h
    rw [dw_nil (p := (cs.contains ·)) l.reverse fun x hx => h x (List.mem_reverse.1 hx)]
    rfl
def okAt (b k : Nat) : Bool := (decide (97 ≤ b) && decide (b ≤ 122)) || (decide (48 ≤ b) && decide (b ≤ 57) && !decide (k = 0))
theorem letters_has (b : UInt8) : lettersS.data.toList.contains b = ((decide (97 ≤ b.toNat) && decide (b.toNat ≤ 122)) || (decide (48 ≤ b.toNat) && decide (b.toNat ≤ 57))) := by
  have h : ∀ n, n < 256 → lettersS.data.toList.contains (UInt8.ofNat n) = ((decide (97 ≤ n) && decide (n ≤ 122)) || (decide (48 ≤ n) && decide (n ≤ 57))) := by decide +kernel
  have := h b.toNat b.toNat_lt
  rwa [UInt8.ofNat_toNat] at this
theorem nameRest_iff (s : ByteArray) : nameRest s = true ↔ ∀ (k : Nat) (h : k < s.size), lettersS.data.toList.contains s[k] = true := by
  unfold nameRest eqB
  rw [beq_iff_eq, toList_data, toList_data]
  show trimS s.data.toList lettersS.data.toList = [] ↔ _
  rw [trimS_nil]
  constructor
  · intro h k hk
    refine h _ ?_
    have : s.data.toList[k]? = some s[k] := by
      rw [List.getElem?_eq_getElem (by simpa using hk)]
      rfl
    exact List.mem_of_getElem? this
  · intro h b hb
    obtain ⟨k, hk, e⟩ := List.mem_iff_getElem.1 hb
    have hk' : k < s.size := by simpa using hk
    have := h k hk'
    rwa [show s[k] = b from e] at this
theorem nameOk_iff (s : ByteArray) : nameOk s = true ↔ memB s reserved = false ∧ 1 ≤ s.size ∧ s.size ≤ 8 ∧ ∀ (k : Nat) (h : k < s.size), okAt s[k].toNat k = true := by
  unfold nameOk
  simp only [Bool.and_eq_true, Bool.not_eq_true', decide_eq_true_eq]
  rw [nameRest_iff]
  have he : s.toList.isEmpty = false ↔ 1 ≤ s.size := by
    rw [toList_data]
    have hl : s.data.toList.length = s.size := by simp
    cases h : s.data.toList with
    | nil =>
      have hz : s.size = 0 := by rw [← hl, h]; rfl
      exact ⟨fun h => (by cases h), fun h => by omega⟩
    | cons a r =>
      have hz : s.size = r.length + 1 := by rw [← hl, h]; rfl
      exact ⟨fun _ => by omega, fun _ => rfl⟩
  rw [he]
  constructor
  · rintro ⟨h1, ⟨⟨⟨⟨h2, h3⟩, h4⟩, h5⟩, h6⟩⟩
    refine ⟨h1, h2, h3, fun k hk => ?_⟩
    have h7 := h6 k hk
    rw [letters_has] at h7
    unfold okAt
    by_cases h0 : k = 0
    · subst h0
      have hf : first s = s[0].toNat := by unfold first; rw [dif_pos hk]
      rw [hf] at h4 h5
      simp [h4, h5]
    · simp only [h0, decide_false, Bool.not_false, Bool.and_true]
      exact h7
  · rintro ⟨h1, h2, h3, h4⟩
    have hz : 0 < s.size := h2
    have hf : first s = s[0].toNat := by unfold first; rw [dif_pos hz]
    have h0 := h4 0 hz
    unfold okAt at h0
    simp at h0
    refine ⟨h1, ⟨⟨⟨⟨h2, h3⟩, by rw [hf]; exact h0.1⟩, by rw [hf]; exact h0.2⟩, fun k hk => ?_⟩⟩
    have h5 := h4 k hk
    rw [letters_has]
    unfold okAt at h5
    simp only [Bool.or_eq_true, Bool.and_eq_true] at h5 ⊢
    exact h5.imp id fun h => h.1
set_option maxRecDepth 100000 in
set_option maxHeartbeats 3200000 in
theorem risname_any (s : ByteArray) (w : World) (hs : s.size ≤ 9223372036854775807) : Calls Tryz.prog 34 #[.string s] w fun e w' => e = .returned (.bool (nameOk s)) ∧ w = w' := by
  go_enter Tryz.func34, Tryz.ntmps34
  have hres : memB s reserved = ((s.toList == [118, 97, 114]) || ((s.toList == [102, 110]) || ((s.toList == [110, 101, 119]) || (s.toList == [99, 97, 108, 108])))) := by
    have t1 : (⟨#[118, 97, 114]⟩ : ByteArray).toList = [118, 97, 114] := by decide +kernel
    have t2 : (⟨#[102, 110]⟩ : ByteArray).toList = [102, 110] := by decide +kernel
    have t3 : (⟨#[110, 101, 119]⟩ : ByteArray).toList = [110, 101, 119] := by decide +kernel
    have t4 : (⟨#[99, 97, 108, 108]⟩ : ByteArray).toList = [99, 97, 108, 108] := by decide +kernel
    simp only [memB, reserved, List.any_cons, List.any_nil, Bool.or_false, eqB, t1, t2, t3, t4]
  cases hm : memB s reserved with
  | true =>
    have Hr := hid (show nameOk s = false by unfold nameOk; rw [hm]; rfl)
    rw [hm] at hres
    have Hres := hid hres
    clear hm hres
    cases h1 : (s.toList == [118, 97, 114]) with
    | true =>
      go_wp2
      go_ret
      exact ⟨by rw [Hr.out]; rfl, rfl⟩
    | false =>
      cases h2 : (s.toList == [102, 110]) with
      | true =>
        go_wp2
        go_ret
        exact ⟨by rw [Hr.out]; rfl, rfl⟩
      | false =>
        cases h3 : (s.toList == [110, 101, 119]) with
        | true =>
        go_wp2
        go_ret
        exact ⟨by rw [Hr.out]; rfl, rfl⟩
        | false =>
          cases h4 : (s.toList == [99, 97, 108, 108]) with
          | true =>
        go_wp2
        go_ret
        exact ⟨by rw [Hr.out]; rfl, rfl⟩
          | false => have hres := Hres.out; rw [h1, h2, h3, h4] at hres; cases hres
  | false =>
    have Hm := hid hm
    rw [hm] at hres
    obtain ⟨h1, h2, h3, h4⟩ : (s.toList == [118, 97, 114]) = false ∧ (s.toList == [102, 110]) = false ∧ (s.toList == [110, 101, 119]) = false ∧ (s.toList == [99, 97, 108, 108]) = false := by
      have := hres.symm
      simp only [Bool.or_eq_false_iff] at this
      exact ⟨this.1, this.2.1, this.2.2.1, this.2.2.2⟩
    clear hm hres
    go_wp2
    clear h1 h2 h3 h4
    go_loop [3] (fun t3 => ∃ k : Nat, t3 = .int .i64 (k : Int) ∧ k ≤ s.size ∧ ∀ (j : Nat) (h : j < s.size), j < k → okAt s[j].toNat j = true) (fun t3 => s.size - (intOf t3).toNat)
    case atStart => exact ⟨0, rfl, Nat.zero_le _, fun j h hj => by omega⟩
    case round =>
      obtain ⟨k, rfl, hk, hp⟩ := hrel
      have Hp := hid hp
      clear hp
      by_cases hlt : k < s.size
      · have hb : s[k].toNat < 256 := byte_lt _
        by_cases l1 : 97 ≤ s[k].toNat
        · by_cases l2 : s[k].toNat ≤ 122
          · have Hok := hid (show okAt s[k].toNat k = true by unfold okAt; simp [l1, l2])
            have d1 : 48 ≤ s[k].toNat := by omega
            have d2 : ¬ s[k].toNat ≤ 57 := by omega
            go_wp2
            refine ⟨⟨k + 1, by go_num, by omega, fun j h hj => ?_⟩, by simp [intOf]; omega⟩
            by_cases hjk : j = k
            · subst hjk
              exact Hok.out
            · exact Hp.out j h (by omega)
          · have d1 : 48 ≤ s[k].toNat := by omega
            have d2 : ¬ s[k].toNat ≤ 57 := by omega
            have e1 : decide ((s[k].toNat : Int) ≤ 122) = false := decide_eq_false (by omega)
            have e2 : decide ((s[k].toNat : Int) ≤ 57) = false := decide_eq_false (by omega)
            have Hr := hid (show nameOk s = false by
              cases hn : nameOk s with
              | false => rfl
              | true =>
                have h := ((nameOk_iff s).1 hn).2.2.2 k hlt
                unfold okAt at h
                simp at h
                omega)
            go_wp2
            go_ret
            exact ⟨by rw [Hr.out]; rfl, rfl⟩
        · by_cases d1 : 48 ≤ s[k].toNat
          · by_cases d2 : s[k].toNat ≤ 57
            · by_cases h0 : k = 0
              · subst h0
                have Hr := hid (show nameOk s = false by
                  cases hn : nameOk s with
                  | false => rfl
                  | true =>
                    have h := ((nameOk_iff s).1 hn).2.2.2 0 hlt
                    unfold okAt at h
                    simp at h
                    omega)
                go_wp2
                go_ret
                exact ⟨by rw [Hr.out]; rfl, rfl⟩
              · have Hok := hid (show okAt s[k].toNat k = true by unfold okAt; simp [d1, d2, h0])
                go_wp2
                refine ⟨⟨k + 1, by go_num, by omega, fun j h hj => ?_⟩, by simp [intOf]; omega⟩
                by_cases hjk : j = k
                · subst hjk
                  exact Hok.out
                · exact Hp.out j h (by omega)
            · have e2 : decide ((s[k].toNat : Int) ≤ 57) = false := decide_eq_false (by omega)
              have Hr := hid (show nameOk s = false by
                cases hn : nameOk s with
                | false => rfl
                | true =>
                  have h := ((nameOk_iff s).1 hn).2.2.2 k hlt
                  unfold okAt at h
                  simp at h
                  omega)
              go_wp2
              go_ret
              exact ⟨by rw [Hr.out]; rfl, rfl⟩
          · have Hr := hid (show nameOk s = false by
              cases hn : nameOk s with
              | false => rfl
              | true =>
                have h := ((nameOk_iff s).1 hn).2.2.2 k hlt
                unfold okAt at h
                simp at h
                omega)
            go_wp2
            go_ret
            exact ⟨by rw [Hr.out]; rfl, rfl⟩
      · obtain rfl : k = s.size := by omega
        have Hall := hid (show ∀ (j : Nat) (h : j < s.size), okAt s[j].toNat j = true from fun j h => Hp.out j h h)
        by_cases z1 : 1 ≤ s.size
        · by_cases z2 : s.size ≤ 8
          · have Hr := hid ((nameOk_iff s).2 ⟨Hm.out, z1, z2, Hall.out⟩)
            have H8 := hid (show decide ((s.size : Int) ≤ 8) = true from decide_eq_true (by omega))
            go_wp2
            go_ret
            exact ⟨by rw [Hr.out]; exact congrArg (fun b => Ending.returned (Value.bool b)) H8.out, rfl⟩
          · have Hr := hid (show nameOk s = false by
              cases hn : nameOk s with
              | false => rfl
              | true => exact absurd ((nameOk_iff s).1 hn).2.2.1 z2)
            have H8 := hid (show decide ((s.size : Int) ≤ 8) = false from decide_eq_false (by omega))
            go_wp2
            go_ret
            exact ⟨by rw [Hr.out]; exact congrArg (fun b => Ending.returned (Value.bool b)) H8.out, rfl⟩
        · have Hr := hid (show nameOk s = false by
            cases hn : nameOk s with
            | false => rfl
            | true => exact absurd ((nameOk_iff s).1 hn).2.1 z1)
          go_wp2
          go_ret
          exact ⟨by rw [Hr.out]; rfl, rfl⟩
end Go.Proofs.YtihdpijgngooaaaGreatDoor
namespace Go.Proofs.YtihdpijgngooaaaGreatDoor
open Go Go.RowKit
set_option maxRecDepth 100000 in
set_option maxHeartbeats 12800000 in
theorem rstmterr_any (a1 a2 a3 : Option Addr) (c1 c2 c3 : Nat) (P : PP) (s : PS) (a : Option Addr) (cap : Nat) (w : World) (n0 : Nat) (h : IntsR w n0 (.slice a s.args.length cap) s.args) (hfl : (P.funs.length : Int) ≤ 9223372036854775807) (hal : (s.args.length : Int) ≤ 9223372036854775807) :
    Calls Tryz.prog 38 #[pval a1 a2 a3 c1 c2 c3 P, sval s a cap] w fun e w' => e = .returned (.int .i64 (P.stmtErr s : Int)) ∧ Ext w w' := by
  have HI := hid h
  clear h
  obtain ⟨W2, hW2⟩ : ∃ W2, W2 = (w.alloc (.cells (pcells a1 a2 a3 c1 c2 c3 P) 26)).alloc (.cells (scells s a cap) 73) := ⟨_, rfl⟩
  have HW2 : Hid (Ext w W2) := hid (by rw [hW2]; exact ((Ext.refl _).alloc _).alloc _)
  have hsz : W2.heap.size = w.heap.size + 1 + 1 := by rw [hW2, heap_size_alloc, heap_size_alloc]
  have HB10 : Hid (Blk W2 w.heap.size (pcells a1 a2 a3 c1 c2 c3 P) 26) := hid (by rw [hW2]; exact (Blk.new _ _ _).alloc _)
  have HB20 : Hid (Blk W2 (w.heap.size + 1) (scells s a cap) 73) := hid (by
    rw [hW2]
    have := Blk.new (w.alloc (.cells (pcells a1 a2 a3 c1 c2 c3 P) 26)) (scells s a cap) 73
    rwa [heap_size_alloc] at this)
  obtain ⟨W3, hW3⟩ : ∃ W3, W3 = W2.alloc (.cells #[.string ⟨#[97, 100, 100, 114]⟩, .string ⟨#[99, 111, 112, 121]⟩, .string ⟨#[108, 111, 97, 100]⟩, .string ⟨#[115, 116, 111, 114, 101]⟩, .string ⟨#[110, 101, 119]⟩, .string ⟨#[102, 117, 110]⟩, .string ⟨#[99, 97, 108, 108]⟩] 9) := ⟨_, rfl⟩
  have hx3 : Ext W2 W3 := by rw [hW3]; exact (Ext.refl _).alloc _
  have H1 : Hid (Calls Tryz.prog 75 #[.slice (some ⟨W2.heap.size, 0, none⟩) 7 7, .string s.kind] W3 fun e w' => e = .returned (.bool (memB s.kind kindsS)) ∧ W3 = w') := hid (by
    refine rhastext_any (.slice (some ⟨W2.heap.size, 0, none⟩) 7 7) kindsS s.kind W3 W3.heap.size (StrsR.blk (l := kindsS) (c := #[.string ⟨#[97, 100, 100, 114]⟩, .string ⟨#[99, 111, 112, 121]⟩, .string ⟨#[108, 111, 97, 100]⟩, .string ⟨#[115, 116, 111, 114, 101]⟩, .string ⟨#[110, 101, 119]⟩, .string ⟨#[102, 117, 110]⟩, .string ⟨#[99, 97, 108, 108]⟩]) (t := 9) ?_ rfl (by decide))
    rw [hW3]; exact Blk.new _ _ _)
  rw [hsz] at H1
  unfold pcells scells at hW2
  rw [hW2] at hW3
  have HW3 := hid hW3
  have HV := fun n w1 => hid (risvar_any a1 a2 a3 c1 c2 c3 P n w1)
  have H4 := hid fun w1 (x : Ext w w1) => rarevars_any a1 a2 a3 c1 c2 c3 P (.slice a s.args.length cap) s.args w1 n0 (HI.out.old (x.old n0))
  unfold pval at HV H4
  clear hW2 hsz hW3
  unfold pval sval
  have Hx3 := hid (HW2.out.trans hx3)
  have HB1 := hid (HB10.out.ext hx3)
  have HB2 := hid (HB20.out.ext hx3)
  have d0 := HB1.out.av 0 rfl
  have k0 := HB2.out.av 0 rfl
  simp only [pcells, scells, qA0, qA1, qA2] at d0 k0
  rw [HW3.out] at k0
  clear hx3
  go_enter Tryz.func38, Tryz.ntmps38
  go_wp2_with fail
  rw [← HW3.out]
  refine H1.out.mono ?_
  intro e w3 hx
  obtain ⟨rfl, rfl⟩ := hx
  clear H1 d0 k0
  cases hm : memB s.kind kindsS with
  | false =>
    have Hr := hid (show P.stmtErr s = 4 by unfold PP.stmtErr; rw [hm]; rfl)
    clear hm
    go_wp2
    go_ret
    exact ⟨by rw [Hr.out]; rfl, Hx3.out⟩
  | true =>
  have Hm := hid hm
  clear hm
  have d0 := HB1.out.av 0 rfl
  have d1 := HB1.out.av 1 rfl
  have d2 := HB1.out.av 2 rfl
  have k1 := HB2.out.av 1 rfl
  simp only [pcells, scells, qA0, qA1, qA2] at d0 d1 d2 k1
  go_wp2_with fail
  refine (HV s.x W3).out.mono ?_
  intro e w4 hx
  obtain ⟨rfl, hx4⟩ := hx
  have Hx4 := hid hx4
  clear d0 d1 d2 k1 hx4
  have d0 := (HB1.out.ext Hx4.out).av 0 rfl
  have d1 := (HB1.out.ext Hx4.out).av 1 rfl
  have d2 := (HB1.out.ext Hx4.out).av 2 rfl
  have k2 := (HB2.out.ext Hx4.out).av 2 rfl
  simp only [pcells, scells, qA0, qA1, qA2] at d0 d1 d2 k2
  go_wp2_with fail
  refine (HV s.y w4).out.mono ?_
  intro e w5 hx
  obtain ⟨rfl, hx5⟩ := hx
  have Hy5 := hid (Hx4.out.trans hx5)
  have Hx5 := hid (Hx3.out.trans Hy5.out)
  clear d0 d1 d2 k2 hx5
  have HB1' := hid (HB1.out.ext Hy5.out)
  have HB2' := hid (HB2.out.ext Hy5.out)
  have d0 := HB1'.out.av 0 rfl
  have d1 := HB1'.out.av 1 rfl
  have d2 := HB1'.out.av 2 rfl
  have k0 := HB2'.out.av 0 rfl
  have k1 := HB2'.out.av 1 rfl
  have k2 := HB2'.out.av 2 rfl
  have k3 := HB2'.out.av 3 rfl
  simp only [pcells, scells, qA0, qA1, qA2] at d0 d1 d2 k0 k1 k2 k3
  clear HV HB1 HB10 HB20 HB1'
  replace HB2 := HB2'
  cases hf : (s.kind.toList == [102, 117, 110]) with
  | true =>
    have Hf := hid (show s.isK kFun = true from hf)
    have hn : (s.kind.toList == [110, 101, 119]) = false := by rw [eq_of_beq hf]; rfl
    by_cases y1 : 0 ≤ s.y
    · by_cases y2 : s.y < (P.funs.length : Int)
      · have HYv := hid (show P.boundY s = true by unfold PP.boundY; rw [Hf.out, decide_eq_true y1, decide_eq_true y2]; rfl)
        go_wp2_with fail
        refine (H4.out _ Hx5.out).mono ?_
        intro e w6 hx
        obtain ⟨rfl, hx6⟩ := hx
        have Hx6 := hid (Hx5.out.trans hx6)
        clear d0 d1 d2 k0 k1 k2 k3
        have k0 := (HB2.out.ext hx6).av 0 rfl
        have k2 := (HB2.out.ext hx6).av 2 rfl
        have k3 := (HB2.out.ext hx6).av 3 rfl
        simp only [scells, qA0, qA1, qA2] at k0 k2 k3
        clear hx6 H4
        cases hx0 : P.inV s.x with
        | false =>
          have HX := hid hx0
          have Hr := hid (show P.stmtErr s = 2 by unfold PP.stmtErr PP.bound; rw [Hm.out, HX.out]; rfl)
          clear hx0
          go_wp2
          go_ret
          exact ⟨by rw [Hr.out]; rfl, Hx6.out⟩
        | true =>
          have HX := hid hx0
          clear hx0
          cases ha0 : P.allV s.args with
          | false =>
            have HA := hid ha0
            clear ha0
            have Hr := hid (show P.stmtErr s = 2 by unfold PP.stmtErr PP.bound; rw [Hm.out, HX.out, HYv.out, HA.out]; rfl)
            go_wp2
            go_ret
            exact ⟨by rw [Hr.out]; rfl, Hx6.out⟩
          | true =>
            have HBd := hid (show P.bound s = true by unfold PP.bound; rw [HX.out, HYv.out, ha0]; rfl)
            clear ha0
            have Hn := hid (show s.isK kNew = false from hn)
            cases hc : (s.kind.toList == [99, 97, 108, 108]) with
            | true =>
              have Hc := hid (show s.isK kCall = true from hc)
              by_cases h3 : 3 < s.args.length
              · have Hr := hid (show P.stmtErr s = 9 by unfold PP.stmtErr; rw [Hm.out]; simp only [HBd.out, Hc.out, Hn.out]; simp [*])
                go_wp2
                go_ret
                exact ⟨by rw [Hr.out]; rfl, Hx6.out⟩
              · have Hr := hid (show P.stmtErr s = 0 by unfold PP.stmtErr; rw [Hm.out]; simp only [HBd.out, Hc.out, Hn.out]; simp [*])
                go_wp2
                go_ret
                exact ⟨by rw [Hr.out]; rfl, Hx6.out⟩
            | false =>
              have Hc := hid (show s.isK kCall = false from hc)
              by_cases h0 : 0 < s.args.length
              · have Hr := hid (show P.stmtErr s = 3 by unfold PP.stmtErr; rw [Hm.out]; simp only [HBd.out, Hc.out]; simp [h0])
                go_wp2
                go_ret
                exact ⟨by rw [Hr.out]; rfl, Hx6.out⟩
              · have Hr := hid (show P.stmtErr s = 0 by unfold PP.stmtErr; rw [Hm.out]; simp only [HBd.out, Hc.out, Hn.out]; simp [*])
                go_wp2
                go_ret
                exact ⟨by rw [Hr.out]; rfl, Hx6.out⟩
      · have HYv := hid (show P.boundY s = false by unfold PP.boundY; rw [Hf.out, decide_eq_false y2]; simp)
        go_wp2_with fail
        refine (H4.out _ Hx5.out).mono ?_
        intro e w6 hx
        obtain ⟨rfl, hx6⟩ := hx
        have Hx6 := hid (Hx5.out.trans hx6)
        clear d0 d1 d2 k0 k1 k2 k3
        have k0 := (HB2.out.ext hx6).av 0 rfl
        have k2 := (HB2.out.ext hx6).av 2 rfl
        have k3 := (HB2.out.ext hx6).av 3 rfl
        simp only [scells, qA0, qA1, qA2] at k0 k2 k3
        clear hx6 H4
        cases hx0 : P.inV s.x with
        | false =>
          have HX := hid hx0
          have Hr := hid (show P.stmtErr s = 2 by unfold PP.stmtErr PP.bound; rw [Hm.out, HX.out]; rfl)
          clear hx0
          go_wp2
          go_ret
          exact ⟨by rw [Hr.out]; rfl, Hx6.out⟩
        | true =>
          have HX := hid hx0
          clear hx0
          have Hr := hid (show P.stmtErr s = 2 by unfold PP.stmtErr PP.bound; rw [Hm.out, HX.out, HYv.out]; rfl)
          go_wp2
          go_ret
          exact ⟨by rw [Hr.out]; rfl, Hx6.out⟩
    · have HYv := hid (show P.boundY s = false by unfold PP.boundY; rw [Hf.out, decide_eq_false y1]; simp)
      go_wp2_with fail
      refine (H4.out _ Hx5.out).mono ?_
      intro e w6 hx
      obtain ⟨rfl, hx6⟩ := hx
      have Hx6 := hid (Hx5.out.trans hx6)
      clear d0 d1 d2 k0 k1 k2 k3
      have k0 := (HB2.out.ext hx6).av 0 rfl
      have k2 := (HB2.out.ext hx6).av 2 rfl
      have k3 := (HB2.out.ext hx6).av 3 rfl
      simp only [scells, qA0, qA1, qA2] at k0 k2 k3
      clear hx6 H4
      cases hx0 : P.inV s.x with
      | false =>
        have HX := hid hx0
        have Hr := hid (show P.stmtErr s = 2 by unfold PP.stmtErr PP.bound; rw [Hm.out, HX.out]; rfl)
        clear hx0
        go_wp2
        go_ret
        exact ⟨by rw [Hr.out]; rfl, Hx6.out⟩
      | true =>
        have HX := hid hx0
        clear hx0
        have Hr := hid (show P.stmtErr s = 2 by unfold PP.stmtErr PP.bound; rw [Hm.out, HX.out, HYv.out]; rfl)
        go_wp2
        go_ret
        exact ⟨by rw [Hr.out]; rfl, Hx6.out⟩
  | false =>
    have Hf := hid (show s.isK kFun = false from hf)
    cases hn : (s.kind.toList == [110, 101, 119]) with
    | true =>
      have HYv := hid (show P.boundY s = true by unfold PP.boundY; rw [Hf.out, show s.isK kNew = true from hn]; rfl)
      go_wp2_with fail
      refine (H4.out _ Hx5.out).mono ?_
      intro e w6 hx
      obtain ⟨rfl, hx6⟩ := hx
      have Hx6 := hid (Hx5.out.trans hx6)
      clear d0 d1 d2 k0 k1 k2 k3
      have k0 := (HB2.out.ext hx6).av 0 rfl
      have k2 := (HB2.out.ext hx6).av 2 rfl
      have k3 := (HB2.out.ext hx6).av 3 rfl
      simp only [scells, qA0, qA1, qA2] at k0 k2 k3
      clear hx6 H4
      cases hx0 : P.inV s.x with
      | false =>
        have HX := hid hx0
        have Hr := hid (show P.stmtErr s = 2 by unfold PP.stmtErr PP.bound; rw [Hm.out, HX.out]; rfl)
        clear hx0
        go_wp2
        go_ret
        exact ⟨by rw [Hr.out]; rfl, Hx6.out⟩
      | true =>
        have HX := hid hx0
        clear hx0
        cases ha0 : P.allV s.args with
        | false =>
          have HA := hid ha0
          clear ha0
          have Hr := hid (show P.stmtErr s = 2 by unfold PP.stmtErr PP.bound; rw [Hm.out, HX.out, HYv.out, HA.out]; rfl)
          go_wp2
          go_ret
          exact ⟨by rw [Hr.out]; rfl, Hx6.out⟩
        | true =>
          have HBd := hid (show P.bound s = true by unfold PP.bound; rw [HX.out, HYv.out, ha0]; rfl)
          clear ha0
          have Hn := hid (show s.isK kNew = true from hn)
          have hc : (s.kind.toList == [99, 97, 108, 108]) = false := by rw [eq_of_beq hn]; rfl
          have Hc := hid (show s.isK kCall = false from hc)
          by_cases h0 : 0 < s.args.length
          · have Hr := hid (show P.stmtErr s = 3 by unfold PP.stmtErr; rw [Hm.out]; simp only [HBd.out, Hc.out]; simp [h0])
            go_wp2
            go_ret
            exact ⟨by rw [Hr.out]; rfl, Hx6.out⟩
          · by_cases hy : s.y = 0
            · have hyb : (s.y != 0) = false := by rw [hy]; rfl
              have Hr := hid (show P.stmtErr s = 0 by unfold PP.stmtErr; rw [Hm.out]; simp only [HBd.out, Hc.out, Hn.out]; simp [*])
              go_wp2
              go_ret
              exact ⟨by rw [Hr.out]; rfl, Hx6.out⟩
            · have hyb : (s.y != 0) = true := bne_iff_ne.2 hy
              have Hr := hid (show P.stmtErr s = 3 by unfold PP.stmtErr; rw [Hm.out]; simp only [HBd.out, Hc.out, Hn.out]; simp [*])
              go_wp2
              go_ret
              exact ⟨by rw [Hr.out]; rfl, Hx6.out⟩
    | false =>
      cases hy0 : P.inV s.y with
      | true =>
        have HYv := hid (show P.boundY s = true by unfold PP.boundY; rw [Hf.out, show s.isK kNew = false from hn]; exact hy0)
        go_wp2_with fail
        refine (H4.out _ Hx5.out).mono ?_
        intro e w6 hx
        obtain ⟨rfl, hx6⟩ := hx
        have Hx6 := hid (Hx5.out.trans hx6)
        clear d0 d1 d2 k0 k1 k2 k3
        have k0 := (HB2.out.ext hx6).av 0 rfl
        have k2 := (HB2.out.ext hx6).av 2 rfl
        have k3 := (HB2.out.ext hx6).av 3 rfl
        simp only [scells, qA0, qA1, qA2] at k0 k2 k3
        clear hx6 H4
        cases hx0 : P.inV s.x with
        | false =>
          have HX := hid hx0
          have Hr := hid (show P.stmtErr s = 2 by unfold PP.stmtErr PP.bound; rw [Hm.out, HX.out]; rfl)
          clear hx0
          go_wp2
          go_ret
          exact ⟨by rw [Hr.out]; rfl, Hx6.out⟩
        | true =>
          have HX := hid hx0
          clear hx0
          cases ha0 : P.allV s.args with
          | false =>
            have HA := hid ha0
            clear ha0
            have Hr := hid (show P.stmtErr s = 2 by unfold PP.stmtErr PP.bound; rw [Hm.out, HX.out, HYv.out, HA.out]; rfl)
            go_wp2
            go_ret
            exact ⟨by rw [Hr.out]; rfl, Hx6.out⟩
          | true =>
            have HBd := hid (show P.bound s = true by unfold PP.bound; rw [HX.out, HYv.out, ha0]; rfl)
            clear ha0
            have Hn := hid (show s.isK kNew = false from hn)
            cases hc : (s.kind.toList == [99, 97, 108, 108]) with
            | true =>
              have Hc := hid (show s.isK kCall = true from hc)
              by_cases h3 : 3 < s.args.length
              · have Hr := hid (show P.stmtErr s = 9 by unfold PP.stmtErr; rw [Hm.out]; simp only [HBd.out, Hc.out, Hn.out]; simp [*])
                go_wp2
                go_ret
                exact ⟨by rw [Hr.out]; rfl, Hx6.out⟩
              · have Hr := hid (show P.stmtErr s = 0 by unfold PP.stmtErr; rw [Hm.out]; simp only [HBd.out, Hc.out, Hn.out]; simp [*])
                go_wp2
                go_ret
                exact ⟨by rw [Hr.out]; rfl, Hx6.out⟩
            | false =>
              have Hc := hid (show s.isK kCall = false from hc)
              by_cases h0 : 0 < s.args.length
              · have Hr := hid (show P.stmtErr s = 3 by unfold PP.stmtErr; rw [Hm.out]; simp only [HBd.out, Hc.out]; simp [h0])
                go_wp2
                go_ret
                exact ⟨by rw [Hr.out]; rfl, Hx6.out⟩
              · have Hr := hid (show P.stmtErr s = 0 by unfold PP.stmtErr; rw [Hm.out]; simp only [HBd.out, Hc.out, Hn.out]; simp [*])
                go_wp2
                go_ret
                exact ⟨by rw [Hr.out]; rfl, Hx6.out⟩
      | false =>
        have HYv := hid (show P.boundY s = false by unfold PP.boundY; rw [Hf.out, show s.isK kNew = false from hn]; exact hy0)
        go_wp2_with fail
        refine (H4.out _ Hx5.out).mono ?_
        intro e w6 hx
        obtain ⟨rfl, hx6⟩ := hx
        have Hx6 := hid (Hx5.out.trans hx6)
        clear d0 d1 d2 k0 k1 k2 k3
        have k0 := (HB2.out.ext hx6).av 0 rfl
        have k2 := (HB2.out.ext hx6).av 2 rfl
        have k3 := (HB2.out.ext hx6).av 3 rfl
        simp only [scells, qA0, qA1, qA2] at k0 k2 k3
        clear hx6 H4
        cases hx0 : P.inV s.x with
        | false =>
          have HX := hid hx0
          have Hr := hid (show P.stmtErr s = 2 by unfold PP.stmtErr PP.bound; rw [Hm.out, HX.out]; rfl)
          clear hx0
          go_wp2
          go_ret
          exact ⟨by rw [Hr.out]; rfl, Hx6.out⟩
        | true =>
          have HX := hid hx0
          clear hx0
          have Hr := hid (show P.stmtErr s = 2 by unfold PP.stmtErr PP.bound; rw [Hm.out, HX.out, HYv.out]; rfl)
          go_wp2
          go_ret
          exact ⟨by rw [Hr.out]; rfl, Hx6.out⟩
section
variable {P : Program} {ops : Array Oper} {X : Nat → Prop} {w0 : World} {Q : Act → World → Prop} {L : List Nat}
end
theorem does_append_el {ops : Array Oper} {o : Oper} {a : Act} {w : World} {R : Value → World → Prop} (base : Nat) (hbase : base ≤ w.heap.size) (t e : TypeId) (z : Value) (size bytes : Nat) (ht : Tryz.prog.underlying t = some (.slice e)) (hinf : (Tryz.prog.info? e).map (fun i => (i.zero, i.size, i.bytes)) = some (some z, size, bytes)) (hz1 : z.cells.size = size) (hsz : 0 < size)
    (hb8 : bytes ≤ 64) (hg : o.guard = none) (s x : Operand) (ho : o.op = .call { callee := .builtin .append, args := #[s, x], argTypes := #[t, t] })
    (v : Value) (n : Nat) (xs : List Value) (hs : a.eval s = v) (hown : w.ownsRow base e size v n xs) (g : Nat) (us : List Value) (hul : us.length = size) (hu : ∀ u ∈ us, u.oneCell' = true) (hx : a.eval x = .slice (some ⟨g, 0, none⟩) 1 1) (hb : Blk w g us.toArray e) (hl : n ≤ 1000000)
    (h : ∀ v' w', w'.ownsRow base e size v' (n + 1) (xs ++ us) → Keep (fun k => v.ownBlock = some k) w w' → (v'.ownBlock = v.ownBlock ∨ v'.ownBlock = some w.heap.size) → R v' w') : does Tryz.prog ops o a w R := by
  obtain ⟨ti, hi, hz0, hz, hz2⟩ := info_parts hinf
  obtain ⟨v', w', hr, h2, h3, _, h4⟩ := run_append_own_at (P := Tryz.prog) w base t o.type e ti z size bytes ht hi hz0 hz hz2 hz1 hsz v n xs hown ⟨g, 0, none⟩ 1 1 us (by rw [hul]; omega) (fun j q hq => by
    rw [show (⟨g, 0, none⟩ : Addr).add j = ⟨g, j, none⟩ from by by_cases h0 : j = 0 <;> simp [Addr.add, h0], hb.cell j]
    simpa using hq) hu (by simp only [maxLen]; omega) (by
      have : (n + 1) * bytes ≤ (n + 1) * 64 := Nat.mul_le_mul_left _ hb8
      omega) hbase
  exact does_of_run hg (run_exec_append s x t ho hs hx hr) (h v' w' h2 (grown_keep h3) h4)
section
variable {P : Program} {ops : Array Oper} {X : Nat → Prop} {w0 : World} {Q : Act → World → Prop} {L : List Nat}
theorem Flow.l {listed : Array Bool} {C : World → Prop} {a : Act} {v : Value} (i : Nat) (o : Oper) (ho : ops[i]? = some o) (hr : (Region.ready .any ops listed).contains i = true)
    (h : ∀ w, does P ops o a w (DetR v w)) (k : Flow P ops w0 Q X (i :: L) (listed.setIfInBounds i true) C (a.put o.dst v)) : Flow P ops w0 Q X L listed C a :=
  Flow.loose i o v ho (by simpa using hr) h k
end
def IntOne (k : Nat) (u : Value) (w : World) : Prop := ∃ b, u = .slice (some ⟨b, 0, none⟩) 1 1 ∧ Blk w b #[.int .i64 (k : Int)] 3
theorem IntOne.ext {k : Nat} {u : Value} {w w' : World} (h : IntOne k u w) (x : Ext w w') : IntOne k u w' := by
  obtain ⟨b, e, hb⟩ := h
  exact ⟨b, e, hb.ext x⟩
theorem IntOne.mk (k : Nat) (w : World) : IntOne k (.slice (some ⟨w.heap.size, 0, none⟩) 1 1) (w.alloc (.cells #[.int .i64 (k : Int)] 3)) := ⟨_, rfl, Blk.new _ _ _⟩
theorem isK_of {x : PS} {b : ByteArray} {k : List UInt8} (hb : b.toList = k) (h : eqB x.kind b = true) : x.isK k = true := by
  unfold eqB at h
  rw [hb] at h
  exact h
theorem kind_cases {P : PP} {x : PS} (h : P.stmtErr x = 0) : x.isK kAddr = true ∨ x.isK kCopy = true ∨ x.isK kLoad = true ∨ x.isK kStore = true ∨ x.isK kNew = true ∨ x.isK kFun = true ∨ x.isK kCall = true := by
  unfold PP.stmtErr at h
  cases hm : memB x.kind kindsS with
  | false => rw [hm] at h; simp at h
  | true =>
    simp only [memB, kindsS, List.any_cons, List.any_nil, Bool.or_false, Bool.or_eq_true] at hm
    refine hm.imp (fun h => ?_) (Or.imp (fun h => ?_) (Or.imp (fun h => ?_) (Or.imp (fun h => ?_) (Or.imp (fun h => ?_) (Or.imp (fun h => ?_) (fun h => ?_))))))
    · exact isK_of (k := kAddr) (by decide +kernel) h
    · exact isK_of (k := kCopy) (by decide +kernel) h
    · exact isK_of (k := kLoad) (by decide +kernel) h
    · exact isK_of (k := kStore) (by decide +kernel) h
    · exact isK_of (k := kNew) (by decide +kernel) h
    · exact isK_of (k := kFun) (by decide +kernel) h
    · exact isK_of (k := kCall) (by decide +kernel) h
def PP.badk (P : PP) (n : Int) : Bool := decide (n < 0) || decide ((P.stmts.length : Int) ≤ n)
def zeroS : Value := .agg #[.slice none 0 0, .slice none 0 0, .slice none 0 0]
def zcells : Array Value := #[.slice none 0 0, .slice none 0 0, .slice none 0 0]
theorem ErrIs.form {ad : Nat → Addr} {P : PP} {w : World} {v : Value} (h : ErrIs ad P w v) : (v = .nilIface ∧ P.err1 = 0 ∧ P.allWell) ∨ ((∃ t x, v = .iface t (.pointer (some x))) ∧ ¬ (P.err1 = 0 ∧ P.allWell)) := by
  rcases h with ⟨h1, h2⟩ | ⟨h1, h2, h3⟩ | ⟨h1, i, s, b, h2, h3, _⟩
  · refine .inr ⟨?_, fun h => h1 h.1⟩
    obtain ⟨x, hx⟩ : ∃ x, evOf ad P.err1 = .iface 262 (.pointer (some x)) := ⟨_, rfl⟩
    exact ⟨_, _, by rw [h2, hx]⟩
  · exact .inl ⟨h3, h1, h2⟩
  · refine .inr ⟨⟨_, _, h3⟩, fun h => h2.2.1 (h.2 i s ?_ h2.1)⟩
    rcases Nat.lt_or_ge i P.stmts.length with h | h
    · exact h
    · have h3 := h2.1; rw [List.getElem?_eq_none h] at h3; cases h3
def PP.FirstK (P : PP) (l : List Int) (i : Nat) : Prop := ∃ x, l[i]? = some x ∧ P.badk x = true ∧ ∀ j y, j < i → l[j]? = some y → P.badk y = false
def RunNo (ad : Nat → Addr) (P : PP) (l : List Int) (w : World) (v : Value) : Prop :=
  (¬ (P.err1 = 0 ∧ P.allWell) ∧ ErrIs ad P w v) ∨ (P.err1 = 0 ∧ P.allWell ∧ 2000 < l.length ∧ v = evOf ad 8) ∨
  (P.err1 = 0 ∧ P.allWell ∧ l.length ≤ 2000 ∧ ∃ i b, P.FirstK l i ∧ v = .iface 134 (.pointer (some ⟨b, 0, none⟩)) ∧ Blk w b #[.int .i64 (i : Int), evOf ad 2] 138)
def PP.Runs (P : PP) (l : List Int) : Prop := P.err1 = 0 ∧ P.allWell ∧ l.length ≤ 2000 ∧ ∀ x ∈ l, P.badk x = false
theorem store3_keep (w : World) (g : Nat) (v0 v1 v2 : Value) : Keep (fun b => b = g) w (((w.setCell ⟨g, 0, none⟩ v0).setCell ⟨g, 1, none⟩ v1).setCell ⟨g, 2, none⟩ v2) :=
  have k : ∀ (u : World) j v, Keep (fun b => b = g) w u → Keep (fun b => b = g) w (u.setCell ⟨g, j, none⟩ v) := fun _ _ v h => h.set rfl v
  k _ _ _ (k _ _ _ (k _ _ _ (Keep.refl _ w)))
theorem store3 {w : World} {g : Nat} {x0 x1 x2 v0 v1 v2 : Value} {t : TypeId} (h : Blk w g #[x0, x1, x2] t) : Blk (((w.setCell ⟨g, 0, none⟩ v0).setCell ⟨g, 1, none⟩ v1).setCell ⟨g, 2, none⟩ v2) g #[v0, v1, v2] t := by
  have := ((h.set 0 v0).set 1 v1).set 2 v2
  simpa using this
def FtAt (i : Nat) (ev : Value) (v : Value) (w : World) : Prop := ∃ b, v = .pointer (some ⟨b, 0, none⟩) ∧ Blk w b #[.int .i64 (i : Int), ev] 138
theorem FtAt.ext {i : Nat} {ev v : Value} {w w' : World} (h : FtAt i ev v w) (x : Ext w w') : FtAt i ev v w' := by
  obtain ⟨b, e, h⟩ := h
  exact ⟨b, e, h.ext x⟩
theorem Rn.Ok.step {P : PP} {s : Rn} (h : s.Ok P) (hw : P.allWell) (k : Nat) : (s.step P k).Ok P := by
  unfold Rn.step
  cases hx : P.stmts[k]? with
  | none => exact h
  | some x =>
    have hk : k < P.stmts.length := by
      rcases Nat.lt_or_ge k P.stmts.length with h | h
      · exact h
      · rw [List.getElem?_eq_none h] at hx; cases hx
    exact h.stmt k (PP.good (hw k x hk hx))
theorem Rn.Ok.foldl {P : PP} (hw : P.allWell) : ∀ (l : List Nat) {s : Rn}, s.Ok P → (l.foldl (Rn.step P) s).Ok P
  | [], _, h => h
  | k :: l, _, h => Rn.Ok.foldl hw l (h.step hw k)
theorem Rn.Ok.run {P : PP} (hw : P.allWell) (l : List Nat) : (Rn.run P l).Ok P := Rn.Ok.foldl hw l (Rn.Ok.begin P)
theorem ElR.lift {n0 n1 n : Nat} {v : Value} {E : Nat → Addr → Prop} (h : ElR n0 v n E) (hn : n0 ≤ n1) : ElR n1 v n E := h.mono hn fun _ _ _ _ h => h
theorem ProgR.lift {w : World} {n0 n1 : Nat} {v1 v2 v3 : Value} {P : PP} (h : ProgR w n0 v1 v2 v3 P) (hn : n0 ≤ n1) : ProgR w n1 v1 v2 v3 P :=
  ⟨ElR.lift h.vars hn, ElR.mono h.funs hn fun i y _ _ hE f hf => by
    obtain ⟨pv, h1, h2, h3, h4⟩ := hE f hf
    exact ⟨pv, h1, h2, h3, ElR.lift h4 hn⟩, ElR.mono h.stmts hn fun i y _ _ hE f hf => by
    obtain ⟨pv, h1, h2, h3, h4, h5⟩ := hE f hf
    exact ⟨pv, h1, h2, h3, h4, ElR.lift h5 hn⟩⟩
theorem IntsR.at {w : World} {n0 : Nat} {a : Option Addr} {n cap : Nat} {l : List Int} (h : IntsR w n0 (.slice a n cap) l) {k : Nat} (hk : k < l.length) : ∃ y q, a = some y ∧ l[k]? = some q ∧ w.cell? (y.add k) = some (.int .i64 q) := by
  obtain ⟨a', cap', h1, h2, h3, h4, h5⟩ := h
  obtain ⟨rfl, rfl, rfl⟩ : a = a' ∧ n = l.length ∧ cap = cap' := by simpa using h1
  obtain ⟨y, rfl⟩ := h4 (by omega)
  have hx : l[k]? = some (l[k]'hk) := List.getElem?_eq_getElem hk
  exact ⟨y, _, rfl, hx, (h5 y rfl (by omega)).2 k hk _ hx⟩
theorem PP.funs_ok {P : PP} (h : P.err1 = 0) : P.funsErr = 0 := by
  unfold PP.err1 at h
  cases hb : P.big with
  | true => rw [hb] at h; simp at h
  | false =>
    rw [hb] at h
    simp only [cond_false] at h
    split at h
    · omega
    · split at h
      · omega
      · exact h
def FaultIs (P : PP) (c : Nat) (p : Int) : Prop :=
  (P.err1 ≠ 0 ∧ c = P.err1 ∧ p = -1) ∨ (P.err1 = 0 ∧ P.allWell ∧ c = 0 ∧ p = -1) ∨ (P.err1 = 0 ∧ ∃ i s, P.FirstBad i s ∧ c = P.stmtErr s ∧ p = (i : Int))
theorem two_keep (w : World) (g : Nat) (v0 v1 : Value) : Keep (fun b => b = g) w ((w.setCell ⟨g, 0, none⟩ v0).setCell ⟨g, 1, none⟩ v1) :=
  have k : ∀ (u : World) j v, Keep (fun b => b = g) w u → Keep (fun b => b = g) w (u.setCell ⟨g, j, none⟩ v) := fun _ _ v h => h.set rfl v
  k _ _ _ (k _ _ _ (Keep.refl _ w))
theorem two {w : World} {g : Nat} {x0 x1 v0 v1 : Value} {t : TypeId} (h : Blk w g #[x0, x1] t) : Blk ((w.setCell ⟨g, 0, none⟩ v0).setCell ⟨g, 1, none⟩ v1) g #[v0, v1] t := by
  have := (h.set 0 v0).set 1 v1
  simpa using this
set_option maxRecDepth 100000 in
theorem rbare_any (n : Int) (w : World) : Calls Tryz.prog 20 #[.int .i64 n] w fun e w' => e = .returned (.agg #[.int .i64 n, .int .i64 (-1)]) ∧ Ext w w' := by
  have hB := Blk.new w #[.int .i64 0, .int .i64 0] 30
  have c0 := (two (v0 := .int .i64 n) (v1 := .int .i64 (-1)) hB).av 0 rfl
  have c1 := (two (v0 := .int .i64 n) (v1 := .int .i64 (-1)) hB).av 1 rfl
  have z0 := hB.av 0 rfl
  have z1 := hB.av 1 rfl
  have f0 := hB.free 0
  have f1 := hB.free 1
  go_enter Tryz.func20, Tryz.ntmps20
  go_wp2
  refine bodyPost_ret (v := .agg #[.int .i64 n, .int .i64 (-1)]) ?_ rfl ?_
  · simp [results, Tryz.results20, go_sem, c0, c1]
  exact ⟨rfl, (Ext.refl w).alloc _⟩
set_option maxRecDepth 100000 in
theorem rfine_any (w : World) : Calls Tryz.prog 39 #[] w fun e w' => e = .returned (.agg #[.int .i64 0, .int .i64 (-1)]) ∧ Ext w w' := by
  have hB := Blk.new w #[.int .i64 0, .int .i64 0] 30
  have c0 := (two (v0 := .int .i64 0) (v1 := .int .i64 (-1)) hB).av 0 rfl
  have c1 := (two (v0 := .int .i64 0) (v1 := .int .i64 (-1)) hB).av 1 rfl
  have z0 := hB.av 0 rfl
  have z1 := hB.av 1 rfl
  have f0 := hB.free 0
  have f1 := hB.free 1
  go_enter Tryz.func39, Tryz.ntmps39
  go_wp2
  refine bodyPost_ret (v := .agg #[.int .i64 0, .int .i64 (-1)]) ?_ rfl ?_
  · simp [results, Tryz.results39, go_sem, c0, c1]
  exact ⟨rfl, (Ext.refl w).alloc _⟩
theorem anyBad_of {l : List ByteArray} {k : Nat} {s : ByteArray} (h : l[k]? = some s) (hn : nameOk s = false) : anyBad l = true := List.any_eq_true.2 ⟨s, List.mem_of_getElem? h, by rw [hn]; rfl⟩
theorem anyBad_no {l : List ByteArray} (h : ∀ j s, j < l.length → l[j]? = some s → nameOk s = true) : anyBad l = false := List.any_eq_false.2 fun s hs => by
  obtain ⟨j, hj, e⟩ := List.mem_iff_getElem.1 hs
  rw [h j s hj (by rw [List.getElem?_eq_getElem hj, e])]
  decide
theorem dupS_of {l : List ByteArray} {i k : Nat} {s t : ByteArray} (hk : k < i) (h : l[i]? = some s) (h2 : l[k]? = some t) (he : eqB s t = true) : dupS l = true := by
  have hi : i < l.length := by
    rcases Nat.lt_or_ge i l.length with h' | h'
    · exact h'
    · rw [List.getElem?_eq_none h'] at h; cases h
  refine List.any_eq_true.2 ⟨i, List.mem_range.2 hi, List.any_eq_true.2 ⟨t, ?_, ?_⟩⟩
  · exact List.mem_of_getElem? (i := k) (by rw [List.getElem?_take, if_pos hk]; exact h2)
  · rw [List.getD_eq_getElem?_getD, h]; exact he
theorem dupS_no {l : List ByteArray} (h : ∀ (i k : Nat) (s t : ByteArray), i < l.length → k < i → l[i]? = some s → l[k]? = some t → eqB s t = false) : dupS l = false := by
  refine List.any_eq_false.2 fun i hi => ?_
  have hi' := List.mem_range.1 hi
  rw [Bool.not_eq_true]
  refine List.any_eq_false.2 fun t ht => ?_
  obtain ⟨k, hk, e⟩ := List.mem_iff_getElem.1 ht
  have hki : k < i := by rw [List.length_take] at hk; omega
  have e2 : l[k]? = some t := by
    have : (l.take i)[k]? = some t := by rw [List.getElem?_eq_getElem hk, e]
    rwa [List.getElem?_take, if_pos hki] at this
  have e1 : l[i]? = some (l.getD i ⟨#[]⟩) := by simp [List.getD_eq_getElem?_getD, hi']
  rw [h i k _ t hi' hki e1 e2]
  decide
def rgv (s : Rn) : Vl → Value
  | .var n => .tuple #[.agg #[.string (s.vars.getD n .none).kind, .int .i64 ((s.vars.getD n .none).num : Int)], .bool true]
  | .thing n => .tuple #[.agg #[.string (s.things.getD n .none).kind, .int .i64 ((s.things.getD n .none).num : Int)], .bool true]
  | _ => .tuple #[.agg #[.string ⟨#[]⟩, .int .i64 0], .bool false]
end Go.Proofs.YtihdpijgngooaaaGreatDoor
