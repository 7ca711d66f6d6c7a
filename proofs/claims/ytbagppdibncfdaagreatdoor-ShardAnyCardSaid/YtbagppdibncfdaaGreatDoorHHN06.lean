/- Texts of one proof, put together: W2. -/
import Derived.Test.YtbagppdibncfdaaGreatDoorHHN05
set_option linter.unusedSimpArgs false
set_option linter.unusedVariables false
namespace Go.Proofs.YtbagppdibncfdaaGreatDoor
open Go Go.RowKit Go.Shelf
open Go.Lib (trimS trimLeftS trimRightS toList_data)
theorem dw_nil {p : UInt8 → Bool} : ∀ l : List UInt8, (∀ x ∈ l, p x = true) → l.dropWhile p = []
  | [], _ => rfl
  | a :: l, h => by
    rw [List.dropWhile_cons, h a (List.mem_cons_self ..)]
    exact dw_nil l fun x hx => h x (List.mem_cons_of_mem _ hx)
theorem dw_mem {p : UInt8 → Bool} : ∀ (l : List UInt8) (b : UInt8), b ∈ l → p b = false → ∃ a r, l.dropWhile p = a :: r ∧ p a = false
  | a :: l, b, hb, hp => by
    cases ha : p a with
    | false => exact ⟨a, l, by rw [List.dropWhile_cons, ha]; rfl, ha⟩
    | true =>
      rcases List.mem_cons.1 hb with rfl | hb
      · rw [ha] at hp; cases hp
      · rw [List.dropWhile_cons, ha]
        exact dw_mem l b hb hp
theorem trimS_nil (l cs : List UInt8) : trimS l cs = [] ↔ ∀ b ∈ l, cs.contains b = true := by
  unfold trimS trimLeftS trimRightS
  constructor
  · intro h b hb
    cases hp : cs.contains b with
    | true => rfl
    | false =>
      obtain ⟨a, r, he, ha⟩ := dw_mem (p := (cs.contains ·)) l.reverse b (List.mem_reverse.2 hb) hp
      rw [he] at h
      obtain ⟨a2, r2, he2, _⟩ := dw_mem (p := (cs.contains ·)) (a :: r).reverse a (List.mem_reverse.2 (List.mem_cons_self ..)) ha
      rw [he2] at h
      cases h
  · intro h
    rw [dw_nil (p := (cs.contains ·)) l.reverse fun x hx => h x (List.mem_reverse.1 hx)]
    rfl
def okAt (b k : Nat) : Bool := (decide (97 ≤ b) && decide (b ≤ 122)) || (decide (48 ≤ b) && decide (b ≤ 57) && !decide (k = 0))
theorem letters_has (b : UInt8) : lettersS.data.toList.contains b = ((decide (97 ≤ b.toNat) && decide (b.toNat ≤ 122)) || (decide (48 ≤ b.toNat) && decide (b.toNat ≤ 57))) := by
  have h : ∀ n, n < 256 → lettersS.data.toList.contains (UInt8.ofNat n) = ((decide (97 ≤ n) && decide (n ≤ 122)) || (decide (48 ≤ n) && decide (n ≤ 57))) := by decide +kernel
  have := h b.toNat b.toNat_lt
  rwa [UInt8.ofNat_toNat] at this
theorem nameRest_iff (s : ByteArray) : nameRest s = true ↔ ∀ (k : Nat) (h : k < s.size), lettersS.data.toList.contains s[k] = true := by
  unfold nameRest eqB
  rw [beq_iff_eq, toList_data, toList_data]
  show trimS s.data.toList lettersS.data.toList = [] ↔ _
  rw [trimS_nil]
  constructor
  · intro h k hk
    refine h _ ?_
    have : s.data.toList[k]? = some s[k] := by
      rw [List.getElem?_eq_getElem (by simpa using hk)]
      rfl
    exact List.mem_of_getElem? this
  · intro h b hb
    obtain ⟨k, hk, e⟩ := List.mem_iff_getElem.1 hb
    have hk' : k < s.size := by simpa using hk
    have := h k hk'
    rwa [show s[k] = b from e] at this
theorem nameOk_iff (s : ByteArray) : nameOk s = true ↔ memB s reserved = false ∧ 1 ≤ s.size ∧ s.size ≤ 8 ∧ ∀ (k : Nat) (h : k < s.size), okAt s[k].toNat k = true := by
  unfold nameOk
  simp only [Bool.and_eq_true, Bool.not_eq_true', decide_eq_true_eq]
  rw [nameRest_iff]
  have he : s.toList.isEmpty = false ↔ 1 ≤ s.size := by
    rw [toList_data]
    have hl : s.data.toList.length = s.size := by simp
    cases h : s.data.toList with
    | nil =>
      have hz : s.size = 0 := by rw [← hl, h]; rfl
      exact ⟨fun h => (by cases h), fun h => by omega⟩
    | cons a r =>
      have hz : s.size = r.length + 1 := by rw [← hl, h]; rfl
      exact ⟨fun _ => by omega, fun _ => rfl⟩
  rw [he]
  constructor
  · rintro ⟨h1, ⟨⟨⟨⟨h2, h3⟩, h4⟩, h5⟩, h6⟩⟩
    refine ⟨h1, h2, h3, fun k hk => ?_⟩
    have h7 := h6 k hk
    rw [letters_has] at h7
    unfold okAt
    by_cases h0 : k = 0
    · subst h0
      have hf : first s = s[0].toNat := by unfold first; rw [dif_pos hk]
      rw [hf] at h4 h5
      simp [h4, h5]
    · simp only [h0, decide_false, Bool.not_false, Bool.and_true]
      exact h7
  · rintro ⟨h1, h2, h3, h4⟩
    have hz : 0 < s.size := h2
    have hf : first s = s[0].toNat := by unfold first; rw [dif_pos hz]
    have h0 := h4 0 hz
    unfold okAt at h0
    simp at h0
    refine ⟨h1, ⟨⟨⟨⟨h2, h3⟩, by rw [hf]; exact h0.1⟩, by rw [hf]; exact h0.2⟩, fun k hk => ?_⟩⟩
    have h5 := h4 k hk
    rw [letters_has]
    unfold okAt at h5
    simp only [Bool.or_eq_true, Bool.and_eq_true] at h5 ⊢
    exact h5.imp id fun h => h.1
set_option maxRecDepth 100000 in
set_option maxHeartbeats 3200000 in
theorem risname_any (s : ByteArray) (w : World) (hs : s.size ≤ 9223372036854775807) : Calls Tryz.prog 51 #[.string s] w fun e w' => e = .returned (.bool (nameOk s)) ∧ w = w' := by
  go_enter Tryz.func51, Tryz.ntmps51
  have hres : memB s reserved = ((s.toList == [118, 97, 114]) || ((s.toList == [102, 110]) || ((s.toList == [110, 101, 119]) || (s.toList == [99, 97, 108, 108])))) := by
    have t1 : (⟨#[118, 97, 114]⟩ : ByteArray).toList = [118, 97, 114] := by decide +kernel
    have t2 : (⟨#[102, 110]⟩ : ByteArray).toList = [102, 110] := by decide +kernel
    have t3 : (⟨#[110, 101, 119]⟩ : ByteArray).toList = [110, 101, 119] := by decide +kernel
    have t4 : (⟨#[99, 97, 108, 108]⟩ : ByteArray).toList = [99, 97, 108, 108] := by decide +kernel
    simp only [memB, reserved, List.any_cons, List.any_nil, Bool.or_false, eqB, t1, t2, t3, t4]
  cases hm : memB s reserved with
  | true =>
    have Hr := hid (show nameOk s = false by unfold nameOk; rw [hm]; rfl)
    rw [hm] at hres
    have Hres := hid hres
    clear hm hres
    cases h1 : (s.toList == [118, 97, 114]) with
    | true =>
      go_wp2
      go_ret
      exact ⟨by rw [Hr.out]; rfl, rfl⟩
    | false =>
      cases h2 : (s.toList == [102, 110]) with
      | true =>
        go_wp2
        go_ret
        exact ⟨by rw [Hr.out]; rfl, rfl⟩
      | false =>
        cases h3 : (s.toList == [110, 101, 119]) with
        | true =>
        go_wp2
        go_ret
        exact ⟨by rw [Hr.out]; rfl, rfl⟩
        | false =>
          cases h4 : (s.toList == [99, 97, 108, 108]) with
          | true =>
        go_wp2
        go_ret
        exact ⟨by rw [Hr.out]; rfl, rfl⟩
          | false => have hres := Hres.out; rw [h1, h2, h3, h4] at hres; cases hres
  | false =>
    have Hm := hid hm
    rw [hm] at hres
    obtain ⟨h1, h2, h3, h4⟩ : (s.toList == [118, 97, 114]) = false ∧ (s.toList == [102, 110]) = false ∧ (s.toList == [110, 101, 119]) = false ∧ (s.toList == [99, 97, 108, 108]) = false := by
      have := hres.symm
      simp only [Bool.or_eq_false_iff] at this
      exact ⟨this.1, this.2.1, this.2.2.1, this.2.2.2⟩
    clear hm hres
    go_wp2
    clear h1 h2 h3 h4
    go_loop [3] (fun t3 => ∃ k : Nat, t3 = .int .i64 (k : Int) ∧ k ≤ s.size ∧ ∀ (j : Nat) (h : j < s.size), j < k → okAt s[j].toNat j = true) (fun t3 => s.size - (intOf t3).toNat)
    case atStart => exact ⟨0, rfl, Nat.zero_le _, fun j h hj => by omega⟩
    case round =>
      obtain ⟨k, rfl, hk, hp⟩ := hrel
      have Hp := hid hp
      clear hp
      by_cases hlt : k < s.size
      · have hb : s[k].toNat < 256 := byte_lt _
        by_cases l1 : 97 ≤ s[k].toNat
        · by_cases l2 : s[k].toNat ≤ 122
          · have Hok := hid (show okAt s[k].toNat k = true by unfold okAt; simp [l1, l2])
            have d1 : 48 ≤ s[k].toNat := by omega
            have d2 : ¬ s[k].toNat ≤ 57 := by omega
            go_wp2
            refine ⟨⟨k + 1, by go_num, by omega, fun j h hj => ?_⟩, by simp [intOf]; omega⟩
            by_cases hjk : j = k
            · subst hjk
              exact Hok.out
            · exact Hp.out j h (by omega)
          · have d1 : 48 ≤ s[k].toNat := by omega
            have d2 : ¬ s[k].toNat ≤ 57 := by omega
            have e1 : decide ((s[k].toNat : Int) ≤ 122) = false := decide_eq_false (by omega)
            have e2 : decide ((s[k].toNat : Int) ≤ 57) = false := decide_eq_false (by omega)
            have Hr := hid (show nameOk s = false by
              cases hn : nameOk s with
              | false => rfl
              | true =>
                have h := ((nameOk_iff s).1 hn).2.2.2 k hlt
                unfold okAt at h
                simp at h
                omega)
            go_wp2
            go_ret
            exact ⟨by rw [Hr.out]; rfl, rfl⟩
        · by_cases d1 : 48 ≤ s[k].toNat
          · by_cases d2 : s[k].toNat ≤ 57
            · by_cases h0 : k = 0
              · subst h0
                have Hr := hid (show nameOk s = false by
                  cases hn : nameOk s with
                  | false => rfl
                  | true =>
                    have h := ((nameOk_iff s).1 hn).2.2.2 0 hlt
                    unfold okAt at h
                    simp at h
                    omega)
                go_wp2
                go_ret
                exact ⟨by rw [Hr.out]; rfl, rfl⟩
              · have Hok := hid (show okAt s[k].toNat k = true by unfold okAt; simp [d1, d2, h0])
                go_wp2
                refine ⟨⟨k + 1, by go_num, by omega, fun j h hj => ?_⟩, by simp [intOf]; omega⟩
                by_cases hjk : j = k
                · subst hjk
                  exact Hok.out
                · exact Hp.out j h (by omega)
            · have e2 : decide ((s[k].toNat : Int) ≤ 57) = false := decide_eq_false (by omega)
              have Hr := hid (show nameOk s = false by
                cases hn : nameOk s with
                | false => rfl
                | true =>
                  have h := ((nameOk_iff s).1 hn).2.2.2 k hlt
                  unfold okAt at h
                  simp at h
                  omega)
              go_wp2
              go_ret
              exact ⟨by rw [Hr.out]; rfl, rfl⟩
          · have Hr := hid (show nameOk s = false by
              cases hn : nameOk s with
              | false => rfl
              | true =>
                have h := ((nameOk_iff s).1 hn).2.2.2 k hlt
                unfold okAt at h
                simp at h
                omega)
            go_wp2
            go_ret
            exact ⟨by rw [Hr.out]; rfl, rfl⟩
      · obtain rfl : k = s.size := by omega
        have Hall := hid (show ∀ (j : Nat) (h : j < s.size), okAt s[j].toNat j = true from fun j h => Hp.out j h h)
        by_cases z1 : 1 ≤ s.size
        · by_cases z2 : s.size ≤ 8
          · have Hr := hid ((nameOk_iff s).2 ⟨Hm.out, z1, z2, Hall.out⟩)
            have H8 := hid (show decide ((s.size : Int) ≤ 8) = true from decide_eq_true (by omega))
            go_wp2
            go_ret
            exact ⟨by rw [Hr.out]; exact congrArg (fun b => Ending.returned (Value.bool b)) H8.out, rfl⟩
          · have Hr := hid (show nameOk s = false by
              cases hn : nameOk s with
              | false => rfl
              | true => exact absurd ((nameOk_iff s).1 hn).2.2.1 z2)
            have H8 := hid (show decide ((s.size : Int) ≤ 8) = false from decide_eq_false (by omega))
            go_wp2
            go_ret
            exact ⟨by rw [Hr.out]; exact congrArg (fun b => Ending.returned (Value.bool b)) H8.out, rfl⟩
        · have Hr := hid (show nameOk s = false by
            cases hn : nameOk s with
            | false => rfl
            | true => exact absurd ((nameOk_iff s).1 hn).2.1 z1)
          go_wp2
          go_ret
          exact ⟨by rw [Hr.out]; rfl, rfl⟩
end Go.Proofs.YtbagppdibncfdaaGreatDoor
