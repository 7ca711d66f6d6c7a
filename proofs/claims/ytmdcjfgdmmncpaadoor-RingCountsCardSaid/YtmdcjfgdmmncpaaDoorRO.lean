/- RingOver walked. -/
import Derived.Test.YtmdcjfgdmmncpaaDoorR9
import Derived.OpenShut
namespace Go.Proofs.YtmdcjfgdmmncpaaDoor
open Go Go.RowKit

/-- A slice of ints that came in: its numbers are vs. -/
structure Ints (w : World) (a : Option Addr) (len : Nat) (vs : List Int) : Prop where
  ln : vs.length = len
  sm : 0 < len → ∃ x, a = some x
  cl : ∀ x, a = some x → ∀ i, i < len → w.cell? (x.add i) = some (.int .i64 (vs.getD i 0))
  hi : ∀ i, vs.getD i 0 ≤ 9223372036854775807
theorem cell_lt {w : World} {x : Addr} {v : Value} (h : w.cell? x = some v) : x.block < w.heap.size := by
  rcases Nat.lt_or_ge x.block w.heap.size with h4 | h4
  · exact h4
  · simp [World.cell?, Array.getElem?_eq_none h4] at h
theorem add_block (x : Addr) (i : Nat) : (x.add i).block = x.block := by unfold Addr.add; split <;> rfl
theorem Ext.cellx {w w' : World} (h : Ext w w') {x : Addr} {v : Value} (hc : w.cell? x = some v) : w'.cell? x = some v := by
  have hb := h.block x.block (cell_lt hc)
  unfold World.cell? at *
  rw [hb]
  exact hc

/-- What a slice of ints that came in is. -/
theorem ints_of {H : Type} {enc : TypeId × Value → H} {P : Program} {w : World} {base : Nat} {sp : Nat → Bool} {held : Bool} {t e : TypeId} {d : DataW H} {p : List MemPlace} {a : Option Addr} {len cap : Nat}
    (ht : P.underlying t = some (.slice e)) (he : P.underlying e = some (.int .i64)) (hz : P.cellsOf e = 1)
    (h : DataW.Trod enc P w base sp held t (Value.slice a len cap) d p) : ∃ vs, Ints w a len vs ∧ (len : Int) ≤ 9223372036854775807 := by
  obtain ⟨fuel, hf⟩ := h
  rcases ChangeShapes.open_ints ht he hz hf with ⟨hcs, _⟩ | ⟨x, l, c, zs, hcs, _, hl, hm, hz, _, hcell, hwz⟩
  · simp [Value.cells] at hcs
    obtain ⟨rfl, rfl, rfl⟩ := hcs
    exact ⟨[], ⟨rfl, fun h => by omega, fun x hx => (by cases hx), fun i => by simp⟩, by omega⟩
  · simp [Value.cells] at hcs
    obtain ⟨rfl, rfl, rfl⟩ := hcs
    have hz' : len ≤ zs.length := by rw [hz]; split <;> omega
    have hml : maxLen ≤ 9223372036854775807 := by unfold maxLen; decide
    refine ⟨zs.take len, ⟨by simp; omega, fun _ => ⟨_, rfl⟩, fun y hy i hi => ?_, fun i => ?_⟩, by omega⟩
    · obtain rfl := Option.some.inj hy
      have := hcell i (by omega)
      rw [this]
      congr 2
      simp [List.getD_eq_getElem?_getD, List.getElem?_take, hi]
    · rcases Nat.lt_or_ge i (zs.take len).length with h1 | h1
      · have hmem : (zs.take len).getD i 0 ∈ zs := by
          have : (zs.take len).getD i 0 = (zs.take len)[i] := by simp [List.getD_eq_getElem?_getD, List.getElem?_eq_getElem h1]
          rw [this]
          exact List.mem_of_mem_take (List.getElem_mem h1)
        exact (bounds_i64 (hwz _ hmem)).2
      · simp [List.getD_eq_getElem?_getD, List.getElem?_eq_none h1]

set_option maxRecDepth 100000 in
set_option maxHeartbeats 1600000 in
theorem ringOver_no (n : Int) (a : Option Addr) (len cap : Nat) (w : World) (hl : (len : Int) ≤ 9223372036854775807) (hn : 300 < len ∨ n < 2 ∨ 6 < n) :
    Calls Tryd.prog 4 #[.int .i64 n, .slice a len cap] w fun e w' => e = .returned (.bool true) ∧ Ext w w' := by
  have HN := hid (ringed_any w)
  go_enter Tryd.func4, Tryd.ntmps4
  go_wp2_with fail
  refine HN.out.mono ?_
  intro e w1 hx
  obtain ⟨rfl, hext⟩ := hx
  clear HN
  by_cases h1 : 300 < len
  · clear hn
    go_wp2
    go_ret
    exact ⟨rfl, hext⟩
  by_cases h2 : n < 2
  · clear hn
    go_wp2
    go_ret
    exact ⟨rfl, hext⟩
  · have h3 : 6 < n := by omega
    clear hn
    go_wp2
    go_ret
    exact ⟨rfl, hext⟩

set_option maxRecDepth 100000 in
set_option maxHeartbeats 3200000 in
theorem ringOver_yes (n : Nat) (a : Option Addr) (len cap : Nat) (vs : List Int) (w : World) (hr : Ints w a len vs) (hl : len ≤ 300) (hn1 : 2 ≤ n) (hn2 : n ≤ 6) :
    Calls Tryd.prog 4 #[.int .i64 (n : Int), .slice a len cap] w fun e w' => e = .returned (.bool true) ∧ Ext w w' := by
  have HN := hid (ringed_any w)
  go_enter Tryd.func4, Tryd.ntmps4
  go_wp2_with fail
  refine HN.out.mono ?_
  intro e w1 hx
  obtain ⟨rfl, hext⟩ := hx
  clear HN
  have HN := hid (new_any n hn1 hn2 w1)
  go_wp2_with fail
  refine HN.out.mono ?_
  intro e W hx
  obtain ⟨p, b1, b2, su, rfl, hra, hext2, hp, hb1, hb2, hsu⟩ := hx
  clear HN
  have hsz := hext.size
  have hWe := hext.trans hext2
  have hin := RIn.start hra hsu
  have hc : ∀ x, a = some x → ∀ i, i < len → ∀ s wr, RIn W p b1 b2 s wr → wr.cell? (x.add i) = some (.int .i64 (vs.getD i 0)) := fun x hx i hi s wr hi2 => by
    have c := hr.cl x hx i hi
    have hlt := cell_lt c
    exact hi2.cell (hWe.cellx c) (by omega) (by omega) (by omega)
  have hfin : ∀ s wr, RIn W p b1 b2 s wr → Ext w wr := fun s wr h => Keep.new hWe h.keep fun g hg => by
    have := hWe.size
    rcases hg with hg | hg | hg | hg <;> omega
  have Hc := hid hc
  have Hf := hid hfin
  have Hr := hid hr
  have ok0 := RS.Ok.init hn1 hn2
  have inv0 := RS.Inv.init hn1
  have hn0 : (RS.init n).n = n := by simp [RS.n, RS.init]
  clear hc hfin hra hext hext2 hWe hr hsz hp hb1 hb2 hsu
  go_wp2
  go_loopw [8] (fun t8 wr => ∃ (k : Nat) (s : RS), t8 = .int .i64 (k : Int) ∧ k ≤ len ∧ RIn W p b1 b2 s wr ∧ s.Ok k ∧ s.Inv ∧ s.n = n) (fun t8 _ => len - (intOf t8).toNat)
  case atStart => exact ⟨0, _, rfl, by omega, hin, ok0, inv0, hn0⟩
  case round =>
    obtain ⟨k, s, rfl, hk, hi, ok, inv, hsn⟩ := hrel
    clear ok0 inv0 hn0 hin
    by_cases hlt : k < len
    · obtain ⟨x, rfl⟩ := Hr.out.sm (by omega)
      have hcw := Hc.out x rfl k hlt s _ hi
      have C := hi.does ok (by omega) (vs.getD k 0) (Hr.out.hi k)
      have ok' := ok.does (vs.getD k 0)
      have inv' := inv.does (vs.getD k 0)
      have hn' := (RS.n_does s (vs.getD k 0)).trans hsn
      generalize vs.getD k 0 = v at *
      generalize s.does v = s' at *
      have HC := hid C
      clear C ok inv hsn
      go_wp2_with fail
      refine HC.out.mono ?_
      intro e w2 hx
      obtain ⟨rfl, hi2⟩ := hx
      clear HC hi
      have H1 := hid hi2.told
      have H2 := hid (hi2.active ok')
      have H3 := hid hi2.under
      cases ht : s'.told with
      | true =>
        obtain ⟨e1, e2⟩ := inv'.safe ht
        rw [ht] at H1
        rw [e1] at H2
        rw [e2] at H3
        clear e1 e2 ht
        go_wp2_with fail
        refine H1.out.mono ?_
        intro e w3 hx
        obtain ⟨rfl, rfl⟩ := hx
        go_wp2_with fail
        refine H2.out.mono ?_
        intro e w3 hx
        obtain ⟨rfl, rfl⟩ := hx
        go_wp2_with fail
        refine H3.out.mono ?_
        intro e w3 hx
        obtain ⟨rfl, rfl⟩ := hx
        clear H1 H2 H3
        go_wp2
        go_roundw
        case rel => exact ⟨k + 1, s', by go_num, by omega, hi2, ok', inv', hn'⟩
        case measure => simp [intOf]; omega
      | false =>
        rw [ht] at H1
        clear ht H2 H3
        go_wp2_with fail
        refine H1.out.mono ?_
        intro e w3 hx
        obtain ⟨rfl, rfl⟩ := hx
        clear H1
        go_wp2
        go_roundw
        case rel => exact ⟨k + 1, s', by go_num, by omega, hi2, ok', inv', hn'⟩
        case measure => simp [intOf]; omega
    · obtain rfl : k = len := by omega
      clear Hc Hr
      have hul := ok.ul
      go_wp2
      go_loopw [9] (fun t9 wr => ∃ (j : Nat) (s : RS), t9 = .int .i64 (j : Int) ∧ s.un.length + j ≤ 300 ∧ RIn W p b1 b2 s wr ∧ s.Ok (300 + j) ∧ s.Inv ∧ s.n = n) (fun t9 _ => 400 - (intOf t9).toNat)
      case atStart => exact ⟨0, s, rfl, by omega, hi, ok.mono (by omega), inv, hsn⟩
      case round =>
        clear hi ok inv hsn hul hk hlt
        obtain ⟨j, s1, rfl, hj, hi, ok, inv, hsn⟩ := hrel
        have H3 := hid hi.under
        by_cases hu : 0 < s1.un.length
        · have C := hid (hi.does ok (by omega) 1 (by omega))
          have ok' := ok.does 1
          have inv' := inv.does 1
          have hn' := (RS.n_does s1 1).trans hsn
          have hl' : (s1.does 1).un.length + (j + 1) ≤ 300 := by
            have ht : s1.told = false := by
              cases ht : s1.told with
              | false => rfl
              | true => have := (inv.safe ht).2; omega
            rw [RS.does1_len ht hu]; omega
          generalize s1.does 1 = s' at *
          clear ok inv hsn
          go_wp2_with fail
          refine H3.out.mono ?_
          intro e w2 hx
          obtain ⟨rfl, rfl⟩ := hx
          go_wp2_with fail
          refine C.out.mono ?_
          intro e w2 hx
          obtain ⟨rfl, hi2⟩ := hx
          clear C H3 hi
          go_wp2
          go_roundw
          case rel => exact ⟨j + 1, s', by go_num, hl', hi2, ok', inv', hn'⟩
          case measure => simp [intOf]; omega
        · have hu0 : s1.un.length = 0 := by omega
          go_wp2_with fail
          refine H3.out.mono ?_
          intro e w2 hx
          obtain ⟨rfl, rfl⟩ := hx
          clear H3
          go_wp2
          go_loopw [10] (fun t10 wr => ∃ i : Nat, t10 = .int .i64 (i : Int) ∧ i ≤ n ∧ RIn W p b1 b2 (s1.hush i) wr ∧ (s1.hush i).Ok (600 + i)) (fun t10 _ => n - (intOf t10).toNat)
          case atStart => exact ⟨0, rfl, by omega, hi, ok.mono (by omega)⟩
          case round =>
            clear hi ok hj
            obtain ⟨i, rfl, hin, hi, ok⟩ := hrel
            by_cases hlt : i < n
            · have C := hid (hi.does ok (by omega) (4 * (i : Int) + 2) (by omega))
              have ok' := ok.does (4 * (i : Int) + 2)
              go_wp2_with fail
              refine C.out.mono ?_
              intro e w2 hx
              obtain ⟨rfl, hi2⟩ := hx
              clear C hi
              go_wp2
              go_roundw
              case rel => exact ⟨i + 1, by go_num, by omega, hi2, ok'⟩
              case measure => simp [intOf]; omega
            · obtain rfl : i = n := by omega
              go_wp2
              go_loopw [11] (fun t11 wr => ∃ q : Nat, t11 = .int .i64 (q : Int) ∧ q ≤ 3 * i + 3 ∧ RIn W p b1 b2 ((s1.hush i).times 3 q) wr ∧ ((s1.hush i).times 3 q).Ok (700 + q)) (fun t11 _ => 3 * i + 3 - (intOf t11).toNat)
              case atStart => exact ⟨0, rfl, by omega, hi, ok.mono (by omega)⟩
              case round =>
                clear hi ok hin
                obtain ⟨q, rfl, hq, hi, ok⟩ := hrel
                by_cases hlt2 : q < 3 * i + 3
                · have C := hid (hi.does ok (by omega) 3 (by omega))
                  have ok' := ok.does 3
                  go_wp2_with fail
                  refine C.out.mono ?_
                  intro e w2 hx
                  obtain ⟨rfl, hi2⟩ := hx
                  clear C hi
                  go_wp2
                  go_roundw
                  case rel => exact ⟨q + 1, by go_num, by omega, hi2, ok'⟩
                  case measure => simp [intOf]; omega
                · obtain rfl : q = 3 * i + 3 := by omega
                  have ht := RS.ends_told inv hu0
                  rw [hsn] at ht
                  have inv2 := RS.times_inv (RS.hush_inv inv i) 3 (3 * i + 3)
                  generalize (s1.hush i).times 3 (3 * i + 3) = s2 at *
                  obtain ⟨e1, e2⟩ := inv2.safe ht
                  have H1 := hid hi.told
                  have H2 := hid (hi.active ok)
                  have H3 := hid hi.under
                  rw [ht] at H1
                  rw [e1] at H2
                  rw [e2] at H3
                  have hE := hid (Hf.out _ _ hi)
                  clear e1 e2 ht inv2 ok inv hsn hi
                  go_wp2_with fail
                  refine H1.out.mono ?_
                  intro e w3 hx
                  obtain ⟨rfl, rfl⟩ := hx
                  go_wp2_with fail
                  refine H2.out.mono ?_
                  intro e w3 hx
                  obtain ⟨rfl, rfl⟩ := hx
                  go_wp2_with fail
                  refine H3.out.mono ?_
                  intro e w3 hx
                  obtain ⟨rfl, rfl⟩ := hx
                  clear H1 H2 H3
                  go_wp2
                  go_ret
                  exact ⟨rfl, hE.out⟩

/-- The walk: whatever the number, whatever the list. -/
theorem ringOver_any (n : Int) (a : Option Addr) (len cap : Nat) (vs : List Int) (w : World) (hr : Ints w a len vs) (hl : (len : Int) ≤ 9223372036854775807) :
    Calls Tryd.prog 4 #[.int .i64 n, .slice a len cap] w fun e w' => e = .returned (.bool true) ∧ Ext w w' := by
  by_cases h : 300 < len ∨ n < 2 ∨ 6 < n
  · exact ringOver_no n a len cap w hl h
  · obtain ⟨k, rfl⟩ : ∃ k : Nat, n = (k : Int) := ⟨n.toNat, by omega⟩
    exact ringOver_yes k a len cap vs w hr (by omega) (by omega) (by omega)
end Go.Proofs.YtmdcjfgdmmncpaaDoor
