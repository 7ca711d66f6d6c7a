/- RingCounts walked. -/
import Derived.Test.YtmdcjfgdmmncpaaDoorRO
import Derived.Test.YtmdcjfgdmmncpaaDoorRCL
namespace Go.Proofs.YtmdcjfgdmmncpaaDoor
open Go Go.RowKit



set_option maxRecDepth 100000 in
set_option maxHeartbeats 1600000 in
theorem ringCounts_no (n : Int) (a : Option Addr) (len cap : Nat) (a2 : Option Addr) (len2 cap2 : Nat) (w : World) (hl : (len : Int) ≤ 9223372036854775807) (hl2 : (len2 : Int) ≤ 9223372036854775807) (hn : 300 < len ∨ 60 < len2 ∨ n < 2 ∨ 6 < n) :
    Calls Tryd.prog 5 #[.int .i64 n, .slice a len cap, .slice a2 len2 cap2] w fun e w' => e = .returned (.bool true) ∧ Ext w w' := by
  have HN := hid (ringed_any w)
  go_enter Tryd.func5, Tryd.ntmps5
  go_wp2_with fail
  refine HN.out.mono ?_
  intro e w1 hx
  obtain ⟨rfl, hext⟩ := hx
  clear HN
  by_cases h1 : 300 < len
  · clear hn
    go_wp2
    go_ret
    exact ⟨rfl, hext⟩
  by_cases h0 : 60 < len2
  · clear hn
    go_wp2
    go_ret
    exact ⟨rfl, hext⟩
  by_cases h2 : n < 2
  · clear hn
    go_wp2
    go_ret
    exact ⟨rfl, hext⟩
  · have h3 : 6 < n := by omega
    clear hn
    go_wp2
    go_ret
    exact ⟨rfl, hext⟩

set_option maxRecDepth 100000 in
set_option maxHeartbeats 6400000 in
theorem ringCounts_yes (n : Nat) (a : Option Addr) (len cap : Nat) (vs : List Int) (a2 : Option Addr) (len2 cap2 : Nat) (vs2 : List Int) (w : World) (hr : Ints w a len vs) (hr2 : Ints w a2 len2 vs2) (hl : len ≤ 300) (hl2 : len2 ≤ 60) (hn1 : 2 ≤ n) (hn2 : n ≤ 6) :
    Calls Tryd.prog 5 #[.int .i64 (n : Int), .slice a len cap, .slice a2 len2 cap2] w fun e w' => e = .returned (.bool true) ∧ Ext w w' := by
  have HN := hid (ringed_any w)
  go_enter Tryd.func5, Tryd.ntmps5
  go_wp2_with fail
  refine HN.out.mono ?_
  intro e w1 hx
  obtain ⟨rfl, hext⟩ := hx
  clear HN
  have HN := hid (new_any n hn1 hn2 w1)
  go_wp2_with fail
  refine HN.out.mono ?_
  intro e W hx
  obtain ⟨p, b1, b2, su, rfl, hra, hext2, hp, hb1, hb2, hsu⟩ := hx
  clear HN
  have hsz := hext.size
  have hWe := hext.trans hext2
  have hin := RIn.start hra hsu
  have hc : ∀ x, a = some x → ∀ i, i < len → ∀ s wr, RIn W p b1 b2 s wr → wr.cell? (x.add i) = some (.int .i64 (vs.getD i 0)) := fun x hx i hi s wr hi2 => by
    have c := hr.cl x hx i hi
    have hlt := cell_lt c
    exact hi2.cell (hWe.cellx c) (by omega) (by omega) (by omega)
  have hc2 : ∀ x, a2 = some x → ∀ i, i < len2 → ∀ s wr, RIn W p b1 b2 s wr → wr.cell? (x.add i) = some (.int .i64 (vs2.getD i 0)) := fun x hx i hi s wr hi2 => by
    have c := hr2.cl x hx i hi
    have hlt := cell_lt c
    exact hi2.cell (hWe.cellx c) (by omega) (by omega) (by omega)
  have hfin : ∀ s wr, RIn W p b1 b2 s wr → Ext w wr := fun s wr h => Keep.new hWe h.keep fun g hg => by
    have := hWe.size
    rcases hg with hg | hg | hg | hg <;> omega
  have Hc := hid hc
  have Hc2 := hid hc2
  have Hf := hid hfin
  have Hr := hid hr
  have Hr2 := hid hr2
  have ok0 := RS.Ok.init hn1 hn2
  have inv0 := RS.Inv.init hn1
  have az0 := hid (RS.atZero_init n)
  have hn0 : (RS.init n).n = n := by simp [RS.n, RS.init]
  have H1 := hid hin.told
  have H2 := hid (hin.active ok0)
  have H3 := hid hin.under
  have H4 := hid hin.at_
  rw [RS.live_init] at H2
  rw [show (RS.init n).told = false from rfl] at H1
  rw [show (((RS.init n).un.length : Nat) : Int) = 0 from rfl] at H3
  rw [show (((RS.init n).pos : Nat) : Int) = 0 from rfl] at H4
  clear hc hc2 hfin hra hext hext2 hWe hr hr2 hsz hp hb1 hb2 hsu
  go_wp2_with fail
  refine (H2).out.mono ?_
  intro e w3 hx
  obtain ⟨rfl, rfl⟩ := hx
  go_wp2_with fail
  refine (H3).out.mono ?_
  intro e w3 hx
  obtain ⟨rfl, rfl⟩ := hx
  go_wp2_with fail
  refine (H4).out.mono ?_
  intro e w3 hx
  obtain ⟨rfl, rfl⟩ := hx
  go_wp2_with fail
  refine (H1).out.mono ?_
  intro e w3 hx
  obtain ⟨rfl, rfl⟩ := hx
  clear H1 H2 H3 H4
  go_wp2
  go_loopw [10] (fun t10 wr => ∃ (k : Nat) (s : RS), t10 = .int .i64 (k : Int) ∧ k ≤ len ∧ RIn W p b1 b2 s wr ∧ s.Ok k ∧ s.Inv ∧ s.n = n ∧ s.AtZero) (fun t10 _ => len - (intOf t10).toNat)
  case atStart => exact ⟨0, _, rfl, by omega, hin, ok0, inv0, hn0, az0.out⟩
  case round =>
    obtain ⟨k, s, rfl, hk, hi, ok, inv, hsn, az⟩ := hrel
    clear ok0 inv0 hn0 hin az0
    by_cases hlt : k < len
    · obtain ⟨x, rfl⟩ := Hr.out.sm (by omega)
      have hcw := Hc.out x rfl k hlt s _ hi
      have C := hid (hi.does ok (by omega) (vs.getD k 0) (Hr.out.hi k))
      have ok' := ok.does (vs.getD k 0)
      have inv' := inv.does (vs.getD k 0)
      have hn' := (RS.n_does s (vs.getD k 0)).trans hsn
      have az' := hid (RS.AtZero.does inv az (vs.getD k 0))
      have htold := hid (RS.told_step inv az (vs.getD k 0))
      obtain ⟨g1, g2, g3, g4⟩ := RS.near_does s (vs.getD k 0)
      have G1 := hid hi.under
      have G2 := hid (hi.active ok)
      have G3 := hid hi.at_
      have hul := ok.ul
      have hlv : s.live ≤ 6 := by
        have h1 := List.countP_le_length (p := id) (l := s.ac)
        have h2 := ok.la
        have h3 := ok.hi
        unfold RS.live; omega
      have hpo : s.pos < 6 := by have := ok.pos; have := ok.hi; omega
      have hpo' := ok'.pos
      rw [hn'] at hpo'
      generalize vs.getD k 0 = v at *
      generalize s.does v = s' at *
      have HT : ∀ wr', RIn W p b1 b2 s' wr' → Hid (Calls Tryd.prog 21 #[.pointer (some ⟨p, 0, none⟩)] wr' fun e w' => e = .returned (.bool s'.told) ∧ wr' = w') ∧
          Hid (Calls Tryd.prog 22 #[.pointer (some ⟨p, 0, none⟩)] wr' fun e w' => e = .returned (.int .i64 (s'.live : Int)) ∧ wr' = w') ∧
          Hid (Calls Tryd.prog 23 #[.pointer (some ⟨p, 0, none⟩)] wr' fun e w' => e = .returned (.int .i64 (s'.un.length : Int)) ∧ wr' = w') ∧
          Hid (Calls Tryd.prog 24 #[.pointer (some ⟨p, 0, none⟩)] wr' fun e w' => e = .returned (.int .i64 (s'.pos : Int)) ∧ wr' = w') :=
        fun wr' h => ⟨h.told, h.active ok', h.under, h.at_⟩
      have HT' := hid HT
      have Hok := hid ok'
      have Hinv := hid inv'
      have Hn' := hid hn'
      clear HT ok' inv' hn' ok inv hsn az
      generalize hU : s.un.length = u at *
      generalize hA : s.live = l at *
      generalize hQ : s.pos = q at *
      generalize hU' : s'.un.length = u' at *
      generalize hA' : s'.live = l' at *
      generalize hQ' : s'.pos = q' at *
      clear hU hA hQ hU' hA' hQ'
      go_wp2_with fail
      refine (G1).out.mono ?_
      intro e w3 hx
      obtain ⟨rfl, rfl⟩ := hx
      go_wp2_with fail
      refine (G2).out.mono ?_
      intro e w3 hx
      obtain ⟨rfl, rfl⟩ := hx
      go_wp2_with fail
      refine (G3).out.mono ?_
      intro e w3 hx
      obtain ⟨rfl, rfl⟩ := hx
      clear G1 G2 G3
      go_wp2_with fail
      refine C.out.mono ?_
      intro e w2 hx
      obtain ⟨rfl, hi2⟩ := hx
      clear C hi hcw
      obtain ⟨F1, F2, F3, F4⟩ := HT'.out _ hi2
      clear HT'
      go_wp2_with fail
      refine (F4).out.mono ?_
      intro e w3 hx
      obtain ⟨rfl, rfl⟩ := hx
      go_wp2_with fail
      refine (F4).out.mono ?_
      intro e w3 hx
      obtain ⟨rfl, rfl⟩ := hx
      go_wp2_with fail
      refine (F3).out.mono ?_
      intro e w3 hx
      obtain ⟨rfl, rfl⟩ := hx
      go_wp2_with fail
      refine (F3).out.mono ?_
      intro e w3 hx
      obtain ⟨rfl, rfl⟩ := hx
      clear F4 F3
      go_wp2_with fail
      refine (F2).out.mono ?_
      intro e w3 hx
      obtain ⟨rfl, rfl⟩ := hx
      go_wp2_with fail
      refine (F2).out.mono ?_
      intro e w3 hx
      obtain ⟨rfl, rfl⟩ := hx
      clear F2
      cases ht : s'.told with
      | true =>
        obtain ⟨rfl, rfl, rfl, _⟩ := htold.out ht
        rw [ht] at F1
        clear ht htold
        go_wp2_with fail
        refine (F1).out.mono ?_
        intro e w3 hx
        obtain ⟨rfl, rfl⟩ := hx
        clear F1
        go_wp2
        go_roundw
        case rel => exact ⟨k + 1, s', by go_num, by omega, hi2, Hok.out, Hinv.out, Hn'.out, az'.out⟩
        case measure => simp [intOf]; omega
      | false =>
        rw [ht] at F1
        clear ht htold
        go_wp2_with fail
        refine (F1).out.mono ?_
        intro e w3 hx
        obtain ⟨rfl, rfl⟩ := hx
        clear F1
        go_wp2
        go_roundw
        case rel => exact ⟨k + 1, s', by go_num, by omega, hi2, Hok.out, Hinv.out, Hn'.out, az'.out⟩
        case measure => simp [intOf]; omega
    · obtain rfl : k = len := by omega
      clear Hc Hr
      have H1 := hid hi.told
      have H2 := hid (hi.active ok)
      have H3 := hid hi.under
      have H4 := hid hi.at_
      cases ht : s.told with
      | false =>
        rw [ht] at H1
        have hE := hid (Hf.out _ _ hi)
        clear ht H2 H3 H4 hi Hf
        go_wp2_with fail
        refine (H1).out.mono ?_
        intro e w3 hx
        obtain ⟨rfl, rfl⟩ := hx
        go_wp2
        go_ret
        exact ⟨rfl, hE.out⟩
      | true =>
        rw [ht] at H1
        have Ht := hid ht
        clear ht H2 H3 H4
        go_wp2_with fail
        refine (H1).out.mono ?_
        intro e w3 hx
        obtain ⟨rfl, rfl⟩ := hx
        clear H1
        go_wp2
        go_loopw [14] (fun t14 wr => ∃ j : Nat, t14 = .int .i64 (j : Int) ∧ j ≤ len2 ∧ RIn W p b1 b2 s wr) (fun t14 _ => len2 - (intOf t14).toNat)
        case atStart => exact ⟨0, rfl, by omega, hi⟩
        case round =>
          clear hi hlt hk
          obtain ⟨j, rfl, hj, hi⟩ := hrel
          by_cases hlt : j < len2
          · obtain ⟨x, rfl⟩ := Hr2.out.sm (by omega)
            have hcw := Hc2.out x rfl j hlt s _ hi
            have C := hi.does ok (by omega) (vs2.getD j 0) (Hr2.out.hi j)
            rw [RS.does_told Ht.out] at C
            generalize vs2.getD j 0 = v at *
            have HC := hid C
            clear C
            go_wp2_with fail
            refine HC.out.mono ?_
            intro e w2 hx
            obtain ⟨rfl, hi2⟩ := hx
            clear HC hi
            go_wp2
            go_roundw
            case rel => exact ⟨j + 1, by go_num, by omega, hi2⟩
            case measure => simp [intOf]; omega
          · obtain rfl : j = len2 := by omega
            obtain ⟨e1, e2⟩ := inv.safe Ht.out
            have H1 := hid hi.told
            have H2 := hid (hi.active ok)
            have H3 := hid hi.under
            have H4 := hid hi.at_
            rw [Ht.out] at H1
            rw [e1] at H2
            rw [e2] at H3
            rw [az Ht.out] at H4
            have hE := hid (Hf.out _ _ hi)
            clear e1 e2 ok inv hsn hi Hf Hc2 Hr2
            go_wp2_with fail
            refine (H1).out.mono ?_
            intro e w3 hx
            obtain ⟨rfl, rfl⟩ := hx
            go_wp2_with fail
            refine (H3).out.mono ?_
            intro e w3 hx
            obtain ⟨rfl, rfl⟩ := hx
            go_wp2_with fail
            refine (H2).out.mono ?_
            intro e w3 hx
            obtain ⟨rfl, rfl⟩ := hx
            go_wp2_with fail
            refine (H4).out.mono ?_
            intro e w3 hx
            obtain ⟨rfl, rfl⟩ := hx
            clear H1 H2 H3 H4
            go_wp2
            go_ret
            exact ⟨rfl, hE.out⟩

/-- The walk: whatever the number, whatever the lists. -/
theorem ringCounts_any (n : Int) (a : Option Addr) (len cap : Nat) (vs : List Int) (a2 : Option Addr) (len2 cap2 : Nat) (vs2 : List Int) (w : World) (hr : Ints w a len vs) (hr2 : Ints w a2 len2 vs2) (hl : (len : Int) ≤ 9223372036854775807) (hl2 : (len2 : Int) ≤ 9223372036854775807) :
    Calls Tryd.prog 5 #[.int .i64 n, .slice a len cap, .slice a2 len2 cap2] w fun e w' => e = .returned (.bool true) ∧ Ext w w' := by
  by_cases h : 300 < len ∨ 60 < len2 ∨ n < 2 ∨ 6 < n
  · exact ringCounts_no n a len cap a2 len2 cap2 w hl hl2 h
  · obtain ⟨k, rfl⟩ : ∃ k : Nat, n = (k : Int) := ⟨n.toNat, by omega⟩
    exact ringCounts_yes k a len cap vs a2 len2 cap2 vs2 w hr hr2 (by omega) (by omega) (by omega) (by omega)
end Go.Proofs.YtmdcjfgdmmncpaaDoor
