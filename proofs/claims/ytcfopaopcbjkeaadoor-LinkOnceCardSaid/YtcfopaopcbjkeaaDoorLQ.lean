
/- LinkOnce walked: all is sent. -/
import Derived.Test.YtcfopaopcbjkeaaDoorLP
namespace Go.Proofs.YtcfopaopcbjkeaaDoor
set_option linter.unusedSimpArgs false
set_option linter.unusedVariables false
open Go Go.RowKit

set_option maxRecDepth 100000 in
set_option maxHeartbeats 1600000 in
theorem linkOnce_no (a : Option Addr) (len cap : Nat) (a2 : Option Addr) (len2 cap2 : Nat) (w : World) (ev : Nat → Value) (he : ErrsC w ev) (hev : ∀ c, c ≠ 0 → ∃ t v, ev c = .iface t v) (hl : (len : Int) ≤ 9223372036854775807) (hl2 : (len2 : Int) ≤ 9223372036854775807) (hn : 40 < len ∨ 300 < len2) :
    Calls Tryd.prog 3 #[.slice a len cap, .slice a2 len2 cap2] w fun e w' => e = .returned (.bool true) ∧ Ext w w' := by
  have HN := hid (linked_any w ev he hev)
  have Hn := hid hn
  clear hn
  go_enter Tryd.func3, Tryd.ntmps3
  go_wp2_with fail
  refine HN.out.mono ?_
  intro e w1 hx
  obtain ⟨rfl, hx1⟩ := hx
  clear HN
  by_cases h1 : 40 < len
  · go_wp2
    go_ret
    exact ⟨rfl, hx1⟩
  · have h2 : 300 < len2 := by have := Hn.out; omega
    go_wp2
    go_ret
    exact ⟨rfl, hx1⟩

/-- A slice that came in: its capacity. -/
structure CapOk (len cap : Nat) : Prop where
  le : len ≤ cap
  hi : (cap : Int) ≤ 9223372036854775807

theorem Src.head {w : World} {n0 : Nat} {t : Option Nat} {base g n cap : Nat} {e : TypeId} {fs : List FV} (h : FRow w n0 t base e (.slice (some ⟨g, 0, none⟩) n cap) fs) (hn : fs.length = n) (k : Nat) (hk : k ≤ n) : Src w (some ⟨g, 0, none⟩) k 5 ((fs.take k).flatMap FV.cells) := by
  have := Src.part h hn 0 k (by omega)
  rwa [List.drop_zero, Nat.zero_mul] at this
theorem Src.tail {w : World} {n0 : Nat} {t : Option Nat} {base g n cap : Nat} {e : TypeId} {fs : List FV} (h : FRow w n0 t base e (.slice (some ⟨g, 0, none⟩) n cap) fs) (hn : fs.length = n) (k : Nat) (hk : k ≤ n) : Src w (some ⟨g, k * 5, none⟩) (n - k) 5 ((fs.drop k).flatMap FV.cells) := by
  have := Src.part h hn k (n - k) (by omega)
  rwa [List.take_of_length_le (by simp; omega)] at this
theorem Src.zero (w : World) (ad : Addr) (nets : List FV) (kk : Nat) (h : nets.length ≤ kk + 1) : Src w (some ad) (nets.length - (kk + 1)) 5 ((nets.drop (kk + 1)).flatMap FV.cells) := by
  have h1 : nets.drop (kk + 1) = [] := List.drop_of_length_le h
  rw [h1]
  exact ⟨by simp; omega, fun _ => ⟨_, rfl⟩, fun x _ j u hu => by simp at hu, fun u hu => by simp at hu⟩
theorem Ints.part {w : World} {a : Option Addr} {n : Nat} {vs : List Int} (h : Ints w a n vs) (m : Nat) (hm : m ≤ n) : Ints w a m (vs.take m) := by
  have hl := h.ln
  refine ⟨by rw [List.length_take]; omega, fun h0 => h.sm (by omega), fun x hx i hi => ?_, fun i => ?_⟩
  · rw [h.cl x hx i (by omega)]
    simp [List.getD_eq_getElem?_getD, List.getElem?_take, hi]
  · rw [List.getD_eq_getElem?_getD, List.getElem?_take]
    split
    · have := h.hi i
      rwa [List.getD_eq_getElem?_getD] at this
    · simp
theorem irow_snoc {w : World} {base : Nat} {v : Value} {vs : List Int} {m : Nat} (hm : m < vs.length) (h : w.ownsRow base 3 1 v (m + 1) (icells (vs.take m) ++ icells [vs.getD m 0])) : IRow base w v (vs.take (m + 1)) := by
  have h1 : vs.take (m + 1) = vs.take m ++ [vs.getD m 0] := by
    rw [List.take_succ_eq_append_getElem hm]
    simp [hm]
  unfold IRow
  rw [h1, icells_append]
  have h2 : (vs.take m ++ [vs.getD m 0]).length = m + 1 := by simp; omega
  rw [h2]
  exact h
theorem irow_len {w : World} {base : Nat} {v : Value} {vs : List Int} {m : Nat} (hm : m ≤ vs.length) (h : IRow base w v (vs.take m)) : w.ownsRow base 3 1 v m (icells (vs.take m)) := by
  unfold IRow at h
  rwa [List.length_take, Nat.min_eq_left hm] at h
theorem map_get {α β : Type} {g : α → β} {l : List α} {l' : List β} (h : l.map g = l') {j : Nat} {x : α} (hx : l[j]? = some x) : l'[j]? = some (g x) := by
  rw [← h, List.getElem?_map, hx]
  rfl




set_option maxRecDepth 100000 in
set_option maxHeartbeats 40000000 in
theorem linkOnce_yes (a : Option Addr) (len cap : Nat) (vs : List Int) (a2 : Option Addr) (len2 cap2 : Nat) (us : List Int) (w : World) (ev : Nat → Value) (he : ErrsC w ev) (hev : ∀ c, c ≠ 0 → ∃ t v, ev c = .iface t v) (hr : Ints w a len vs) (hr2 : Ints w a2 len2 us) (hcap : CapOk len cap) (hl : len ≤ 40) (hl2 : len2 ≤ 300) :
    Calls Tryd.prog 3 #[.slice a len cap, .slice a2 len2 cap2] w fun e w' => e = .returned (.bool true) ∧ Ext w w' := by
  have HN := hid (linked_any w ev he hev)
  have He := hid he
  have Hr := hid hr
  have Hr2 := hid hr2
  have Hcap := hid hcap
  clear he hr hr2 hcap
  go_enter Tryd.func3, Tryd.ntmps3
  go_wp2_with fail
  refine HN.out.mono ?_
  intro e w1 hx
  obtain ⟨rfl, hx1⟩ := hx
  clear HN
  have HS := hid (newS_ok 2 4 w1 ev (He.out.ext hx1) w.heap.size none hx1.size (by decide))
  have Hx1 := hid hx1
  clear hx1
  go_wp2_with fail
  refine HS.out.mono ?_
  intro e w2 hx
  obtain ⟨rfl, hS, hx2⟩ := hx
  have HS2 := hid hS
  have Hx2 := hid (Hx1.out.trans hx2)
  obtain ⟨p, hp⟩ : ∃ p, p = w1.heap.size := ⟨_, rfl⟩
  rw [← hp] at HS2 ⊢
  clear HS hS hx2 Hx1 hp
  have HR := hid (newR_ok 2 4 w2 ev (He.out.ext Hx2.out) w.heap.size none Hx2.out.size (by decide))
  go_wp2_with fail
  refine HR.out.mono ?_
  intro e w3 hx
  obtain ⟨q, b, rfl, hR, hx3, _, _⟩ := hx
  have HL0 : Hid (LOn w vs 0 p q b 0 0 0 0 0 (Rcv.new 2 4) (.slice none 0 0) (.slice none 0 0) [] w3) := hid ⟨Hx2.out.trans hx3, ⟨_, _, by rw [← oks_osn]; exact HS2.out.ext hx3⟩, ⟨_, hR⟩, FRow.nil _ _ _ _ _, IRow.nil _ _, ⟨rfl, rfl, rfl, Nat.le_refl _, fun _ h => (by cases h), by simp [Rcv.new]⟩, rfl, fun _ h => (by cases h), Nat.le_refl _, Nat.le_refl _, by omega, by omega, by omega⟩
  clear HR hR hx3 HS2 Hx2
  go_wp2
  go_loopw [10, 11] (fun t10 t11 wr => ∃ (i : Nat) (nets : List FV), t11 = .int .i64 (i : Int) ∧ i ≤ len ∧ LOn w vs i p q b 0 0 0 0 0 (Rcv.new 2 4) t10 (.slice none 0 0) nets wr ∧ nets.length = i ∧ ∀ k, k < i → 0 ≤ vs.getD k 0 ∧ vs.getD k 0 ≤ 2147483648) (fun _ t11 _ => len - (intOf t11).toNat)
  case atStart => exact ⟨0, [], rfl, Nat.zero_le _, HL0.out, rfl, fun k hk => by omega⟩
  case round =>
    clear HL0
    obtain ⟨i, nets, rfl, hi, hL, hnl, hbd⟩ := hrel
    have HL := hid hL
    have Hbd := hid hbd
    have Hnl := hid hnl
    obtain ⟨ao, co, rfl⟩ := hL.net.form
    clear hbd hL
    by_cases hlt : i < len
    · obtain ⟨x, rfl⟩ := Hr.out.sm (by omega)
      have hcw := HL.out.ext.cellx (Hr.out.cl x rfl i hlt)
      obtain ⟨v, hv⟩ : ∃ v, v = vs.getD i 0 := ⟨_, rfl⟩
      have hv1 : v ≤ 9223372036854775807 := by rw [hv]; exact Hr.out.hi i
      have HS : Hid (∃ lv ks, SndAt wr w.heap.size none p (oks vs i) lv ks) := hid (by
        obtain ⟨lv, ks, hs⟩ := HL.out.snd
        rw [← oks_osn] at hs
        exact ⟨lv, ks, hs⟩)
      rw [← hv] at hcw
      have Hv := hid hv
      clear hv
      by_cases hv0 : v < 0
      · have hE := hid HL.out.ext
        go_wp2
        go_ret
        exact ⟨rfl, hE.out⟩
      by_cases hv2 : 2147483648 < v
      · have hE := hid HL.out.ext
        go_wp2
        go_ret
        exact ⟨rfl, hE.out⟩
      · obtain ⟨lv, ks, hs⟩ := HS.out
        have hsx := hs.ext ((Ext.refl wr).alloc (.cells #[.int .i64 v] 3))
        have HSd := hid (send_good (oks vs i) 100 [v] (some ⟨wr.heap.size, 0, none⟩) 1 (wr.alloc (.cells #[.int .i64 v] 3)) w.heap.size none p lv ks hsx (ints_new wr [v] (fun j => by
          rcases j with _ | j <;> simp; exact hv1) (by simp)) (by simp) ev (He.out.ext (HL.out.ext.alloc _)) (by rw [Hv.out]; exact oks_err vs i (by omega) (by rw [← Hv.out]; omega)) i (oks_ok vs i (by omega)) (by omega) (HL.out.ext.alloc _).size (fun _ h => by cases h))
        have HL1 := hid (HL.out.on ((Ext.refl wr).alloc (.cells #[.int .i64 v] 3)))
        have hfr : (oks vs i).frame 100 [v] = ofr vs i := by rw [oks_eq, Hv.out]; rfl
        have hsn : (oks vs i).sent 100 [v] = oks vs (i + 1) := by rw [Hv.out]; rfl
        rw [hfr, hsn] at HSd
        have HSx := hid hsx
        clear hfr hsn hs hsx HS
        go_wp2_with fail
        refine HSd.out.mono ?_
        intro e w4 hx
        obtain ⟨v4, lv', ks', rfl, hS4, hI, hk⟩ := hx
        obtain ⟨av, cv, rfl⟩ := hI.form
        have hL4 := HL1.out.sent HSx.out hk hS4
        have hA4 : (FV.mk (ofr vs i) (.slice av 1 cv)).At w4 w.heap.size none := NumsAt.of_row (l := [vs.getD i 0]) (by rw [← Hv.out]; exact hI) (fun j => by
          rw [← Hv.out]
          rcases j with _ | j <;> simp; exact hv1) (fun _ _ h => by cases h)
        have HL4 := hid hL4
        have HA4 := hid hA4
        clear HSd hS4 hI hk hL4 hA4 HSx HL1
        have hx6 : Ext w4 ((w4.alloc (.cells #[.int .u8 100, .int .i64 2, .int .i64 4, .int .i64 (i : Int), .slice av 1 cv] 34)).alloc (.cells #[.int .u8 100, .int .i64 2, .int .i64 4, .int .i64 (i : Int), .slice av 1 cv] 34)) := ((Ext.refl w4).alloc _).alloc _
        have hB6 : Blk ((w4.alloc (.cells #[.int .u8 100, .int .i64 2, .int .i64 4, .int .i64 (i : Int), .slice av 1 cv] 34)).alloc (.cells #[.int .u8 100, .int .i64 2, .int .i64 4, .int .i64 (i : Int), .slice av 1 cv] 34)) (w4.heap.size + 1) #[.int .u8 100, .int .i64 2, .int .i64 4, .int .i64 (i : Int), .slice av 1 cv] 34 := by
          have := Blk.new (w4.alloc (.cells #[.int .u8 100, .int .i64 2, .int .i64 4, .int .i64 (i : Int), .slice av 1 cv] 34)) #[.int .u8 100, .int .i64 2, .int .i64 4, .int .i64 (i : Int), .slice av 1 cv] 34
          rwa [heap_size_alloc] at this
        have HB6 := hid hB6
        have HL6 := hid (HL4.out.on hx6)
        have HA6 := hid (NumsAt.ext HA4.out hx6)
        have Hrow : Hid (((w4.alloc (.cells #[.int .u8 100, .int .i64 2, .int .i64 4, .int .i64 (i : Int), .slice av 1 cv] 34)).alloc (.cells #[.int .u8 100, .int .i64 2, .int .i64 4, .int .i64 (i : Int), .slice av 1 cv] 34)).ownsRow w.heap.size 34 5 (.slice ao i co) i (nets.flatMap FV.cells)) := hid (by
          have := HL6.out.net.row
          rw [Hnl.out] at this
          exact this)
        have hio : i ≤ 1000000 := by omega
        clear hx6 hB6 HL4 HA4
        simp only [FV.val, ofr]
        go_wp2_with (at_builtin; refine wpList_append_el w.heap.size HL6.out.ext.size 32 34 (.agg #[.int .u8 0, .int .i64 0, .int .i64 0, .int .i64 0, .slice none 0 0]) 5 56 Tryd.underlying32 frame_info rfl (by omega) (by omega) rfl _ _ rfl (.slice ao i co) i (nets.flatMap FV.cells) rfl Hrow.out (w4.heap.size + 1) (FV.cells ⟨ofr vs i, .slice av 1 cv⟩) rfl (by simp [FV.cells, Value.oneCell']) rfl HB6.out hio ?_; intro v6 w6 ho6 hk6 hl6; obtain ⟨a6, c6, rfl⟩ := row_form ho6)
        go_roundw
        case rel =>
          refine ⟨i + 1, nets ++ [⟨ofr vs i, .slice av 1 cv⟩], by go_num, by omega, HL6.out.renet Hrow.out (Nat.le_refl _) hk6 (by simpa [Hnl.out] using ho6) (fun x hx => ?_) (fun x hx => ?_), by simp [Hnl.out], fun k hk => ?_⟩
          · rcases List.mem_append.1 hx with hx | hx
            · exact HL6.out.net.nums x hx
            · obtain rfl := List.mem_singleton.1 hx
              exact HA6.out
          · rcases List.mem_append.1 hx with hx | hx
            · exact HL6.out.all x hx
            · obtain rfl := List.mem_singleton.1 hx
              exact ⟨i, by omega, rfl⟩
          · by_cases hki : k = i
            · subst hki
              rw [← Hv.out]
              omega
            · exact Hbd.out k (by omega)
        case measure => simp [intOf]; omega
    · obtain rfl : i = len := by omega
      have Hln := hid Hr.out.ln
      clear hlt hi
      go_wp2
      go_loopw [10, 14, 15] (fun t10 t14 t15 wr => ∃ (k aa d : Nat) (now c : Int) (r : Rcv) (nets : List FV), t15 = .int .i64 (k : Int) ∧ k ≤ len2 ∧ LOn w vs i p q b aa d d now c r t10 t14 nets wr ∧ now ≤ (k : Int) ∧ nets.length ≤ 40 + 40 * k) (fun _ _ t15 _ => len2 - (intOf t15).toNat)
      case atStart => exact ⟨0, 0, 0, 0, 0, _, nets, rfl, Nat.zero_le _, HL.out, by omega, by rw [Hnl.out]; omega⟩
      case round =>
        clear HL Hnl hnl
        obtain ⟨k, aa, d, now, c, r, nets, rfl, hk, hL, hnw, hnn⟩ := hrel
        have HL := hid hL
        have hde : d ≤ i := hL.orc.le
        have hnow0 : 0 ≤ now := by have := hL.c0; have := hL.c1; omega
        obtain ⟨ao, co, rfl⟩ := hL.net.form
        obtain ⟨at_, ct, rfl⟩ := hL.told.form
        have htl : (vs.take d).length = d := by rw [List.length_take, Hln.out]; omega
        rw [htl]
        rw [htl] at HL
        have Hhn := hid (show aa ≤ i from Nat.le_trans hL.ae hde)
        clear hL
        by_cases hlt : k < len2
        · obtain ⟨x2, rfl⟩ := Hr2.out.sm (by omega)
          have hcw := HL.out.ext.cellx (Hr2.out.cl x2 rfl k hlt)
          have hv1 := Hr2.out.hi k
          generalize us.getD k 0 = v at *
          by_cases hv0 : v < 0
          · go_wp2
            go_roundw
            case rel => exact ⟨k + 1, aa, d, now, c, r, nets, by go_num, by omega, HL.out, by omega, by omega⟩
            case measure => simp [intOf]; omega
          by_cases hm3 : v % 4 = 3
          · have HT := hid (HL.out.tick hl (by omega))
            go_wp2_with fail
            refine HT.out.mono ?_
            intro e w4 hx
            obtain ⟨ov, outs, rfl, hL1, hF, hO⟩ := hx
            obtain ⟨a7, c7, rfl⟩ := hF.form
            have hol : outs.length ≤ 40 := by
              have h1 := congrArg List.length hO
              rw [List.length_map] at h1
              split at h1
              · simp only [List.length_map, List.length_range'] at h1; omega
              · simp only [List.length_nil] at h1; omega
            have hall : ∀ x ∈ outs, ∃ j, j < i ∧ x.f = ofr vs j := fun x hx => by
              have h1 : x.f ∈ outs.map FV.f := List.mem_map.2 ⟨x, hx, rfl⟩
              rw [hO] at h1
              split at h1
              · obtain ⟨j, hj, e⟩ := List.mem_map.1 h1
                rw [List.mem_range'_1] at hj
                exact ⟨j, by have := Hhn.out; omega, e.symm⟩
              · cases h1
            have HL1 := hid hL1
            have HF := hid hF
            have Hall := hid hall
            have Hsrc := hid (Src.all hF rfl)
            have hlim : nets.length + outs.length ≤ 1000000 := by omega
            clear HT hL1 hF hO hall
            go_wp2_with (at_builtin; refine wpList_append_src w.heap.size HL1.out.ext.size 32 34 (.agg #[.int .u8 0, .int .i64 0, .int .i64 0, .int .i64 0, .slice none 0 0]) 5 56 Tryd.underlying32 frame_info rfl (by omega) (by omega) rfl _ _ rfl (.slice ao nets.length co) nets.length (nets.flatMap FV.cells) rfl HL1.out.net.row a7 outs.length c7 (outs.flatMap FV.cells) rfl Hsrc.out hlim ?_; intro v6 w6 ho6 hk6 hl6; obtain ⟨a6, c6, rfl⟩ := row_form ho6)
            have hL6 := HL1.out.renet (nets' := nets ++ outs) HL1.out.net.row (Nat.le_refl _) hk6 (by simpa using ho6) (fun x hx => (List.mem_append.1 hx).elim (HL1.out.net.nums x) (HF.out.nums x)) (fun x hx => (List.mem_append.1 hx).elim (HL1.out.all x) (Hall.out x))
            have HD := hid hL6.due
            have HA := hid (hL6.acked hl Hhn.out)
            clear hL6 ho6 hk6 hl6 HL1 HF Hsrc
            refine HD.out.mono ?_
            intro e w7 hx
            obtain ⟨rfl, rfl⟩ := hx
            go_wp2_with fail
            refine HA.out.mono ?_
            intro e w7 hx
            obtain ⟨rfl, hL7⟩ := hx
            have HL7 := hid hL7
            clear HA HD hL7
            go_wp2
            go_roundw
            case rel => exact ⟨k + 1, d, d, _, _, r, nets ++ outs, by go_num, by omega, HL7.out, by omega, by rw [List.length_append]; omega⟩
            case measure => simp [intOf]; omega
          · have hm3b : (v % 4 == 3) = false := beq_eq_false_iff_ne.2 hm3
            by_cases hL0 : nets.length = 0
            · have hz : ((nets.length : Int) == 0) = true := by rw [hL0]; rfl
              clear hL0
              go_wp2
              go_roundw
              case rel => exact ⟨k + 1, aa, d, now, c, r, nets, by go_num, by omega, HL.out, by omega, by omega⟩
              case measure => simp [intOf]; omega
            · obtain ⟨qn, hqn⟩ : ∃ qn : Nat, (qn : Int) = v / 4 := ⟨(v / 4).toNat, by omega⟩
              have hq' : v / 4 = (qn : Int) := hqn.symm
              have hnp : nets ≠ [] := fun e => hL0 (by rw [e]; rfl)
              obtain ⟨kk, hkk⟩ : ∃ kk, kk = qn % nets.length := ⟨_, rfl⟩
              have hkl : kk < nets.length := by rw [hkk]; exact Nat.mod_lt _ (by omega)
              have hfr : (qn : Int) % (nets.length : Int) = (kk : Int) := by rw [hkk]; omega
              have htm : (qn : Int).tmod (nets.length : Int) = (kk : Int) := by rw [Int.tmod_eq_emod_of_nonneg (by omega), hfr]
              have hlz : ((nets.length : Int) == 0) = false := beq_eq_false_iff_ne.2 (by omega)
              have hlz2 : ((nets.length : Int) = 0) = False := by simp; exact hnp
              have hlz4 : (nets = []) = False := by simp [hnp]
              obtain ⟨g, cp, he⟩ := own_some HL.out.net.row (by omega)
              simp only [Value.slice.injEq, true_and] at he
              obtain ⟨rfl, rfl⟩ := he
              obtain ⟨_, _, _, hcn, hcm, _, _⟩ := own_blk HL.out.net.row
              have hcn' : (nets.length : Int) ≤ (co : Int) := by omega
              have hcm' : (co : Int) ≤ 9223372036854775807 := by unfold maxLen at hcm; omega
              have hy : nets[kk]? = some (nets[kk]'hkl) := List.getElem?_eq_getElem hkl
              obtain ⟨y, hyd⟩ : ∃ y, y = nets[kk]'hkl := ⟨_, rfl⟩
              rw [← hyd] at hy
              have hym := List.mem_of_getElem? hy
              obtain ⟨jy, hjy, hyf⟩ := HL.out.all y hym
              obtain ⟨z0, z1, z2, z3, z4⟩ := HL.out.net.getp rfl hy
              obtain ⟨ay, cy, hyval, hyv, _⟩ := (HL.out.net.nums y hym).form
              have hyn : y.f.nums.length = 1 := by rw [hyf]; rfl
              rw [hyv, hyn] at z4
              have Hyv := hid hyv
              have Hyval := hid hyval
              have Hyf := hid hyf
              have Hym := hid hym
              have Hyn := hid hyn
              have Hkl := hid hkl
              have hkl' : (kk : Int) < (nets.length : Int) := by omega
              obtain ⟨xn, rfl⟩ := Hr.out.sm (by omega)
              have hm012 : v % 4 = 0 ∨ v % 4 = 1 ∨ v % 4 = 2 := by omega
              clear hqn hkk hL0 hnp hy hym hyf hyv hyval hyn hyd hm3
              have hx1 := (Ext.refl wr).alloc (.cells #[.int .u8 (y.f.kind.toNat : Int), .int .i64 y.f.fr, .int .i64 y.f.to, .int .i64 y.f.seq, .slice ay 1 cy] 34)
              have HL1 := hid (HL.out.on hx1)
              have hw1 : wr.heap.size ≤ (wr.alloc (.cells #[.int .u8 (y.f.kind.toNat : Int), .int .i64 y.f.fr, .int .i64 y.f.to, .int .i64 y.f.seq, .slice ay 1 cy] 34)).heap.size := hx1.size
              have Hw1 := hid hw1
              have HAy := hid (NumsAt.ext (HL.out.net.nums y Hym.out) hx1)
              clear hx1 hw1
              by_cases hm2 : v % 4 = 2
              · clear hm012
                obtain ⟨HLsize, hHLs⟩ : ∃ HLsize, HLsize = (wr.alloc (.cells #[.int .u8 (y.f.kind.toNat : Int), .int .i64 y.f.fr, .int .i64 y.f.to, .int .i64 y.f.seq, .slice ay 1 cy] 34)).heap.size := ⟨_, rfl⟩
                have HHLs := hid hHLs
                clear hHLs
                go_wp2_with fail
                have HT := hid (by
                  have := (HL1.out).take hl Hbd.out y HAy.out jy hjy Hyf.out ev He.out hev
                  rw [Hyval.out] at this
                  unfold frv at this
                  rw [Hyn.out] at this
                  exact this)
                refine HT.out.mono ?_
                intro e w5 hx
                obtain ⟨ov, outs, e', r', rfl, hL7, hF, hO, hee, _, _⟩ := hx
                obtain ⟨a7, c7, rfl⟩ := hF.form
                have hol : outs.length = e' - d := by have := congrArg List.length hO; simpa using this
                have HO := hid hO
                have HL7 := hid hL7
                have HF7 := hid hF
                have hei : e' ≤ i := hL7.orc.le
                clear HT hO hL7 hF
                go_wp2
                go_loopw [14, 23] (fun t14 t23 wq => ∃ j : Nat, t23 = .int .i64 (j : Int) ∧ j ≤ outs.length ∧ LOn w vs i p q b aa (d + j) e' now c r' (.slice (some ⟨g, 0, none⟩) nets.length co) t14 nets wq ∧ FRow wq w.heap.size t14.ownBlock HLsize 34 (.slice a7 outs.length c7) outs) (fun _ t23 _ => outs.length - (intOf t23).toNat)
                case atStart => exact ⟨0, rfl, Nat.zero_le _, HL7.out, by rw [HHLs.out]; exact HF7.out⟩
                case round =>
                  clear HL7 HF7
                  obtain ⟨j, rfl, hj, hLj, hFj⟩ := hrel
                  have HLj := hid hLj
                  have HFj := hid hFj
                  obtain ⟨at2, ct2, rfl⟩ := hLj.told.form
                  have htl2 : (vs.take (d + j)).length = d + j := by rw [List.length_take, Hln.out]; omega
                  rw [htl2]
                  rw [htl2] at HLj HFj
                  clear hLj hFj
                  by_cases hjo : j < outs.length
                  · have hxj : outs[j]? = some (outs[j]'hjo) := List.getElem?_eq_getElem hjo
                    obtain ⟨u, hud⟩ : ∃ u, u = outs[j]'hjo := ⟨_, rfl⟩
                    rw [← hud] at hxj
                    have huf : u.f = ofr vs (d + j) := by
                      have h1 := map_get HO.out hxj
                      rw [List.getElem?_map, List.getElem?_range' (by omega)] at h1
                      simpa using h1.symm
                    obtain ⟨g7, cp7, he7⟩ := own_some HFj.out.row (by omega)
                    simp only [Value.slice.injEq, true_and] at he7
                    obtain ⟨rfl, rfl⟩ := he7
                    obtain ⟨_, _, _, _, zz⟩ := HFj.out.getp rfl hxj
                    obtain ⟨au, cu, _, huv, hui⟩ := (HFj.out.nums u (List.mem_of_getElem? hxj)).form
                    have hun : u.f.nums = [vs.getD (d + j) 0] := by rw [huf]; rfl
                    rw [hun] at huv hui
                    rw [huv] at zz
                    have Hsu := hid (Src.ints hui)
                    have hdj : d + j < i := by omega
                    have HTi := hid (irow_len (show d + j ≤ vs.length by rw [Hln.out]; omega) HLj.out.told)
                    have hlm : d + j + 1 ≤ 1000000 := by omega
                    have Hwe := hid HLj.out.ext.size
                    clear hxj hud huf huv hui hun
                    go_wp2_with (at_builtin; refine wpList_append_src w.heap.size Hwe.out 22 3 (.int .i64 0) 1 8 Tryd.underlying22 ints_info rfl (by omega) (by omega) rfl _ _ rfl (.slice at2 (d + j) ct2) (d + j) (icells (vs.take (d + j))) rfl HTi.out au 1 cu (icells [vs.getD (d + j) 0]) rfl Hsu.out hlm ?_; intro v8 w8 ho8 hk8 hl8; obtain ⟨a8, c8, rfl⟩ := row_form ho8)
                    have hK8 := HLj.out.toldK hk8 hl8
                    have HL9 := hid (HLj.out.say hK8 (irow_snoc (by rw [Hln.out]; exact hdj) ho8) (show d + j + 1 ≤ e' by omega))
                    have HF9 := hid (HFj.out.told hK8 (by decide))
                    clear hK8 ho8 hk8 hl8
                    go_roundw
                    case rel => exact ⟨j + 1, by go_num, by omega, HL9.out, HF9.out⟩
                    case measure => simp [intOf]; omega
                  · obtain rfl : j = outs.length := by omega
                    have hde2 : d + outs.length = e' := by omega
                    rw [hde2] at HLj HFj ⊢
                    have hti := irow_len (show e' ≤ vs.length by rw [Hln.out]; exact hei) HLj.out.told
                    have hii : Ints wr at2 e' (vs.take e') := by
                      have h1 := HLj.out.told
                      have h2 : (vs.take e').length = e' := by rw [List.length_take, Hln.out]; omega
                      have h3 := h1.ints (Hr.out.part e' hei).hi
                      rwa [h2] at h3
                    have hin := (Hr.out.ext HLj.out.ext).part e' hei
                    have HSI := hid (sameints_any at2 (some xn) e' e' ct2 cap (vs.take e') (vs.take e') _ hii hin (by omega) (by omega))
                    rw [decide_eq_true rfl] at HSI
                    have hc1 := Hcap.out.le
                    have hc2 := Hcap.out.hi
                    have hce : (e' : Int) ≤ (cap : Int) := by omega
                    clear hti hii hin hjo hj hol
                    go_wp2_with fail
                    refine HSI.out.mono ?_
                    intro e w6 hx
                    obtain ⟨rfl, hx6⟩ := hx
                    have HL6 := hid (HLj.out.on hx6)
                    have HD := hid HL6.out.due
                    clear HSI HLj HFj hx6
                    go_wp2_with fail
                    refine HD.out.mono ?_
                    intro e w7 hx
                    obtain ⟨rfl, rfl⟩ := hx
                    clear HD
                    by_cases hbig : (2000 : Int) < ((nets).length : Int)
                    · have hE := hid HL6.out.ext
                      go_wp2
                      go_ret
                      exact ⟨rfl, hE.out⟩
                    · go_wp2
                      go_roundw
                      case rel => exact ⟨k + 1, aa, e', now, c, r', nets, by go_num, by omega, HL6.out, by omega, by omega⟩
                      case measure => simp [intOf]; omega
              · have hm2b : (v % 4 != 2) = true := by simp [hm2]
                have Hs1 := hid (Src.head HL1.out.net rfl kk (by omega))
                have hlim1 : 0 + kk ≤ 1000000 := by omega
                have hlim2 : kk + (nets.length - (kk + 1)) ≤ 1000000 := by omega
                by_cases hm1 : v % 4 = 1
                · by_cases hce : co = kk + 1
                  · obtain ⟨B1, hB1⟩ : ∃ B1, B1 = (wr.alloc (.cells #[.int .u8 (y.f.kind.toNat : Int), .int .i64 y.f.fr, .int .i64 y.f.to, .int .i64 y.f.seq, .slice ay 1 cy] 34)).heap.size := ⟨_, rfl⟩
                    have HB1 := hid hB1
                    have hbb : B1 = wr.heap.size + 1 := by rw [hB1, heap_size_alloc]
                    have Hbb := hid hbb
                    have Hwb : Hid (w.heap.size ≤ B1) := hid (by have := HL.out.ext.size; omega)
                    have HBy := hid (Blk.new wr #[.int .u8 (y.f.kind.toNat : Int), .int .i64 y.f.fr, .int .i64 y.f.to, .int .i64 y.f.seq, .slice ay 1 cy] 34)
                    have hbl : B1 ≤ (wr.alloc (.cells #[.int .u8 (y.f.kind.toNat : Int), .int .i64 y.f.fr, .int .i64 y.f.to, .int .i64 y.f.seq, .slice ay 1 cy] 34)).heap.size := Nat.le_of_eq hB1
                    have Hbl := hid hbl
                    clear hB1 hbb hbl
                    have hE1 : Hid (((wr.alloc (.cells #[.int .u8 (y.f.kind.toNat : Int), .int .i64 y.f.fr, .int .i64 y.f.to, .int .i64 y.f.seq, .slice ay 1 cy] 34))).ownsRow B1 34 5 (.slice none 0 0) 0 []) := hid (World.ownsRow_nil _ _ _ _)
                    go_wp2_with (first | (at_builtin; refine wpList_append_src B1 Hbl.out 32 34 (.agg #[.int .u8 0, .int .i64 0, .int .i64 0, .int .i64 0, .slice none 0 0]) 5 56 Tryd.underlying32 frame_info rfl (by omega) (by omega) rfl _ _ rfl (.slice none 0 0) 0 [] rfl hE1.out (some ⟨g, 0, none⟩) kk _ ((nets.take kk).flatMap FV.cells) rfl Hs1.out hlim1 ?_; intro v5 w5 ho5 hk5 hl5; simp only [Nat.zero_add, List.nil_append] at ho5; obtain ⟨a5, c5, rfl⟩ := row_form ho5; have hE5 := Keep.new (Ext.refl _) hk5 (fun i hi => by cases hi); have HL5 := hid (HL1.out.on hE5); have hs2 := Src.zero w5 ⟨g, 0, none⟩ nets kk (by omega); have Hs2 := hid hs2; have hw5 := Nat.le_trans Hbl.out hE5.size; have HBy5 := hid (HBy.out.ext hE5); have Ho5 := hid ho5; have HAy5 := hid (NumsAt.ext HAy.out hE5); clear ho5 hk5 hl5 hE5 hs2) | (at_builtin; refine wpList_append_src B1 hw5 32 34 (.agg #[.int .u8 0, .int .i64 0, .int .i64 0, .int .i64 0, .slice none 0 0]) 5 56 Tryd.underlying32 frame_info rfl (by omega) (by omega) rfl _ _ rfl (.slice a5 kk c5) kk ((nets.take kk).flatMap FV.cells) rfl Ho5.out (some ⟨g, 0, none⟩) (nets.length - (kk + 1)) _ ((nets.drop (kk + 1)).flatMap FV.cells) rfl Hs2.out hlim2 ?_; intro v6 w6 ho6 hk6 hl6; obtain ⟨a6, c6, rfl⟩ := row_form ho6; have hBy6 := HBy5.out.keep hk6 (fun e => by have h1 := (World.ownsRow.lt Ho5.out _ e).1; have h2 := Hbb.out; omega); have y0 := hBy6.av 0 rfl; have y1 := hBy6.av 1 rfl; have y2 := hBy6.av 2 rfl; have y3 := hBy6.av 3 rfl; have y4 := hBy6.av 4 rfl))
                    obtain ⟨nr, hnr⟩ : ∃ nr, nr = nets.take kk ++ nets.drop (kk + 1) := ⟨_, rfl⟩
                    have hnrl : nr.length = kk + (nets.length - (kk + 1)) := by rw [hnr]; simp; omega
                    have hsub : ∀ x ∈ nr, x ∈ nets := fun x hx => by
                      rw [hnr] at hx
                      exact (List.mem_append.1 hx).elim List.mem_of_mem_take List.mem_of_mem_drop
                    have hnf : nr.flatMap FV.cells = (nets.take kk).flatMap FV.cells ++ (nets.drop (kk + 1)).flatMap FV.cells := by rw [hnr, List.flatMap_append]
                    have HL6 := hid (HL5.out.renet (nets' := nr) Ho5.out Hwb.out hk6 (by rw [hnrl, hnf]; exact own_base ho6 Hwb.out) (fun x hx => HL5.out.net.nums x (hsub x hx)) (fun x hx => HL5.out.all x (hsub x hx)))
                    have HAy6 := hid (NumsAt.keep HAy5.out hk6 (Wr.row (own_base Ho5.out Hwb.out) (by decide)))
                    have hnl2 : nr.length ≤ 40 + 40 * k := by omega
                    rw [← hnrl] at HL6 ⊢
                    clear hnr hnrl hsub hnf ho6 hk6 hl6 HL5 Ho5 Hs2 Hs1 HAy5 HL1 HAy hw5 Hw1 hBy6 y0 y1 y2 y3 y4 HBy5 HBy
                    go_wp2
                    go_roundw
                    case rel => exact ⟨k + 1, aa, d, now, c, r, nr, by go_num, by omega, HL6.out, by omega, by omega⟩
                    case measure => simp [intOf]; omega
                  · obtain ⟨B1, hB1⟩ : ∃ B1, B1 = (wr.alloc (.cells #[.int .u8 (y.f.kind.toNat : Int), .int .i64 y.f.fr, .int .i64 y.f.to, .int .i64 y.f.seq, .slice ay 1 cy] 34)).heap.size := ⟨_, rfl⟩
                    have HB1 := hid hB1
                    have hbb : B1 = wr.heap.size + 1 := by rw [hB1, heap_size_alloc]
                    have Hbb := hid hbb
                    have Hwb : Hid (w.heap.size ≤ B1) := hid (by have := HL.out.ext.size; omega)
                    have HBy := hid (Blk.new wr #[.int .u8 (y.f.kind.toNat : Int), .int .i64 y.f.fr, .int .i64 y.f.to, .int .i64 y.f.seq, .slice ay 1 cy] 34)
                    have hbl : B1 ≤ (wr.alloc (.cells #[.int .u8 (y.f.kind.toNat : Int), .int .i64 y.f.fr, .int .i64 y.f.to, .int .i64 y.f.seq, .slice ay 1 cy] 34)).heap.size := Nat.le_of_eq hB1
                    have Hbl := hid hbl
                    clear hB1 hbb hbl
                    have hE1 : Hid (((wr.alloc (.cells #[.int .u8 (y.f.kind.toNat : Int), .int .i64 y.f.fr, .int .i64 y.f.to, .int .i64 y.f.seq, .slice ay 1 cy] 34))).ownsRow B1 34 5 (.slice none 0 0) 0 []) := hid (World.ownsRow_nil _ _ _ _)
                    go_wp2_with (first | (at_builtin; refine wpList_append_src B1 Hbl.out 32 34 (.agg #[.int .u8 0, .int .i64 0, .int .i64 0, .int .i64 0, .slice none 0 0]) 5 56 Tryd.underlying32 frame_info rfl (by omega) (by omega) rfl _ _ rfl (.slice none 0 0) 0 [] rfl hE1.out (some ⟨g, 0, none⟩) kk _ ((nets.take kk).flatMap FV.cells) rfl Hs1.out hlim1 ?_; intro v5 w5 ho5 hk5 hl5; simp only [Nat.zero_add, List.nil_append] at ho5; obtain ⟨a5, c5, rfl⟩ := row_form ho5; have hE5 := Keep.new (Ext.refl _) hk5 (fun i hi => by cases hi); have HL5 := hid (HL1.out.on hE5); have hs2 := Src.tail HL5.out.net rfl (kk + 1) (by omega); have Hs2 := hid hs2; have hw5 := Nat.le_trans Hbl.out hE5.size; have HBy5 := hid (HBy.out.ext hE5); have Ho5 := hid ho5; have HAy5 := hid (NumsAt.ext HAy.out hE5); clear ho5 hk5 hl5 hE5 hs2) | (at_builtin; refine wpList_append_src B1 hw5 32 34 (.agg #[.int .u8 0, .int .i64 0, .int .i64 0, .int .i64 0, .slice none 0 0]) 5 56 Tryd.underlying32 frame_info rfl (by omega) (by omega) rfl _ _ rfl (.slice a5 kk c5) kk ((nets.take kk).flatMap FV.cells) rfl Ho5.out (some ⟨g, (kk + 1) * 5, none⟩) (nets.length - (kk + 1)) _ ((nets.drop (kk + 1)).flatMap FV.cells) rfl Hs2.out hlim2 ?_; intro v6 w6 ho6 hk6 hl6; obtain ⟨a6, c6, rfl⟩ := row_form ho6; have hBy6 := HBy5.out.keep hk6 (fun e => by have h1 := (World.ownsRow.lt Ho5.out _ e).1; have h2 := Hbb.out; omega); have y0 := hBy6.av 0 rfl; have y1 := hBy6.av 1 rfl; have y2 := hBy6.av 2 rfl; have y3 := hBy6.av 3 rfl; have y4 := hBy6.av 4 rfl))
                    obtain ⟨nr, hnr⟩ : ∃ nr, nr = nets.take kk ++ nets.drop (kk + 1) := ⟨_, rfl⟩
                    have hnrl : nr.length = kk + (nets.length - (kk + 1)) := by rw [hnr]; simp; omega
                    have hsub : ∀ x ∈ nr, x ∈ nets := fun x hx => by
                      rw [hnr] at hx
                      exact (List.mem_append.1 hx).elim List.mem_of_mem_take List.mem_of_mem_drop
                    have hnf : nr.flatMap FV.cells = (nets.take kk).flatMap FV.cells ++ (nets.drop (kk + 1)).flatMap FV.cells := by rw [hnr, List.flatMap_append]
                    have HL6 := hid (HL5.out.renet (nets' := nr) Ho5.out Hwb.out hk6 (by rw [hnrl, hnf]; exact own_base ho6 Hwb.out) (fun x hx => HL5.out.net.nums x (hsub x hx)) (fun x hx => HL5.out.all x (hsub x hx)))
                    have HAy6 := hid (NumsAt.keep HAy5.out hk6 (Wr.row (own_base Ho5.out Hwb.out) (by decide)))
                    have hnl2 : nr.length ≤ 40 + 40 * k := by omega
                    rw [← hnrl] at HL6 ⊢
                    clear hnr hnrl hsub hnf ho6 hk6 hl6 HL5 Ho5 Hs2 Hs1 HAy5 HL1 HAy hw5 Hw1 hBy6 y0 y1 y2 y3 y4 HBy5 HBy
                    go_wp2
                    go_roundw
                    case rel => exact ⟨k + 1, aa, d, now, c, r, nr, by go_num, by omega, HL6.out, by omega, by omega⟩
                    case measure => simp [intOf]; omega
                · have hm0 : v % 4 = 0 := by omega
                  clear hm012
                  by_cases hce : co = kk + 1
                  · obtain ⟨B1, hB1⟩ : ∃ B1, B1 = (wr.alloc (.cells #[.int .u8 (y.f.kind.toNat : Int), .int .i64 y.f.fr, .int .i64 y.f.to, .int .i64 y.f.seq, .slice ay 1 cy] 34)).heap.size := ⟨_, rfl⟩
                    have HB1 := hid hB1
                    have hbb : B1 = wr.heap.size + 1 := by rw [hB1, heap_size_alloc]
                    have Hbb := hid hbb
                    have Hwb : Hid (w.heap.size ≤ B1) := hid (by have := HL.out.ext.size; omega)
                    have HBy := hid (Blk.new wr #[.int .u8 (y.f.kind.toNat : Int), .int .i64 y.f.fr, .int .i64 y.f.to, .int .i64 y.f.seq, .slice ay 1 cy] 34)
                    have hbl : B1 ≤ (wr.alloc (.cells #[.int .u8 (y.f.kind.toNat : Int), .int .i64 y.f.fr, .int .i64 y.f.to, .int .i64 y.f.seq, .slice ay 1 cy] 34)).heap.size := Nat.le_of_eq hB1
                    have Hbl := hid hbl
                    clear hB1 hbb hbl
                    have hE1 : Hid (((wr.alloc (.cells #[.int .u8 (y.f.kind.toNat : Int), .int .i64 y.f.fr, .int .i64 y.f.to, .int .i64 y.f.seq, .slice ay 1 cy] 34))).ownsRow B1 34 5 (.slice none 0 0) 0 []) := hid (World.ownsRow_nil _ _ _ _)
                    go_wp2_with (first | (at_builtin; refine wpList_append_src B1 Hbl.out 32 34 (.agg #[.int .u8 0, .int .i64 0, .int .i64 0, .int .i64 0, .slice none 0 0]) 5 56 Tryd.underlying32 frame_info rfl (by omega) (by omega) rfl _ _ rfl (.slice none 0 0) 0 [] rfl hE1.out (some ⟨g, 0, none⟩) kk _ ((nets.take kk).flatMap FV.cells) rfl Hs1.out hlim1 ?_; intro v5 w5 ho5 hk5 hl5; simp only [Nat.zero_add, List.nil_append] at ho5; obtain ⟨a5, c5, rfl⟩ := row_form ho5; have hE5 := Keep.new (Ext.refl _) hk5 (fun i hi => by cases hi); have HL5 := hid (HL1.out.on hE5); have hs2 := Src.zero w5 ⟨g, 0, none⟩ nets kk (by omega); have Hs2 := hid hs2; have hw5 := Nat.le_trans Hbl.out hE5.size; have HBy5 := hid (HBy.out.ext hE5); have Ho5 := hid ho5; have HAy5 := hid (NumsAt.ext HAy.out hE5); clear ho5 hk5 hl5 hE5 hs2) | (at_builtin; refine wpList_append_src B1 hw5 32 34 (.agg #[.int .u8 0, .int .i64 0, .int .i64 0, .int .i64 0, .slice none 0 0]) 5 56 Tryd.underlying32 frame_info rfl (by omega) (by omega) rfl _ _ rfl (.slice a5 kk c5) kk ((nets.take kk).flatMap FV.cells) rfl Ho5.out (some ⟨g, 0, none⟩) (nets.length - (kk + 1)) _ ((nets.drop (kk + 1)).flatMap FV.cells) rfl Hs2.out hlim2 ?_; intro v6 w6 ho6 hk6 hl6; obtain ⟨a6, c6, rfl⟩ := row_form ho6; have hBy6 := HBy5.out.keep hk6 (fun e => by have h1 := (World.ownsRow.lt Ho5.out _ e).1; have h2 := Hbb.out; omega); have y0 := hBy6.av 0 rfl; have y1 := hBy6.av 1 rfl; have y2 := hBy6.av 2 rfl; have y3 := hBy6.av 3 rfl; have y4 := hBy6.av 4 rfl))
                    obtain ⟨nr, hnr⟩ : ∃ nr, nr = nets.take kk ++ nets.drop (kk + 1) := ⟨_, rfl⟩
                    have hnrl : nr.length = kk + (nets.length - (kk + 1)) := by rw [hnr]; simp; omega
                    have hsub : ∀ x ∈ nr, x ∈ nets := fun x hx => by
                      rw [hnr] at hx
                      exact (List.mem_append.1 hx).elim List.mem_of_mem_take List.mem_of_mem_drop
                    have hnf : nr.flatMap FV.cells = (nets.take kk).flatMap FV.cells ++ (nets.drop (kk + 1)).flatMap FV.cells := by rw [hnr, List.flatMap_append]
                    have HL6 := hid (HL5.out.renet (nets' := nr) Ho5.out Hwb.out hk6 (by rw [hnrl, hnf]; exact own_base ho6 Hwb.out) (fun x hx => HL5.out.net.nums x (hsub x hx)) (fun x hx => HL5.out.all x (hsub x hx)))
                    have HAy6 := hid (NumsAt.keep HAy5.out hk6 (Wr.row (own_base Ho5.out Hwb.out) (by decide)))
                    have hnl2 : nr.length ≤ 40 + 40 * k := by omega
                    rw [← hnrl] at HL6 ⊢
                    clear hnr hnrl hsub hnf ho6 hk6 hl6 HL5 Ho5 Hs2 Hs1 HAy5 HL1 HAy hw5 Hw1 hBy6 y0 y1 y2 y3 y4 HBy5 HBy
                    obtain ⟨HLsize, hHLs⟩ : ∃ HLsize, HLsize = w6.heap.size := ⟨_, rfl⟩
                    have HHLs := hid hHLs
                    clear hHLs
                    have HT := hid (by
                      have := (HL6.out).take hl Hbd.out y HAy6.out jy hjy Hyf.out ev He.out hev
                      rw [Hyval.out] at this
                      unfold frv at this
                      rw [Hyn.out] at this
                      exact this)
                    refine HT.out.mono ?_
                    intro e w5 hx
                    obtain ⟨ov, outs, e', r', rfl, hL7, hF, hO, hee, _, _⟩ := hx
                    obtain ⟨a7, c7, rfl⟩ := hF.form
                    have hol : outs.length = e' - d := by have := congrArg List.length hO; simpa using this
                    have HO := hid hO
                    have HL7 := hid hL7
                    have HF7 := hid hF
                    have hei : e' ≤ i := hL7.orc.le
                    clear HT hO hL7 hF
                    go_wp2
                    go_loopw [14, 23] (fun t14 t23 wq => ∃ j : Nat, t23 = .int .i64 (j : Int) ∧ j ≤ outs.length ∧ LOn w vs i p q b aa (d + j) e' now c r' (.slice a6 nr.length c6) t14 nr wq ∧ FRow wq w.heap.size t14.ownBlock HLsize 34 (.slice a7 outs.length c7) outs) (fun _ t23 _ => outs.length - (intOf t23).toNat)
                    case atStart => exact ⟨0, rfl, Nat.zero_le _, HL7.out, by rw [HHLs.out]; exact HF7.out⟩
                    case round =>
                      clear HL7 HF7
                      obtain ⟨j, rfl, hj, hLj, hFj⟩ := hrel
                      have HLj := hid hLj
                      have HFj := hid hFj
                      obtain ⟨at2, ct2, rfl⟩ := hLj.told.form
                      have htl2 : (vs.take (d + j)).length = d + j := by rw [List.length_take, Hln.out]; omega
                      rw [htl2]
                      rw [htl2] at HLj HFj
                      clear hLj hFj
                      by_cases hjo : j < outs.length
                      · have hxj : outs[j]? = some (outs[j]'hjo) := List.getElem?_eq_getElem hjo
                        obtain ⟨u, hud⟩ : ∃ u, u = outs[j]'hjo := ⟨_, rfl⟩
                        rw [← hud] at hxj
                        have huf : u.f = ofr vs (d + j) := by
                          have h1 := map_get HO.out hxj
                          rw [List.getElem?_map, List.getElem?_range' (by omega)] at h1
                          simpa using h1.symm
                        obtain ⟨g7, cp7, he7⟩ := own_some HFj.out.row (by omega)
                        simp only [Value.slice.injEq, true_and] at he7
                        obtain ⟨rfl, rfl⟩ := he7
                        obtain ⟨_, _, _, _, zz⟩ := HFj.out.getp rfl hxj
                        obtain ⟨au, cu, _, huv, hui⟩ := (HFj.out.nums u (List.mem_of_getElem? hxj)).form
                        have hun : u.f.nums = [vs.getD (d + j) 0] := by rw [huf]; rfl
                        rw [hun] at huv hui
                        rw [huv] at zz
                        have Hsu := hid (Src.ints hui)
                        have hdj : d + j < i := by omega
                        have HTi := hid (irow_len (show d + j ≤ vs.length by rw [Hln.out]; omega) HLj.out.told)
                        have hlm : d + j + 1 ≤ 1000000 := by omega
                        have Hwe := hid HLj.out.ext.size
                        clear hxj hud huf huv hui hun
                        go_wp2_with (at_builtin; refine wpList_append_src w.heap.size Hwe.out 22 3 (.int .i64 0) 1 8 Tryd.underlying22 ints_info rfl (by omega) (by omega) rfl _ _ rfl (.slice at2 (d + j) ct2) (d + j) (icells (vs.take (d + j))) rfl HTi.out au 1 cu (icells [vs.getD (d + j) 0]) rfl Hsu.out hlm ?_; intro v8 w8 ho8 hk8 hl8; obtain ⟨a8, c8, rfl⟩ := row_form ho8)
                        have hK8 := HLj.out.toldK hk8 hl8
                        have HL9 := hid (HLj.out.say hK8 (irow_snoc (by rw [Hln.out]; exact hdj) ho8) (show d + j + 1 ≤ e' by omega))
                        have HF9 := hid (HFj.out.told hK8 (by decide))
                        clear hK8 ho8 hk8 hl8
                        go_roundw
                        case rel => exact ⟨j + 1, by go_num, by omega, HL9.out, HF9.out⟩
                        case measure => simp [intOf]; omega
                      · obtain rfl : j = outs.length := by omega
                        have hde2 : d + outs.length = e' := by omega
                        rw [hde2] at HLj HFj ⊢
                        have hti := irow_len (show e' ≤ vs.length by rw [Hln.out]; exact hei) HLj.out.told
                        have hii : Ints wr at2 e' (vs.take e') := by
                          have h1 := HLj.out.told
                          have h2 : (vs.take e').length = e' := by rw [List.length_take, Hln.out]; omega
                          have h3 := h1.ints (Hr.out.part e' hei).hi
                          rwa [h2] at h3
                        have hin := (Hr.out.ext HLj.out.ext).part e' hei
                        have HSI := hid (sameints_any at2 (some xn) e' e' ct2 cap (vs.take e') (vs.take e') _ hii hin (by omega) (by omega))
                        rw [decide_eq_true rfl] at HSI
                        have hc1 := Hcap.out.le
                        have hc2 := Hcap.out.hi
                        have hce : (e' : Int) ≤ (cap : Int) := by omega
                        clear hti hii hin hjo hj hol
                        go_wp2_with fail
                        refine HSI.out.mono ?_
                        intro e w6 hx
                        obtain ⟨rfl, hx6⟩ := hx
                        have HL6 := hid (HLj.out.on hx6)
                        have HD := hid HL6.out.due
                        clear HSI HLj HFj hx6
                        go_wp2_with fail
                        refine HD.out.mono ?_
                        intro e w7 hx
                        obtain ⟨rfl, rfl⟩ := hx
                        clear HD
                        by_cases hbig : (2000 : Int) < ((nr).length : Int)
                        · have hE := hid HL6.out.ext
                          go_wp2
                          go_ret
                          exact ⟨rfl, hE.out⟩
                        · go_wp2
                          go_roundw
                          case rel => exact ⟨k + 1, aa, e', now, c, r', nr, by go_num, by omega, HL6.out, by omega, by omega⟩
                          case measure => simp [intOf]; omega
                  · obtain ⟨B1, hB1⟩ : ∃ B1, B1 = (wr.alloc (.cells #[.int .u8 (y.f.kind.toNat : Int), .int .i64 y.f.fr, .int .i64 y.f.to, .int .i64 y.f.seq, .slice ay 1 cy] 34)).heap.size := ⟨_, rfl⟩
                    have HB1 := hid hB1
                    have hbb : B1 = wr.heap.size + 1 := by rw [hB1, heap_size_alloc]
                    have Hbb := hid hbb
                    have Hwb : Hid (w.heap.size ≤ B1) := hid (by have := HL.out.ext.size; omega)
                    have HBy := hid (Blk.new wr #[.int .u8 (y.f.kind.toNat : Int), .int .i64 y.f.fr, .int .i64 y.f.to, .int .i64 y.f.seq, .slice ay 1 cy] 34)
                    have hbl : B1 ≤ (wr.alloc (.cells #[.int .u8 (y.f.kind.toNat : Int), .int .i64 y.f.fr, .int .i64 y.f.to, .int .i64 y.f.seq, .slice ay 1 cy] 34)).heap.size := Nat.le_of_eq hB1
                    have Hbl := hid hbl
                    clear hB1 hbb hbl
                    have hE1 : Hid (((wr.alloc (.cells #[.int .u8 (y.f.kind.toNat : Int), .int .i64 y.f.fr, .int .i64 y.f.to, .int .i64 y.f.seq, .slice ay 1 cy] 34))).ownsRow B1 34 5 (.slice none 0 0) 0 []) := hid (World.ownsRow_nil _ _ _ _)
                    go_wp2_with (first | (at_builtin; refine wpList_append_src B1 Hbl.out 32 34 (.agg #[.int .u8 0, .int .i64 0, .int .i64 0, .int .i64 0, .slice none 0 0]) 5 56 Tryd.underlying32 frame_info rfl (by omega) (by omega) rfl _ _ rfl (.slice none 0 0) 0 [] rfl hE1.out (some ⟨g, 0, none⟩) kk _ ((nets.take kk).flatMap FV.cells) rfl Hs1.out hlim1 ?_; intro v5 w5 ho5 hk5 hl5; simp only [Nat.zero_add, List.nil_append] at ho5; obtain ⟨a5, c5, rfl⟩ := row_form ho5; have hE5 := Keep.new (Ext.refl _) hk5 (fun i hi => by cases hi); have HL5 := hid (HL1.out.on hE5); have hs2 := Src.tail HL5.out.net rfl (kk + 1) (by omega); have Hs2 := hid hs2; have hw5 := Nat.le_trans Hbl.out hE5.size; have HBy5 := hid (HBy.out.ext hE5); have Ho5 := hid ho5; have HAy5 := hid (NumsAt.ext HAy.out hE5); clear ho5 hk5 hl5 hE5 hs2) | (at_builtin; refine wpList_append_src B1 hw5 32 34 (.agg #[.int .u8 0, .int .i64 0, .int .i64 0, .int .i64 0, .slice none 0 0]) 5 56 Tryd.underlying32 frame_info rfl (by omega) (by omega) rfl _ _ rfl (.slice a5 kk c5) kk ((nets.take kk).flatMap FV.cells) rfl Ho5.out (some ⟨g, (kk + 1) * 5, none⟩) (nets.length - (kk + 1)) _ ((nets.drop (kk + 1)).flatMap FV.cells) rfl Hs2.out hlim2 ?_; intro v6 w6 ho6 hk6 hl6; obtain ⟨a6, c6, rfl⟩ := row_form ho6; have hBy6 := HBy5.out.keep hk6 (fun e => by have h1 := (World.ownsRow.lt Ho5.out _ e).1; have h2 := Hbb.out; omega); have y0 := hBy6.av 0 rfl; have y1 := hBy6.av 1 rfl; have y2 := hBy6.av 2 rfl; have y3 := hBy6.av 3 rfl; have y4 := hBy6.av 4 rfl))
                    obtain ⟨nr, hnr⟩ : ∃ nr, nr = nets.take kk ++ nets.drop (kk + 1) := ⟨_, rfl⟩
                    have hnrl : nr.length = kk + (nets.length - (kk + 1)) := by rw [hnr]; simp; omega
                    have hsub : ∀ x ∈ nr, x ∈ nets := fun x hx => by
                      rw [hnr] at hx
                      exact (List.mem_append.1 hx).elim List.mem_of_mem_take List.mem_of_mem_drop
                    have hnf : nr.flatMap FV.cells = (nets.take kk).flatMap FV.cells ++ (nets.drop (kk + 1)).flatMap FV.cells := by rw [hnr, List.flatMap_append]
                    have HL6 := hid (HL5.out.renet (nets' := nr) Ho5.out Hwb.out hk6 (by rw [hnrl, hnf]; exact own_base ho6 Hwb.out) (fun x hx => HL5.out.net.nums x (hsub x hx)) (fun x hx => HL5.out.all x (hsub x hx)))
                    have HAy6 := hid (NumsAt.keep HAy5.out hk6 (Wr.row (own_base Ho5.out Hwb.out) (by decide)))
                    have hnl2 : nr.length ≤ 40 + 40 * k := by omega
                    rw [← hnrl] at HL6 ⊢
                    clear hnr hnrl hsub hnf ho6 hk6 hl6 HL5 Ho5 Hs2 Hs1 HAy5 HL1 HAy hw5 Hw1 hBy6 y0 y1 y2 y3 y4 HBy5 HBy
                    obtain ⟨HLsize, hHLs⟩ : ∃ HLsize, HLsize = w6.heap.size := ⟨_, rfl⟩
                    have HHLs := hid hHLs
                    clear hHLs
                    have HT := hid (by
                      have := (HL6.out).take hl Hbd.out y HAy6.out jy hjy Hyf.out ev He.out hev
                      rw [Hyval.out] at this
                      unfold frv at this
                      rw [Hyn.out] at this
                      exact this)
                    refine HT.out.mono ?_
                    intro e w5 hx
                    obtain ⟨ov, outs, e', r', rfl, hL7, hF, hO, hee, _, _⟩ := hx
                    obtain ⟨a7, c7, rfl⟩ := hF.form
                    have hol : outs.length = e' - d := by have := congrArg List.length hO; simpa using this
                    have HO := hid hO
                    have HL7 := hid hL7
                    have HF7 := hid hF
                    have hei : e' ≤ i := hL7.orc.le
                    clear HT hO hL7 hF
                    go_wp2
                    go_loopw [14, 23] (fun t14 t23 wq => ∃ j : Nat, t23 = .int .i64 (j : Int) ∧ j ≤ outs.length ∧ LOn w vs i p q b aa (d + j) e' now c r' (.slice a6 nr.length c6) t14 nr wq ∧ FRow wq w.heap.size t14.ownBlock HLsize 34 (.slice a7 outs.length c7) outs) (fun _ t23 _ => outs.length - (intOf t23).toNat)
                    case atStart => exact ⟨0, rfl, Nat.zero_le _, HL7.out, by rw [HHLs.out]; exact HF7.out⟩
                    case round =>
                      clear HL7 HF7
                      obtain ⟨j, rfl, hj, hLj, hFj⟩ := hrel
                      have HLj := hid hLj
                      have HFj := hid hFj
                      obtain ⟨at2, ct2, rfl⟩ := hLj.told.form
                      have htl2 : (vs.take (d + j)).length = d + j := by rw [List.length_take, Hln.out]; omega
                      rw [htl2]
                      rw [htl2] at HLj HFj
                      clear hLj hFj
                      by_cases hjo : j < outs.length
                      · have hxj : outs[j]? = some (outs[j]'hjo) := List.getElem?_eq_getElem hjo
                        obtain ⟨u, hud⟩ : ∃ u, u = outs[j]'hjo := ⟨_, rfl⟩
                        rw [← hud] at hxj
                        have huf : u.f = ofr vs (d + j) := by
                          have h1 := map_get HO.out hxj
                          rw [List.getElem?_map, List.getElem?_range' (by omega)] at h1
                          simpa using h1.symm
                        obtain ⟨g7, cp7, he7⟩ := own_some HFj.out.row (by omega)
                        simp only [Value.slice.injEq, true_and] at he7
                        obtain ⟨rfl, rfl⟩ := he7
                        obtain ⟨_, _, _, _, zz⟩ := HFj.out.getp rfl hxj
                        obtain ⟨au, cu, _, huv, hui⟩ := (HFj.out.nums u (List.mem_of_getElem? hxj)).form
                        have hun : u.f.nums = [vs.getD (d + j) 0] := by rw [huf]; rfl
                        rw [hun] at huv hui
                        rw [huv] at zz
                        have Hsu := hid (Src.ints hui)
                        have hdj : d + j < i := by omega
                        have HTi := hid (irow_len (show d + j ≤ vs.length by rw [Hln.out]; omega) HLj.out.told)
                        have hlm : d + j + 1 ≤ 1000000 := by omega
                        have Hwe := hid HLj.out.ext.size
                        clear hxj hud huf huv hui hun
                        go_wp2_with (at_builtin; refine wpList_append_src w.heap.size Hwe.out 22 3 (.int .i64 0) 1 8 Tryd.underlying22 ints_info rfl (by omega) (by omega) rfl _ _ rfl (.slice at2 (d + j) ct2) (d + j) (icells (vs.take (d + j))) rfl HTi.out au 1 cu (icells [vs.getD (d + j) 0]) rfl Hsu.out hlm ?_; intro v8 w8 ho8 hk8 hl8; obtain ⟨a8, c8, rfl⟩ := row_form ho8)
                        have hK8 := HLj.out.toldK hk8 hl8
                        have HL9 := hid (HLj.out.say hK8 (irow_snoc (by rw [Hln.out]; exact hdj) ho8) (show d + j + 1 ≤ e' by omega))
                        have HF9 := hid (HFj.out.told hK8 (by decide))
                        clear hK8 ho8 hk8 hl8
                        go_roundw
                        case rel => exact ⟨j + 1, by go_num, by omega, HL9.out, HF9.out⟩
                        case measure => simp [intOf]; omega
                      · obtain rfl : j = outs.length := by omega
                        have hde2 : d + outs.length = e' := by omega
                        rw [hde2] at HLj HFj ⊢
                        have hti := irow_len (show e' ≤ vs.length by rw [Hln.out]; exact hei) HLj.out.told
                        have hii : Ints wr at2 e' (vs.take e') := by
                          have h1 := HLj.out.told
                          have h2 : (vs.take e').length = e' := by rw [List.length_take, Hln.out]; omega
                          have h3 := h1.ints (Hr.out.part e' hei).hi
                          rwa [h2] at h3
                        have hin := (Hr.out.ext HLj.out.ext).part e' hei
                        have HSI := hid (sameints_any at2 (some xn) e' e' ct2 cap (vs.take e') (vs.take e') _ hii hin (by omega) (by omega))
                        rw [decide_eq_true rfl] at HSI
                        have hc1 := Hcap.out.le
                        have hc2 := Hcap.out.hi
                        have hce : (e' : Int) ≤ (cap : Int) := by omega
                        clear hti hii hin hjo hj hol
                        go_wp2_with fail
                        refine HSI.out.mono ?_
                        intro e w6 hx
                        obtain ⟨rfl, hx6⟩ := hx
                        have HL6 := hid (HLj.out.on hx6)
                        have HD := hid HL6.out.due
                        clear HSI HLj HFj hx6
                        go_wp2_with fail
                        refine HD.out.mono ?_
                        intro e w7 hx
                        obtain ⟨rfl, rfl⟩ := hx
                        clear HD
                        by_cases hbig : (2000 : Int) < ((nr).length : Int)
                        · have hE := hid HL6.out.ext
                          go_wp2
                          go_ret
                          exact ⟨rfl, hE.out⟩
                        · go_wp2
                          go_roundw
                          case rel => exact ⟨k + 1, aa, e', now, c, r', nr, by go_num, by omega, HL6.out, by omega, by omega⟩
                          case measure => simp [intOf]; omega
        · obtain rfl : k = len2 := by omega
          have hcc : c ≤ now := HL.out.c1
          clear hlt
          go_wp2
          go_loopw [14, 24] (fun t14 t24 wr => ∃ (m ab d2 : Nat) (now2 c2 : Int) (r2 : Rcv), t24 = .int .i64 (m : Int) ∧ m ≤ 200 ∧ LOn w vs i p q b ab d2 d2 now2 c2 r2 (.slice ao nets.length co) t14 nets wr ∧ now2 ≤ 300 + (m : Int) ∧ (d2 = i ∨ (m : Int) ≤ now2 - c2)) (fun _ t24 _ => 200 - (intOf t24).toNat)
          case atStart => exact ⟨0, aa, d, now, c, r, rfl, by omega, HL.out, by omega, .inr (by omega)⟩
          case round =>
            clear HL
            obtain ⟨m, ab, d2, now2, c2, r2, rfl, hm, hL2, hnw2, hpr⟩ := hrel
            have HL2 := hid hL2
            have hd2i : d2 ≤ i := hL2.orc.le
            have hk1 := hL2.c0
            have hk2 := hL2.c1
            have hk3 := hL2.c2
            have hab : ab ≤ i := Nat.le_trans hL2.ae hd2i
            have habd := hL2.ae
            obtain ⟨at3, ct3, rfl⟩ := hL2.told.form
            have htl3 : (vs.take d2).length = d2 := by rw [List.length_take, Hln.out]; omega
            rw [htl3]
            rw [htl3] at HL2
            clear hL2
            by_cases hdi : d2 < i
            · have hm200 : m < 200 := by omega
              have hd3 : (d2 : Int) < (i : Int) := by omega
              have HT := hid (HL2.out.tick hl (by omega))
              go_wp2_with fail
              refine HT.out.mono ?_
              intro e w4 hx
              obtain ⟨ov, outs, rfl, hL3, hF3, hO3⟩ := hx
              obtain ⟨a9, c9, rfl⟩ := hF3.form
              obtain ⟨c3, hc3⟩ : ∃ c3, c3 = if now2 + 1 - c2 = 3 then now2 + 1 else c2 := ⟨_, rfl⟩
              rw [← hc3] at hL3
              have Hget : Hid (∀ (j : Nat) (x : FV), outs[j]? = some x → x.f = ofr vs (ab + j)) := hid fun j x hx => by
                have h1 := map_get hO3 hx
                split at h1
                · rw [List.getElem?_map] at h1
                  rcases Nat.lt_or_ge j (i - ab) with h2 | h2
                  · rw [List.getElem?_range' h2] at h1
                    simpa using h1.symm
                  · rw [List.getElem?_eq_none (by simpa using h2)] at h1; cases h1
                · simp at h1
              have hol : outs.length ≤ i - ab := by
                have h1 := congrArg List.length hO3
                rw [List.length_map] at h1
                split at h1
                · simp only [List.length_map, List.length_range'] at h1; omega
                · simp only [List.length_nil] at h1; omega
              have Hprog : Hid ((outs.length = i - ab) ∨ c3 = c2) := hid (by
                by_cases h3 : now2 + 1 - c2 = 3
                · rw [if_pos h3] at hO3
                  have h1 := congrArg List.length hO3
                  simp only [List.length_map, List.length_range'] at h1
                  exact .inl h1
                · rw [if_neg h3] at hc3
                  exact .inr hc3)
              have HL3 := hid hL3
              have HF3 := hid hF3
              obtain ⟨SZ, hSZ⟩ : ∃ SZ, SZ = wr.heap.size := ⟨_, rfl⟩
              rw [← hSZ] at HF3
              clear HT hL3 hF3 hO3 hc3 hSZ HL2
              go_wp2
              go_loopw [14, 26] (fun t14 t26 wr => ∃ (j e3 : Nat) (r3 : Rcv), t26 = .int .i64 (j : Int) ∧ j ≤ outs.length ∧ LOn w vs i p q b ab e3 e3 (now2 + 1) c3 r3 (.slice ao nets.length co) t14 nets wr ∧ FRow wr w.heap.size t14.ownBlock SZ 34 (.slice a9 outs.length c9) outs ∧ d2 ≤ e3 ∧ ab + j ≤ e3) (fun _ t26 _ => outs.length - (intOf t26).toNat)
              case atStart => exact ⟨0, d2, r2, rfl, Nat.zero_le _, HL3.out, HF3.out, Nat.le_refl _, by omega⟩
              case round =>
                clear HL3 HF3
                obtain ⟨j, e3, r3, rfl, hj, hLj, hFj, hde3, haj⟩ := hrel
                have HLj := hid hLj
                have HFj := hid hFj
                have he3i : e3 ≤ i := hLj.orc.le
                obtain ⟨at2, ct2, rfl⟩ := hLj.told.form
                have htl2 : (vs.take e3).length = e3 := by rw [List.length_take, Hln.out]; omega
                rw [htl2]
                rw [htl2] at HLj HFj
                clear hLj hFj
                by_cases hjo : j < outs.length
                · have hxj : outs[j]? = some (outs[j]'hjo) := List.getElem?_eq_getElem hjo
                  obtain ⟨y, hyd⟩ : ∃ y, y = outs[j]'hjo := ⟨_, rfl⟩
                  rw [← hyd] at hxj
                  have hyf := Hget.out j y hxj
                  have hAy := HFj.out.nums y (List.mem_of_getElem? hxj)
                  obtain ⟨g9, cp9, he9⟩ := own_some HFj.out.row (by omega)
                  simp only [Value.slice.injEq, true_and] at he9
                  obtain ⟨rfl, rfl⟩ := he9
                  obtain ⟨z0, z1, z2, z3, z4⟩ := HFj.out.getp rfl hxj
                  obtain ⟨ay, cy, hyval, hyv, _⟩ := hAy.form
                  have hyn : y.f.nums.length = 1 := by rw [hyf]; rfl
                  rw [hyv, hyn] at z4
                  have HT := hid (by
                    have := HLj.out.take hl Hbd.out y hAy (ab + j) (by omega) hyf ev He.out hev
                    rw [hyval] at this
                    unfold frv at this
                    rw [hyn] at this
                    exact this)
                  clear hxj hyd hyf hAy hyval hyv hyn
                  go_wp2_with fail
                  refine HT.out.mono ?_
                  intro e w5 hx
                  obtain ⟨ov, outsb, e4, r4, rfl, hL7, hF, hOb, hee, hje, hkeep⟩ := hx
                  obtain ⟨a7, c7, rfl⟩ := hF.form
                  have holb : outsb.length = e4 - e3 := by have := congrArg List.length hOb; simpa using this
                  have HOb := hid hOb
                  have HL7 := hid hL7
                  have HF7 := hid hF
                  have HG7 := hid (hkeep _ _ _ HFj.out)
                  have hei : e4 ≤ i := hL7.orc.le
                  have hje2 := hje haj
                  obtain ⟨SZ2, hSZ2⟩ : ∃ SZ2, SZ2 = wr.heap.size := ⟨_, rfl⟩
                  rw [← hSZ2] at HF7
                  clear HT hOb hL7 hF hkeep hje hSZ2 z0 z1 z2 z3 z4 HLj HFj
                  go_wp2
                  go_loopw [14, 29] (fun t14 t29 wq => ∃ l : Nat, t29 = .int .i64 (l : Int) ∧ l ≤ outsb.length ∧ LOn w vs i p q b ab (e3 + l) e4 (now2 + 1) c3 r4 (.slice ao nets.length co) t14 nets wq ∧ FRow wq w.heap.size t14.ownBlock SZ2 34 (.slice a7 outsb.length c7) outsb ∧ FRow wq w.heap.size t14.ownBlock SZ 34 (.slice (some ⟨g9, 0, none⟩) outs.length c9) outs) (fun _ t29 _ => outsb.length - (intOf t29).toNat)
                  case atStart => exact ⟨0, rfl, Nat.zero_le _, HL7.out, HF7.out, HG7.out⟩
                  case round =>
                    clear HL7 HF7 HG7
                    obtain ⟨l, rfl, hlb, hLl, hFl, hGl⟩ := hrel
                    have HLl := hid hLl
                    have HFl := hid hFl
                    have HGl := hid hGl
                    obtain ⟨at2, ct2, rfl⟩ := hLl.told.form
                    have htl4 : (vs.take (e3 + l)).length = e3 + l := by rw [List.length_take, Hln.out]; omega
                    rw [htl4]
                    rw [htl4] at HLl HFl HGl
                    clear hLl hFl hGl
                    by_cases hlo : l < outsb.length
                    · have hxj : outsb[l]? = some (outsb[l]'hlo) := List.getElem?_eq_getElem hlo
                      obtain ⟨u, hud⟩ : ∃ u, u = outsb[l]'hlo := ⟨_, rfl⟩
                      rw [← hud] at hxj
                      have huf : u.f = ofr vs (e3 + l) := by
                        have h1 := map_get HOb.out hxj
                        rw [List.getElem?_map, List.getElem?_range' (by omega)] at h1
                        simpa using h1.symm
                      obtain ⟨g7, cp7, he7⟩ := own_some HFl.out.row (by omega)
                      simp only [Value.slice.injEq, true_and] at he7
                      obtain ⟨rfl, rfl⟩ := he7
                      obtain ⟨_, _, _, _, zz⟩ := HFl.out.getp rfl hxj
                      obtain ⟨au, cu, _, huv, hui⟩ := (HFl.out.nums u (List.mem_of_getElem? hxj)).form
                      have hun : u.f.nums = [vs.getD (e3 + l) 0] := by rw [huf]; rfl
                      rw [hun] at huv hui
                      rw [huv] at zz
                      have Hsu := hid (Src.ints hui)
                      have hdj : e3 + l < i := by omega
                      have HTi := hid (irow_len (show e3 + l ≤ vs.length by rw [Hln.out]; omega) HLl.out.told)
                      have hlm : e3 + l + 1 ≤ 1000000 := by omega
                      have Hwe := hid HLl.out.ext.size
                      clear hxj hud huf huv hui hun
                      go_wp2_with (at_builtin; refine wpList_append_src w.heap.size Hwe.out 22 3 (.int .i64 0) 1 8 Tryd.underlying22 ints_info rfl (by omega) (by omega) rfl _ _ rfl (.slice at2 (e3 + l) ct2) (e3 + l) (icells (vs.take (e3 + l))) rfl HTi.out au 1 cu (icells [vs.getD (e3 + l) 0]) rfl Hsu.out hlm ?_; intro v8 w8 ho8 hk8 hl8; obtain ⟨a8, c8, rfl⟩ := row_form ho8)
                      have hK8 := HLl.out.toldK hk8 hl8
                      have HL9 := hid (HLl.out.say hK8 (irow_snoc (by rw [Hln.out]; exact hdj) ho8) (show e3 + l + 1 ≤ e4 by omega))
                      have HF9 := hid (HFl.out.told hK8 (by decide))
                      have HG9 := hid (HGl.out.told hK8 (by decide))
                      clear hK8 ho8 hk8 hl8
                      go_roundw
                      case rel => exact ⟨l + 1, by go_num, by omega, HL9.out, HF9.out, HG9.out⟩
                      case measure => simp [intOf]; omega
                    · obtain rfl : l = outsb.length := by omega
                      have hde4 : e3 + outsb.length = e4 := by omega
                      rw [hde4] at HLl HGl ⊢
                      clear hlo hlb
                      go_wp2
                      go_roundw
                      case rel => exact ⟨j + 1, e4, r4, by go_num, by omega, HLl.out, HGl.out, by omega, by omega⟩
                      case measure => simp [intOf]; omega
                · obtain rfl : j = outs.length := by omega
                  have HD := hid HLj.out.due
                  have HA := hid (HLj.out.acked hl hab)
                  clear HFj hjo
                  go_wp2_with fail
                  refine HD.out.mono ?_
                  intro e w7 hx
                  obtain ⟨rfl, rfl⟩ := hx
                  go_wp2_with fail
                  refine HA.out.mono ?_
                  intro e w7 hx
                  obtain ⟨rfl, hL8⟩ := hx
                  have HL8 := hid hL8
                  clear HD HA hL8 HLj
                  go_wp2
                  go_roundw
                  case rel => exact ⟨m + 1, e3, e3, now2 + 1, c3, r3, by go_num, by omega, HL8.out, by omega, by have := Hprog.out; omega⟩
                  case measure => simp [intOf]; omega
            · obtain rfl : d2 = i := by omega
              have hii : Ints wr at3 d2 (vs.take d2) := by
                have h1 := HL2.out.told
                have h2 : (vs.take d2).length = d2 := htl3
                have h3 := h1.ints (Hr.out.part d2 (Nat.le_refl _)).hi
                rwa [h2] at h3
              rw [List.take_of_length_le (by rw [Hln.out]; omega)] at hii
              have HSI := hid (sameints_any at3 _ d2 d2 ct3 cap vs vs wr hii (Hr.out.ext HL2.out.ext) (by omega) (by omega))
              rw [decide_eq_true rfl] at HSI
              have HE := hid HL2.out.ext
              clear hii HL2 hpr htl3
              by_cases hm2 : m < 200
              · go_wp2_with fail
                refine HSI.out.mono ?_
                intro e w6 hx
                obtain ⟨rfl, hx6⟩ := hx
                go_wp2
                go_ret
                exact ⟨rfl, HE.out.trans hx6⟩
              · go_wp2_with fail
                refine HSI.out.mono ?_
                intro e w6 hx
                obtain ⟨rfl, hx6⟩ := hx
                go_wp2
                go_ret
                exact ⟨rfl, HE.out.trans hx6⟩
end Go.Proofs.YtcfopaopcbjkeaaDoor
