/- Texts of one proof, put together: US U2 U3 U4 U5 U6. -/
import Derived.Test.YtamblahkckaaaaaDoorHPB02
import Derived.Test.YtamblahkckaaaaaDoorProg
import Derived.Shelf.Strings.SlTrimAscii
import Derived.Test.YtamblahkckaaaaaDoorHPB01
set_option linter.unusedSimpArgs false
set_option linter.unusedVariables false
namespace Go.Proofs
open Go.Shelf
def Tryd.lays160_ren : Go.Shelf.Ren := ⟨fun | 160 => 45 | 232 => 63 | 231 => 62 | 227 => 64 | 234 => 66 | 233 => 65 | 236 => 68 | 235 => 67 | 228 => 79 | 271 => 82 | 151 => 81 | 197 => 80 | 120 => 89 | 152 => 88 | 260 => 87 | 137 => 93 | 119 => 94 | 224 => 74 | 225 => 73 | 217 => 72 | 266 => 84 | n => n, fun | 9 => 9 | 4 => 4 | 3 => 3 | 5 => 5 | 117 => 102 | 116 => 101 | 0 => 0 | 124 => 105 | 21 => 21 | 105 => 114 | 46 => 110 | 119 => 124 | 139 => 127 | 138 => 126 | n => n, fun | 3 => 10 | 4 => 11 | n => n⟩
theorem Tryd.lays160 : Go.Proofs.Lays.n160 Tryd.prog Tryd.lays160_ren := {
  mixed := by kernel_rfl
  f119 := Tryd.func94.trans (congrArg some (by kernel_rfl))
  f120 := Tryd.func89.trans (congrArg some (by kernel_rfl))
  f137 := Tryd.func93.trans (congrArg some (by kernel_rfl))
  f151 := Tryd.func81.trans (congrArg some (by kernel_rfl))
  f152 := Tryd.func88.trans (congrArg some (by kernel_rfl))
  f160 := Tryd.func45.trans (congrArg some (by kernel_rfl))
  f197 := Tryd.func80.trans (congrArg some (by kernel_rfl))
  f217 := Tryd.func72.trans (congrArg some (by kernel_rfl))
  f224 := Tryd.func74.trans (congrArg some (by kernel_rfl))
  f225 := Tryd.func73.trans (congrArg some (by kernel_rfl))
  f227 := Tryd.func64.trans (congrArg some (by kernel_rfl))
  f228 := Tryd.func79.trans (congrArg some (by kernel_rfl))
  f231 := Tryd.func62.trans (congrArg some (by kernel_rfl))
  f232 := Tryd.func63.trans (congrArg some (by kernel_rfl))
  f233 := Tryd.func65.trans (congrArg some (by kernel_rfl))
  f234 := Tryd.func66.trans (congrArg some (by kernel_rfl))
  f235 := Tryd.func67.trans (congrArg some (by kernel_rfl))
  f236 := Tryd.func68.trans (congrArg some (by kernel_rfl))
  f260 := Tryd.func87.trans (congrArg some (by kernel_rfl))
  f266 := Tryd.func84.trans (congrArg some (by kernel_rfl))
  f271 := Tryd.func82.trans (congrArg some (by kernel_rfl))
  t0 := Tryd.underlying0
  a0 := Tryd.isAgg0
  z0 := Tryd.sizeOf0
  v0 := Tryd.zeroValue0
  t3 := Tryd.underlying3
  a3 := Tryd.isAgg3
  z3 := Tryd.sizeOf3
  v3 := Tryd.zeroValue3
  t4 := Tryd.underlying4
  a4 := Tryd.isAgg4
  z4 := Tryd.sizeOf4
  v4 := Tryd.zeroValue4
  t5 := Tryd.underlying5
  a5 := Tryd.isAgg5
  z5 := Tryd.sizeOf5
  v5 := Tryd.zeroValue5
  t9 := Tryd.underlying9
  a9 := Tryd.isAgg9
  z9 := Tryd.sizeOf9
  v9 := Tryd.zeroValue9
  t21 := Tryd.underlying21
  a21 := Tryd.isAgg21
  z21 := Tryd.sizeOf21
  v21 := Tryd.zeroValue21
  t46 := Tryd.underlying110
  a46 := Tryd.isAgg110
  z46 := Tryd.sizeOf110
  v46 := Tryd.zeroValue110
  t105 := Tryd.underlying114
  a105 := Tryd.isAgg114
  z105 := Tryd.sizeOf114
  v105 := Tryd.zeroValue114
  t116 := Tryd.underlying101
  a116 := Tryd.isAgg101
  z116 := Tryd.sizeOf101
  t117 := Tryd.underlying102
  a117 := Tryd.isAgg102
  z117 := Tryd.sizeOf102
  v117 := Tryd.zeroValue102
  t119 := Tryd.underlying124
  a119 := Tryd.isAgg124
  z119 := Tryd.sizeOf124
  t124 := Tryd.underlying105
  a124 := Tryd.isAgg105
  z124 := Tryd.sizeOf105
  v124 := Tryd.zeroValue105
  t138 := Tryd.underlying126
  a138 := Tryd.isAgg126
  z138 := Tryd.sizeOf126
  v138 := Tryd.zeroValue126
  t139 := Tryd.underlying127
  a139 := Tryd.isAgg127
  z139 := Tryd.sizeOf127
  v139 := Tryd.zeroValue127
  g3 := by kernel_rfl
  g4 := by kernel_rfl }
end Go.Proofs
namespace Go.Proofs.YtamblahkckaaaaaDoor
open Go Go.RowKit Go.Shelf Go.Lib
theorem add0 (b i : Nat) : (⟨b, 0, none⟩ : Addr).add i = ⟨b, i, none⟩ := by
  by_cases h0 : i = 0 <;> simp [Addr.add, h0]
theorem StrsR.blk {w : World} {b : Nat} {c : Array Value} {t : TypeId} {l : List ByteArray} (h : Blk w b c t) (hc : c.toList = l.map .string) (hl : (l.length : Int) ≤ 1000000) : StrsR w w.heap.size (.slice (some ⟨b, 0, none⟩) l.length l.length) l := by
  refine ⟨_, _, rfl, Nat.le_refl _, by omega, fun _ => ⟨_, rfl⟩, fun y hy h0 => ?_⟩
  obtain rfl := Option.some.inj hy
  refine ⟨h.lt, fun i hi s hs => ?_⟩
  rw [add0, h.cell, ← Array.getElem?_toList, hc, List.getElem?_map, hs]
  rfl
theorem IntsR.blk {w : World} {b : Nat} {c : Array Value} {t : TypeId} {l : List Int} (h : Blk w b c t) (hc : c.toList = l.map (.int .i64)) (hl : (l.length : Int) ≤ 1000000): IntsR w w.heap.size (.slice (some ⟨b, 0, none⟩) l.length l.length) l := by
  refine ⟨_, _, rfl, Nat.le_refl _, by omega, fun _ => ⟨_, rfl⟩, fun y hy h0 => ?_⟩
  obtain rfl := Option.some.inj hy
  refine ⟨h.lt, fun i hi s hs => ?_⟩
  rw [add0, h.cell, ← Array.getElem?_toList, hc, List.getElem?_map, hs]
  rfl
def reserved : List ByteArray := [⟨#[118, 97, 114]⟩, ⟨#[102, 110]⟩, ⟨#[110, 101, 119]⟩, ⟨#[99, 97, 108, 108]⟩]
def lettersS : ByteArray := ⟨#[97, 98, 99, 100, 101, 102, 103, 104, 105, 106, 107, 108, 109, 110, 111, 112, 113, 114, 115, 116, 117, 118, 119, 120, 121, 122, 48, 49, 50, 51, 52, 53, 54, 55, 56, 57]⟩
def nameRest (s : ByteArray) : Bool := eqB ⟨(trimS s.data.toList lettersS.data.toList).toArray⟩ ⟨#[]⟩
def first (s : ByteArray) : Nat := if h : 0 < s.size then s[0].toNat else 0
def nameOk (s : ByteArray) : Bool := !memB s reserved && (!s.toList.isEmpty && decide (s.size ≤ 8) && decide (97 ≤ first s) && decide (first s ≤ 122) && nameRest s)
theorem strim_any (s : ByteArray) (w : World) (hs : s.size ≤ 9223372036854775807) : Calls Tryd.prog 45 #[.string s, .string ⟨#[97, 98, 99, 100, 101, 102, 103, 104, 105, 106, 107, 108, 109, 110, 111, 112, 113, 114, 115, 116, 117, 118, 119, 120, 121, 122, 48, 49, 50, 51, 52, 53, 54, 55, 56, 57]⟩] w fun e w' => ∃ r, e = .returned (.string r) ∧ eqB r ⟨#[]⟩ = nameRest s ∧ Ext w w' :=
  (Any.strings_Trim_laid Tryd.lays160 (by kernel_rfl) s lettersS w hs (by decide) (ascii_of_all (by decide))).mono fun _ _ h => ⟨_, h.1, rfl, h.2⟩
set_option maxRecDepth 100000 in
set_option maxHeartbeats 1600000 in
theorem name_any (s : ByteArray) (w : World) (hs : s.size ≤ 9223372036854775807) : Calls Tryd.prog 32 #[.string s] w fun e w' => e = .returned (.bool (nameOk s)) ∧ Ext w w' := by
  obtain ⟨W, hW⟩ : ∃ W, W = w.alloc (.cells #[.string ⟨#[118, 97, 114]⟩, .string ⟨#[102, 110]⟩, .string ⟨#[110, 101, 119]⟩, .string ⟨#[99, 97, 108, 108]⟩] 9) := ⟨_, rfl⟩
  have hx : Ext w W := by rw [hW]; exact (Ext.refl _).alloc _
  have HC : Hid (Calls Tryd.prog 33 #[.slice (some ⟨w.heap.size, 0, none⟩) 4 4, .string s] W fun e w' => e = .returned (.bool (memB s reserved)) ∧ W = w') := hid (by
    refine containss_any (.slice (some ⟨w.heap.size, 0, none⟩) 4 4) reserved s W W.heap.size (StrsR.blk (l := reserved) (c := #[.string ⟨#[118, 97, 114]⟩, .string ⟨#[102, 110]⟩, .string ⟨#[110, 101, 119]⟩, .string ⟨#[99, 97, 108, 108]⟩]) (t := 9) ?_ rfl (by decide))
    rw [hW]; exact Blk.new _ _ _)
  have HT := hid (strim_any s W hs)
  have HW := hid hW
  have Hs := hid hs
  clear hW hs
  go_enter Tryd.func32, Tryd.ntmps32
  go_wp2_with fail
  rw [← HW.out]
  refine HC.out.mono ?_
  intro e w1 hx1
  obtain ⟨rfl, rfl⟩ := hx1
  clear HC
  cases hm : memB s reserved with
  | true =>
    have Hr := hid (show nameOk s = false by unfold nameOk; rw [hm]; rfl)
    go_wp2
    go_ret
    exact ⟨by rw [Hr.out]; rfl, hx⟩
  | false =>
    have Hm := hid hm
    clear hm
    by_cases h0 : s.toList = []
    · have Hr := hid (show nameOk s = false by unfold nameOk; rw [h0]; simp)
      clear HT
      go_wp2
      go_ret
      exact ⟨by rw [Hr.out]; rfl, hx⟩
    have hz : 0 < s.size := by
      rcases Nat.eq_zero_or_pos s.size with h | h
      · exact absurd (by rw [toList_data]; exact List.eq_nil_of_length_eq_zero (by simpa using h)) h0
      · exact h
    have H0 := hid (show (!s.toList.isEmpty) = true by simpa using h0)
    have Hf := hid (show first s = s[0].toNat by unfold first; rw [dif_pos hz])
    by_cases h8 : s.size ≤ 8
    · by_cases h97 : 97 ≤ s[0].toNat
      · by_cases h122 : s[0].toNat ≤ 122
        · have Hd := hid (show nameOk s = nameRest s by unfold nameOk; rw [Hm.out, H0.out, Hf.out, decide_eq_true h8, decide_eq_true h97, decide_eq_true h122]; simp)
          clear Hf Hs Hm
          go_wp2_with fail
          refine HT.out.mono ?_
          intro e w2 hx2
          obtain ⟨r, rfl, hr, hx2⟩ := hx2
          clear HT
          cases hq : nameRest s with
          | true =>
            rw [hq] at hr
            have Hq := hid hq
            clear hq
            unfold eqB at hr
            simp at hr
            go_wp2
            go_ret
            exact ⟨by rw [Hd.out, Hq.out]; exact congrArg (fun b => Ending.returned (Value.bool b)) H0.out, hx.trans hx2⟩
          | false =>
            rw [hq] at hr
            have Hq := hid hq
            clear hq
            unfold eqB at hr
            simp at hr
            go_wp2
            go_ret
            exact ⟨by rw [Hd.out, Hq.out]; exact congrArg (fun b => Ending.returned (Value.bool b)) (by rw [H0.out]; simpa using hr), hx.trans hx2⟩
        · have Hr := hid (show nameOk s = false by unfold nameOk; rw [Hf.out, decide_eq_false h122]; simp)
          clear HT
          go_wp2
          go_ret
          exact ⟨by rw [Hr.out]; rfl, hx⟩
      · have Hr := hid (show nameOk s = false by unfold nameOk; rw [Hf.out, decide_eq_false h97]; simp)
        clear HT
        go_wp2
        go_ret
        exact ⟨by rw [Hr.out]; rfl, hx⟩
    · have Hr := hid (show nameOk s = false by unfold nameOk; rw [decide_eq_false h8]; simp)
      clear HT
      go_wp2
      go_ret
      exact ⟨by rw [Hr.out]; rfl, hx⟩
end Go.Proofs.YtamblahkckaaaaaDoor
namespace Go.Proofs.YtamblahkckaaaaaDoor
open Go Go.RowKit
structure ErrsP (w : World) (ad : Nat → Addr) : Prop where
  at2 : w.cell? ⟨3, 0, none⟩ = some (evOf ad 2)
  at3 : w.cell? ⟨7, 0, none⟩ = some (evOf ad 3)
  at4 : w.cell? ⟨6, 0, none⟩ = some (evOf ad 4)
  at5 : w.cell? ⟨1, 0, none⟩ = some (evOf ad 5)
  at7 : w.cell? ⟨2, 0, none⟩ = some (evOf ad 7)
  at8 : w.cell? ⟨0, 0, none⟩ = some (evOf ad 8)
  at9 : w.cell? ⟨5, 0, none⟩ = some (evOf ad 9)
  ne57 : ad 5 ≠ ad 7
  row5 : ∃ cs t, w.heap[(ad 5).block]? = some (.cells cs t (0, 0))
  row7 : ∃ cs t, w.heap[(ad 7).block]? = some (.cells cs t (0, 0))
theorem ErrsP.ext {w w' : World} {ad : Nat → Addr} (h : ErrsP w ad) (x : Ext w w') : ErrsP w' ad :=
  ⟨x.cellx h.at2, x.cellx h.at3, x.cellx h.at4, x.cellx h.at5, x.cellx h.at7, x.cellx h.at8, x.cellx h.at9, h.ne57, (let ⟨cs, t, e⟩ := h.row5; ⟨cs, t, x.get e⟩), (let ⟨cs, t, e⟩ := h.row7; ⟨cs, t, x.get e⟩)⟩
def anyBad (l : List ByteArray) : Bool := l.any fun s => !nameOk s
def namesErr (l : List ByteArray) : Nat := bif anyBad l then 5 else bif dupS l then 7 else 0
set_option maxRecDepth 100000 in
set_option maxHeartbeats 800000 in
theorem namesc_any (s : ByteArray) (w : World) (hs : s.size ≤ 9223372036854775807) : Calls Tryd.prog 31 #[.string s] w fun e w' => e = .returned (.bool (!nameOk s)) ∧ Ext w w' := by
  have H := hid (name_any s w hs)
  clear hs
  go_enter Tryd.func31, Tryd.ntmps31
  go_wp2_with fail
  refine H.out.mono ?_
  intro e w1 hx
  obtain ⟨rfl, hx⟩ := hx
  clear H
  go_wp2
  go_ret
  exact ⟨rfl, hx⟩
set_option maxRecDepth 100000 in
set_option maxHeartbeats 800000 in
theorem indexfs_any (v : Value) (l : List ByteArray) (w : World) (n0 : Nat) (h : StrsR w n0 v l) (hz : ∀ s ∈ l, s.size ≤ 1000000) : Calls Tryd.prog 44 #[v, .func (.func 31) #[] #[]] w fun e w' => ∃ r : Int, e = .returned (.int .i64 r) ∧ IdxR (anyBad l = true) r ∧ Ext w w' := by
  have HS := hid h
  obtain ⟨a, cap, rfl, h2, h3, h4, _⟩ := h
  have H4 := hid h4
  have Hz := hid hz
  have hml : (l.length : Int) ≤ 9223372036854775807 := by omega
  clear h2 h3 h4 hz
  go_enter Tryd.func44, Tryd.ntmps44
  go_wp2
  go_loopw [8] (fun t8 wr => ∃ k : Nat, t8 = .int .i64 (k : Int) ∧ k ≤ l.length ∧ (∀ j t, j < k → l[j]? = some t → nameOk t = true) ∧ Ext w wr) (fun t8 _ => l.length - (intOf t8).toNat)
  case atStart => exact ⟨0, rfl, Nat.zero_le _, fun j t h => by omega, Ext.refl _⟩
  case round =>
    obtain ⟨k, rfl, hk, hne, hx⟩ := hrel
    have Hne := hid hne
    clear hne
    by_cases hlt : k < l.length
    · obtain ⟨y, rfl⟩ := H4.out (by omega)
      have hxk : l[k]? = some (l[k]'hlt) := List.getElem?_eq_getElem hlt
      obtain ⟨t, ht⟩ : ∃ t, t = l[k]'hlt := ⟨_, rfl⟩
      rw [← ht] at hxk
      have hS := HS.out.old (hx.old n0)
      obtain ⟨a', cap', h1, _, _, _, h5⟩ := hS
      obtain ⟨rfl, rfl⟩ : some y = a' ∧ cap = cap' := by simpa using h1
      have hc := (h5 y rfl (by omega)).2 k hlt t hxk
      have HN := hid (namesc_any t wr (by have := Hz.out t (List.mem_of_getElem? hxk); omega))
      have Hxk := hid hxk
      have Hx := hid hx
      clear hxk ht h1 h5 hx
      go_wp2_with fail
      refine HN.out.mono ?_
      intro e w1 hx1
      obtain ⟨rfl, hx1⟩ := hx1
      have Hx1 := hid (Hx.out.trans hx1)
      clear HN hx1 Hx hc
      cases he : nameOk t with
      | false =>
        have Hin := hid (IdxR.yes (k := k) (show anyBad l = true from List.any_eq_true.2 ⟨t, List.mem_of_getElem? Hxk.out, by simp only [he, Bool.not_false]⟩) (by omega))
        go_wp2
        go_ret
        exact ⟨(k : Int), rfl, Hin.out, Hx1.out⟩
      | true =>
        have Hf := hid he
        clear he
        go_wp2
        go_roundw
        case rel =>
          refine ⟨k + 1, by go_num, by omega, fun j u hj hu => ?_, Hx1.out⟩
          by_cases hjk : j = k
          · subst hjk
            obtain rfl := Option.some.inj (Hxk.out.symm.trans hu)
            exact Hf.out
          · exact Hne.out j u (by omega) hu
        case measure => simp [intOf]; omega
    · obtain rfl : k = l.length := by omega
      have Hx := hid hx
      clear hx
      have Hnot := hid (IdxR.no (show ¬ anyBad l = true from fun hm => by
        obtain ⟨t, ht, e⟩ := List.any_eq_true.1 hm
        obtain ⟨j, hj, e2⟩ := List.mem_iff_getElem.1 ht
        rw [Hne.out j t hj (by rw [List.getElem?_eq_getElem hj, e2])] at e
        cases e))
      go_wp2
      go_ret
      exact ⟨(-1 : Int), rfl, Hnot.out, Hx.out⟩
set_option maxRecDepth 100000 in
set_option maxHeartbeats 800000 in
theorem containsfs_any (v : Value) (l : List ByteArray) (w : World) (n0 : Nat) (h : StrsR w n0 v l) (hz : ∀ s ∈ l, s.size ≤ 1000000) : Calls Tryd.prog 30 #[v, .func (.func 31) #[] #[]] w fun e w' => e = .returned (.bool (anyBad l)) ∧ Ext w w' := by
  have H := hid (indexfs_any v l w n0 h hz)
  obtain ⟨a, cap, rfl, _⟩ := h
  clear hz
  go_enter Tryd.func30, Tryd.ntmps30
  go_wp2_with fail
  refine H.out.mono ?_
  intro e w1 hx
  obtain ⟨r, rfl, hiff, hx⟩ := hx
  have hr := hiff.1
  have Hiff := hid hiff.2
  clear hiff H
  go_wp2
  go_ret
  refine ⟨congrArg (fun n => Ending.returned (Value.bool n)) ?_, hx⟩
  have h1 := Hiff.out
  cases hv : anyBad l with
  | true => rw [hv] at h1; simpa using h1
  | false => rw [hv] at h1; simpa using h1
set_option maxRecDepth 100000 in
set_option maxHeartbeats 1600000 in
theorem names_any (v : Value) (l : List ByteArray) (w : World) (n0 : Nat) (ad : Nat → Addr) (hE : ErrsP w ad) (h : StrsR w n0 v l) (hz : ∀ s ∈ l, s.size ≤ 1000000) : Calls Tryd.prog 17 #[v] w fun e w' => e = .returned (errv (evOf ad) (namesErr l)) ∧ Ext w w' := by
  have HI := hid h
  have H := hid (containsfs_any v l w n0 h hz)
  have HE := hid hE
  obtain ⟨a, cap, rfl, h2, h3, h4, _⟩ := h
  have H4 := hid h4
  have hml : (l.length : Int) ≤ 9223372036854775807 := by omega
  clear h4 hz hE
  go_enter Tryd.func17, Tryd.ntmps17
  go_wp2_with fail
  refine H.out.mono ?_
  intro e w1 hx
  obtain ⟨rfl, hx⟩ := hx
  clear H
  have h5 := (HE.out.ext hx).at5
  have h7 := (HE.out.ext hx).at7
  unfold evOf at h5 h7
  have HS := hid (HI.out.old (hx.old n0))
  cases hb : anyBad l with
  | true =>
    have Hr := hid (show namesErr l = 5 by unfold namesErr; rw [hb]; rfl)
    clear hb
    go_wp2
    go_ret
    exact ⟨by rw [Hr.out]; rfl, hx⟩
  | false =>
  have Hb := hid hb
  have Hx := hid hx
  clear hb hx h5 HI
  go_wp2
  go_loop [10] (fun t10 => ∃ k : Nat, t10 = .int .i64 (k : Int) ∧ k ≤ l.length ∧ ∀ j, j < k → memB (l.getD j ⟨#[]⟩) (l.take j) = false) (fun t10 => l.length - (intOf t10).toNat)
  case atStart => exact ⟨0, rfl, Nat.zero_le _, fun j h => by omega⟩
  case round =>
    obtain ⟨k, rfl, hk, hne⟩ := hrel
    have Hne := hid hne
    clear hne
    by_cases hlt : k < l.length
    · obtain ⟨y, rfl⟩ := H4.out (by omega)
      have hxk : l[k]? = some (l.getD k ⟨#[]⟩) := by simp [List.getD_eq_getElem?_getD, hlt]
      obtain ⟨a', cap', h1, _, _, _, h5⟩ := HS.out
      obtain ⟨rfl, rfl⟩ : some y = a' ∧ cap = cap' := by simpa using h1
      have hc := (h5 y rfl (by omega)).2 k hlt _ hxk
      have HC := hid (containss_any _ _ (l.getD k ⟨#[]⟩) w1 n0 (HS.out.take k hk))
      obtain ⟨t, ht⟩ : ∃ t, t = l.getD k ⟨#[]⟩ := ⟨_, rfl⟩
      rw [← ht] at hc HC
      have Ht := hid ht
      clear ht hxk h1 h5
      go_wp2_with fail
      refine HC.out.mono ?_
      intro e w2 hx2
      obtain ⟨rfl, rfl⟩ := hx2
      clear HC
      cases he : memB t (l.take k) with
      | true =>
        have Hin : Hid (namesErr l = 7) := hid (by
          unfold namesErr
          rw [Hb.out, show dupS l = true from List.any_eq_true.2 ⟨k, List.mem_range.2 hlt, by rw [← Ht.out]; exact he⟩]
          rfl)
        go_wp2
        go_ret
        exact ⟨by rw [Hin.out]; rfl, Hx.out⟩
      | false =>
        have Hf := hid he
        clear he
        go_wp2
        refine ⟨⟨k + 1, by go_num, by omega, fun j hj => ?_⟩, by simp [intOf]; omega⟩
        by_cases hjk : j = k
        · subst hjk; rw [← Ht.out]; exact Hf.out
        · exact Hne.out j (by omega)
    · obtain rfl : k = l.length := by omega
      have Hnot : Hid (namesErr l = 0) := hid (by
        unfold namesErr
        rw [Hb.out, show dupS l = false from List.any_eq_false.2 fun j hj => by rw [Hne.out j (List.mem_range.1 hj)]; simp]
        rfl)
      go_wp2
      go_ret
      exact ⟨by rw [Hnot.out]; rfl, Hx.out⟩
def IdxF (p : Int → Bool) (l : List Int) (r : Int) : Prop := (r = -1 ∧ ∀ x ∈ l, p x = false) ∨ ∃ (i : Nat) (x : Int), r = (i : Int) ∧ i < l.length ∧ l[i]? = some x ∧ p x = true ∧ ∀ j y, j < i → l[j]? = some y → p y = false
set_option maxRecDepth 100000 in
set_option maxHeartbeats 800000 in
theorem indexfi_pv (b : Value) (p : Int → Bool) (v : Value) (l : List Int) (w : World) (n0 : Nat) (h : IntsR w n0 v l) (hF : ∀ n w1, Ext w w1 → Calls Tryd.prog 48 #[.int .i64 n, b] w1 fun e w' => e = .returned (.bool (p n)) ∧ Ext w1 w') :
    Calls Tryd.prog 69 #[v, .func (.func 48) #[] #[b]] w fun e w' => ∃ r : Int, e = .returned (.int .i64 r) ∧ IdxF p l r ∧ Ext w w' := by
  have HS := hid h
  have HF := hid hF
  obtain ⟨a, cap, rfl, h2, h3, h4, _⟩ := h
  have H4 := hid h4
  have hml : (l.length : Int) ≤ 9223372036854775807 := by omega
  clear h2 h3 h4 hF
  go_enter Tryd.func69, Tryd.ntmps69
  go_wp2
  go_loopw [8] (fun t8 wr => ∃ k : Nat, t8 = .int .i64 (k : Int) ∧ k ≤ l.length ∧ (∀ j t, j < k → l[j]? = some t → p t = false) ∧ Ext w wr) (fun t8 _ => l.length - (intOf t8).toNat)
  case atStart => exact ⟨0, rfl, Nat.zero_le _, fun j t h => by omega, Ext.refl _⟩
  case round =>
    obtain ⟨k, rfl, hk, hne, hx⟩ := hrel
    have Hne := hid hne
    clear hne
    by_cases hlt : k < l.length
    · obtain ⟨y, rfl⟩ := H4.out (by omega)
      have hxk : l[k]? = some (l[k]'hlt) := List.getElem?_eq_getElem hlt
      obtain ⟨t, ht⟩ : ∃ t, t = l[k]'hlt := ⟨_, rfl⟩
      rw [← ht] at hxk
      obtain ⟨a', cap', h1, _, _, _, h5⟩ := HS.out.old (hx.old n0)
      obtain ⟨rfl, rfl⟩ : some y = a' ∧ cap = cap' := by simpa using h1
      have hc := (h5 y rfl (by omega)).2 k hlt t hxk
      have HN := hid (HF.out t wr hx)
      have Hxk := hid hxk
      have Hx := hid hx
      clear hxk ht h1 h5 hx
      go_wp2_with fail
      refine HN.out.mono ?_
      intro e w1 hx1
      obtain ⟨rfl, hx1⟩ := hx1
      have Hx1 := hid (Hx.out.trans hx1)
      clear HN hx1 Hx hc
      cases he : p t with
      | true =>
        have Hin := hid (show IdxF p l (k : Int) from .inr ⟨k, t, rfl, hlt, Hxk.out, he, Hne.out⟩)
        go_wp2
        go_ret
        exact ⟨(k : Int), rfl, Hin.out, Hx1.out⟩
      | false =>
        have Hf := hid he
        clear he
        go_wp2
        go_roundw
        case rel =>
          refine ⟨k + 1, by go_num, by omega, fun j u hj hu => ?_, Hx1.out⟩
          by_cases hjk : j = k
          · subst hjk
            obtain rfl := Option.some.inj (Hxk.out.symm.trans hu)
            exact Hf.out
          · exact Hne.out j u (by omega) hu
        case measure => simp [intOf]; omega
    · obtain rfl : k = l.length := by omega
      have Hx := hid hx
      clear hx
      have Hnot := hid (show IdxF p l (-1) from .inl ⟨rfl, fun x hx => by
        obtain ⟨j, hj, e2⟩ := List.mem_iff_getElem.1 hx
        exact Hne.out j x hj (by rw [List.getElem?_eq_getElem hj, e2])⟩)
      go_wp2
      go_ret
      exact ⟨(-1 : Int), rfl, Hnot.out, Hx.out⟩
set_option maxRecDepth 100000 in
set_option maxHeartbeats 800000 in
theorem containsfi_pv (b : Value) (p : Int → Bool) (v : Value) (l : List Int) (w : World) (n0 : Nat) (h : IntsR w n0 v l) (hF : ∀ n w1, Ext w w1 → Calls Tryd.prog 48 #[.int .i64 n, b] w1 fun e w' => e = .returned (.bool (p n)) ∧ Ext w1 w') :
    Calls Tryd.prog 47 #[v, .func (.func 48) #[] #[b]] w fun e w' => e = .returned (.bool (l.any p)) ∧ Ext w w' := by
  have H := hid (indexfi_pv b p v l w n0 h hF)
  obtain ⟨a, cap, rfl, h2, h3, _⟩ := h
  have hml : (l.length : Int) ≤ 9223372036854775807 := by omega
  clear hF
  go_enter Tryd.func47, Tryd.ntmps47
  go_wp2_with fail
  refine H.out.mono ?_
  intro e w1 hx
  obtain ⟨r, rfl, hr, hx⟩ := hx
  clear H
  rcases hr with ⟨rfl, hr⟩ | ⟨i, x, rfl, hi, hxi, hp, _⟩
  · have Hr := hid (show l.any p = false from List.any_eq_false.2 fun x hx => by rw [hr x hx]; simp)
    clear hr
    go_wp2
    go_ret
    exact ⟨by rw [Hr.out]; rfl, hx⟩
  · have Hr := hid (show l.any p = true from List.any_eq_true.2 ⟨x, List.mem_of_getElem? hxi, hp⟩)
    clear hp hxi
    go_wp2
    go_ret
    exact ⟨by rw [Hr.out]; rfl, hx⟩
def pval (a1 a2 a3 : Option Addr) (c1 c2 c3 : Nat) (P : PP) : Value := .agg #[.slice a1 P.vars.length c1, .slice a2 P.funs.length c2, .slice a3 P.stmts.length c3]
def pcells (a1 a2 a3 : Option Addr) (c1 c2 c3 : Nat) (P : PP) : Array Value := #[.slice a1 P.vars.length c1, .slice a2 P.funs.length c2, .slice a3 P.stmts.length c3]
set_option maxRecDepth 100000 in
set_option maxHeartbeats 800000 in
theorem pvarsc_any (g : Nat) (a1 a2 a3 : Option Addr) (c1 c2 c3 : Nat) (P : PP) (n : Int) (w : World) (h : Blk w g (pcells a1 a2 a3 c1 c2 c3 P) 26) :
    Calls Tryd.prog 48 #[.int .i64 n, .pointer (some ⟨g, 0, none⟩)] w fun e w' => e = .returned (.bool (!P.inV n)) ∧ Ext w w' := by
  have h0 := h.av 0 rfl
  have Hr := hid (show (!P.inV n) = (decide (n < 0) || decide ((P.vars.length : Int) ≤ n)) by unfold PP.inV; simp)
  generalize hm : P.vars.length = m at *
  simp only [pcells, hm, qA0, qA1] at h0
  clear h hm
  go_enter Tryd.func48, Tryd.ntmps48
  by_cases hn : n < 0
  · go_wp2
    go_ret
    exact ⟨by rw [Hr.out, decide_eq_true hn]; rfl, Ext.refl _⟩
  · have Hn := hid hn
    by_cases hn2 : (m : Int) ≤ n
    · have Hn2 := hid hn2
      go_wp2
      go_ret
      exact ⟨by rw [Hr.out, decide_eq_false (show ¬ n < 0 by have := Hn.out; omega), decide_eq_true (show (m : Int) ≤ n by have := Hn2.out; omega)]; rfl, Ext.refl _⟩
    · have Hn2 := hid hn2
      go_wp2
      go_ret
      exact ⟨by rw [Hr.out, decide_eq_false (show ¬ n < 0 by have := Hn.out; omega), decide_eq_false (show ¬ (m : Int) ≤ n by have := Hn2.out; omega)]; rfl, Ext.refl _⟩
set_option maxRecDepth 100000 in
set_option maxHeartbeats 800000 in
theorem pvars_any (a1 a2 a3 : Option Addr) (c1 c2 c3 : Nat) (P : PP) (v : Value) (l : List Int) (w : World) (n0 : Nat) (h : IntsR w n0 v l) :
    Calls Tryd.prog 34 #[pval a1 a2 a3 c1 c2 c3 P, v] w fun e w' => e = .returned (.bool (P.allV l)) ∧ Ext w w' := by
  obtain ⟨W, hW⟩ : ∃ W, W = w.alloc (.cells (pcells a1 a2 a3 c1 c2 c3 P) 26) := ⟨_, rfl⟩
  have hx : Ext w W := by rw [hW]; exact (Ext.refl _).alloc _
  have hB : Blk W w.heap.size (pcells a1 a2 a3 c1 c2 c3 P) 26 := by rw [hW]; exact Blk.new _ _ _
  have H := hid (containsfi_pv (.pointer (some ⟨w.heap.size, 0, none⟩)) (fun n => !P.inV n) v l W n0 (h.old (hx.old n0)) (fun n w1 x => pvarsc_any _ a1 a2 a3 c1 c2 c3 P n w1 (hB.ext x)))
  have Hr := hid (show P.allV l = !l.any (fun n => !P.inV n) by unfold PP.allV; rw [List.not_any_eq_all_not]; simp)
  unfold pcells at hW
  have HW := hid hW
  obtain ⟨a, cap, rfl, _⟩ := h
  unfold pval
  generalize P.vars.length = m1 at *
  generalize P.funs.length = m2 at *
  generalize P.stmts.length = m3 at *
  clear hW hB
  go_enter Tryd.func34, Tryd.ntmps34
  go_wp2_with fail
  rw [← HW.out]
  refine H.out.mono ?_
  intro e w1 hx1
  obtain ⟨rfl, hx1⟩ := hx1
  clear H
  go_wp2
  go_ret
  exact ⟨by rw [Hr.out]; rfl, hx.trans hx1⟩
def PS.isK (s : PS) (k : List UInt8) : Bool := s.kind.toList == k
def kFun : List UInt8 := [102, 117, 110]
def kNew : List UInt8 := [110, 101, 119]
def kCall : List UInt8 := [99, 97, 108, 108]
def PP.boundY (P : PP) (s : PS) : Bool := bif s.isK kFun then decide (0 ≤ s.y) && decide (s.y < (P.funs.length : Int)) else bif s.isK kNew then true else P.inV s.y
def PP.bound (P : PP) (s : PS) : Bool := P.inV s.x && P.boundY s && P.allV s.args
def kindsS : List ByteArray := [⟨#[97, 100, 100, 114]⟩, ⟨#[99, 111, 112, 121]⟩, ⟨#[108, 111, 97, 100]⟩, ⟨#[115, 116, 111, 114, 101]⟩, ⟨#[110, 101, 119]⟩, ⟨#[102, 117, 110]⟩, ⟨#[99, 97, 108, 108]⟩]
def PP.stmtErr (P : PP) (s : PS) : Nat := bif !memB s.kind kindsS then 4 else bif !P.bound s then 2 else bif s.isK kCall && decide (3 < s.args.length) then 9 else bif (!s.isK kCall && decide (0 < s.args.length)) || (s.isK kNew && !decide (s.y = 0)) then 3 else 0
def sval (s : PS) (a : Option Addr) (cap : Nat) : Value := .agg #[.string s.kind, .int .i64 s.x, .int .i64 s.y, .slice a s.args.length cap]
def scells (s : PS) (a : Option Addr) (cap : Nat) : Array Value := #[.string s.kind, .int .i64 s.x, .int .i64 s.y, .slice a s.args.length cap]
theorem allV_one (P : PP) (n : Int) : P.allV [n] = P.inV n := by simp [PP.allV]
theorem pvars_one (a1 a2 a3 : Option Addr) (c1 c2 c3 : Nat) (P : PP) (n : Int) (w : World) :
    Calls Tryd.prog 34 #[.agg #[.slice a1 P.vars.length c1, .slice a2 P.funs.length c2, .slice a3 P.stmts.length c3], .slice (some ⟨w.heap.size, 0, none⟩) 1 1] (w.alloc (.cells #[.int .i64 n] 3)) fun e w' => e = .returned (.bool (P.inV n)) ∧ Ext w w' :=
  (pvars_any a1 a2 a3 c1 c2 c3 P _ [n] _ _ (IntsR.blk (l := [n]) (Blk.new w #[.int .i64 n] 3) rfl (by simp))).mono fun e w' ⟨h1, h2⟩ => ⟨by rw [h1, allV_one], ((Ext.refl w).alloc _).trans h2⟩
set_option maxRecDepth 100000 in
set_option maxHeartbeats 3200000 in
theorem pbound_any (a1 a2 a3 : Option Addr) (c1 c2 c3 : Nat) (P : PP) (s : PS) (a : Option Addr) (cap : Nat) (w : World) (n0 : Nat) (h : IntsR w n0 (.slice a s.args.length cap) s.args) :
    Calls Tryd.prog 36 #[pval a1 a2 a3 c1 c2 c3 P, sval s a cap] w fun e w' => e = .returned (.bool (P.bound s)) ∧ Ext w w' := by
  have HI := hid h
  clear h
  obtain ⟨W2, hW2⟩ : ∃ W2, W2 = (w.alloc (.cells (pcells a1 a2 a3 c1 c2 c3 P) 26)).alloc (.cells (scells s a cap) 39) := ⟨_, rfl⟩
  have HW2 : Hid (Ext w W2) := hid (by rw [hW2]; exact ((Ext.refl _).alloc _).alloc _)
  have hsz : W2.heap.size = w.heap.size + 1 + 1 := by rw [hW2, heap_size_alloc, heap_size_alloc]
  have HB1 : Hid (Blk W2 w.heap.size (pcells a1 a2 a3 c1 c2 c3 P) 26) := hid (by rw [hW2]; exact (Blk.new _ _ _).alloc _)
  have HB2 : Hid (Blk W2 (w.heap.size + 1) (scells s a cap) 39) := hid (by
    rw [hW2]
    have := Blk.new (w.alloc (.cells (pcells a1 a2 a3 c1 c2 c3 P) 26)) (scells s a cap) 39
    rwa [heap_size_alloc] at this)
  have H1 := hid (pvars_one a1 a2 a3 c1 c2 c3 P s.y W2)
  rw [hsz] at H1
  unfold pcells scells at hW2
  have HWe := hid hW2
  clear hW2 hsz
  unfold pval sval
  go_enter Tryd.func36, Tryd.ntmps36
  go_wp2_with fail
  rw [← HWe.out]
  refine H1.out.mono ?_
  intro e w3 hx
  obtain ⟨rfl, hx3⟩ := hx
  clear H1
  have d0 := (HB1.out.ext hx3).av 0 rfl
  have d1 := (HB1.out.ext hx3).av 1 rfl
  have d2 := (HB1.out.ext hx3).av 2 rfl
  have k0 := (HB2.out.ext hx3).av 0 rfl
  have k1 := (HB2.out.ext hx3).av 1 rfl
  have k2 := (HB2.out.ext hx3).av 2 rfl
  have k3 := (HB2.out.ext hx3).av 3 rfl
  simp only [pcells, scells, qA0, qA1, qA2] at d0 d1 d2 k0 k1 k2 k3
  have HX := hid (pvars_one a1 a2 a3 c1 c2 c3 P s.x w3)
  cases hf : (s.kind.toList == [102, 117, 110]) with
  | true =>
    have Hb := hid (show P.boundY s = (decide (0 ≤ s.y) && decide (s.y < (P.funs.length : Int))) by unfold PP.boundY PS.isK kFun; rw [hf]; rfl)
    by_cases y0 : 0 ≤ s.y
    · by_cases y1 : s.y < (P.funs.length : Int)
      · have HY := hid (show P.boundY s = true by rw [Hb.out, decide_eq_true y0, decide_eq_true y1]; rfl)
        go_wp2_with fail
        refine HX.out.mono ?_
        intro e w4 hx
        obtain ⟨rfl, hx4⟩ := hx
        have Hx4 := hid (hx3.trans hx4)
        clear HX
        cases hX : P.inV s.x with
        | false =>
          have Hr := hid (show P.bound s = false by unfold PP.bound; rw [hX]; rfl)
          go_wp2
          go_ret
          exact ⟨by rw [Hr.out]; rfl, HW2.out.trans Hx4.out⟩
        | true =>
          have Hr := hid (show P.bound s = P.allV s.args by unfold PP.bound; rw [hX, HY.out]; rfl)
          have HA := hid (pvars_any a1 a2 a3 c1 c2 c3 P _ s.args w4 n0 (HI.out.old ((HW2.out.trans Hx4.out).old n0)))
          unfold pval at HA
          clear d0 d1 d2 k0 k1 k2 k3
          have e0 := (HB1.out.ext Hx4.out).av 0 rfl
          have e1 := (HB1.out.ext Hx4.out).av 1 rfl
          have e2 := (HB1.out.ext Hx4.out).av 2 rfl
          have m0 := (HB2.out.ext Hx4.out).av 0 rfl
          have m1 := (HB2.out.ext Hx4.out).av 1 rfl
          have m2 := (HB2.out.ext Hx4.out).av 2 rfl
          have m3 := (HB2.out.ext Hx4.out).av 3 rfl
          simp only [pcells, scells, qA0, qA1, qA2] at e0 e1 e2 m0 m1 m2 m3
          go_wp2_with fail
          refine HA.out.mono ?_
          intro e w5 hx
          obtain ⟨rfl, hx5⟩ := hx
          clear HA
          go_wp2
          go_ret
          exact ⟨by rw [Hr.out]; rfl, (HW2.out.trans Hx4.out).trans hx5⟩
      · have HY := hid (show P.boundY s = false by rw [Hb.out, decide_eq_false y1]; simp)
        go_wp2_with fail
        refine HX.out.mono ?_
        intro e w4 hx
        obtain ⟨rfl, hx4⟩ := hx
        have Hx4 := hid (hx3.trans hx4)
        clear HX
        cases hX : P.inV s.x with
        | false =>
          have Hr := hid (show P.bound s = false by unfold PP.bound; rw [hX]; rfl)
          go_wp2
          go_ret
          exact ⟨by rw [Hr.out]; rfl, HW2.out.trans Hx4.out⟩
        | true =>
          have Hr := hid (show P.bound s = false by unfold PP.bound; rw [HY.out]; simp)
          go_wp2
          go_ret
          exact ⟨by rw [Hr.out]; rfl, HW2.out.trans Hx4.out⟩
    · have HY := hid (show P.boundY s = false by rw [Hb.out, decide_eq_false y0]; simp)
      go_wp2_with fail
      refine HX.out.mono ?_
      intro e w4 hx
      obtain ⟨rfl, hx4⟩ := hx
      have Hx4 := hid (hx3.trans hx4)
      clear HX
      cases hX : P.inV s.x with
      | false =>
        have Hr := hid (show P.bound s = false by unfold PP.bound; rw [hX]; rfl)
        go_wp2
        go_ret
        exact ⟨by rw [Hr.out]; rfl, HW2.out.trans Hx4.out⟩
      | true =>
        have Hr := hid (show P.bound s = false by unfold PP.bound; rw [HY.out]; simp)
        go_wp2
        go_ret
        exact ⟨by rw [Hr.out]; rfl, HW2.out.trans Hx4.out⟩
  | false =>
    cases hn : (s.kind.toList == [110, 101, 119]) with
    | true =>
      have HY := hid (show P.boundY s = true by unfold PP.boundY PS.isK kFun kNew; rw [hf, hn]; rfl)
      go_wp2_with fail
      refine HX.out.mono ?_
      intro e w4 hx
      obtain ⟨rfl, hx4⟩ := hx
      have Hx4 := hid (hx3.trans hx4)
      clear HX
      cases hX : P.inV s.x with
      | false =>
        have Hr := hid (show P.bound s = false by unfold PP.bound; rw [hX]; rfl)
        go_wp2
        go_ret
        exact ⟨by rw [Hr.out]; rfl, HW2.out.trans Hx4.out⟩
      | true =>
        have Hr := hid (show P.bound s = P.allV s.args by unfold PP.bound; rw [hX, HY.out]; rfl)
        have HA := hid (pvars_any a1 a2 a3 c1 c2 c3 P _ s.args w4 n0 (HI.out.old ((HW2.out.trans Hx4.out).old n0)))
        unfold pval at HA
        clear d0 d1 d2 k0 k1 k2 k3
        have e0 := (HB1.out.ext Hx4.out).av 0 rfl
        have e1 := (HB1.out.ext Hx4.out).av 1 rfl
        have e2 := (HB1.out.ext Hx4.out).av 2 rfl
        have m0 := (HB2.out.ext Hx4.out).av 0 rfl
        have m1 := (HB2.out.ext Hx4.out).av 1 rfl
        have m2 := (HB2.out.ext Hx4.out).av 2 rfl
        have m3 := (HB2.out.ext Hx4.out).av 3 rfl
        simp only [pcells, scells, qA0, qA1, qA2] at e0 e1 e2 m0 m1 m2 m3
        go_wp2_with fail
        refine HA.out.mono ?_
        intro e w5 hx
        obtain ⟨rfl, hx5⟩ := hx
        clear HA
        go_wp2
        go_ret
        exact ⟨by rw [Hr.out]; rfl, (HW2.out.trans Hx4.out).trans hx5⟩
    | false =>
      have Hb := hid (show P.boundY s = P.inV s.y by unfold PP.boundY PS.isK kFun kNew; rw [hf, hn]; rfl)
      cases hy : P.inV s.y with
      | true =>
        have HY := hid (show P.boundY s = true by rw [Hb.out, hy])
        go_wp2_with fail
        refine HX.out.mono ?_
        intro e w4 hx
        obtain ⟨rfl, hx4⟩ := hx
        have Hx4 := hid (hx3.trans hx4)
        clear HX
        cases hX : P.inV s.x with
        | false =>
          have Hr := hid (show P.bound s = false by unfold PP.bound; rw [hX]; rfl)
          go_wp2
          go_ret
          exact ⟨by rw [Hr.out]; rfl, HW2.out.trans Hx4.out⟩
        | true =>
          have Hr := hid (show P.bound s = P.allV s.args by unfold PP.bound; rw [hX, HY.out]; rfl)
          have HA := hid (pvars_any a1 a2 a3 c1 c2 c3 P _ s.args w4 n0 (HI.out.old ((HW2.out.trans Hx4.out).old n0)))
          unfold pval at HA
          clear d0 d1 d2 k0 k1 k2 k3
          have e0 := (HB1.out.ext Hx4.out).av 0 rfl
          have e1 := (HB1.out.ext Hx4.out).av 1 rfl
          have e2 := (HB1.out.ext Hx4.out).av 2 rfl
          have m0 := (HB2.out.ext Hx4.out).av 0 rfl
          have m1 := (HB2.out.ext Hx4.out).av 1 rfl
          have m2 := (HB2.out.ext Hx4.out).av 2 rfl
          have m3 := (HB2.out.ext Hx4.out).av 3 rfl
          simp only [pcells, scells, qA0, qA1, qA2] at e0 e1 e2 m0 m1 m2 m3
          go_wp2_with fail
          refine HA.out.mono ?_
          intro e w5 hx
          obtain ⟨rfl, hx5⟩ := hx
          clear HA
          go_wp2
          go_ret
          exact ⟨by rw [Hr.out]; rfl, (HW2.out.trans Hx4.out).trans hx5⟩
      | false =>
        have HY := hid (show P.boundY s = false by rw [Hb.out, hy])
        go_wp2_with fail
        refine HX.out.mono ?_
        intro e w4 hx
        obtain ⟨rfl, hx4⟩ := hx
        have Hx4 := hid (hx3.trans hx4)
        clear HX
        cases hX : P.inV s.x with
        | false =>
          have Hr := hid (show P.bound s = false by unfold PP.bound; rw [hX]; rfl)
          go_wp2
          go_ret
          exact ⟨by rw [Hr.out]; rfl, HW2.out.trans Hx4.out⟩
        | true =>
          have Hr := hid (show P.bound s = false by unfold PP.bound; rw [HY.out]; simp)
          go_wp2
          go_ret
          exact ⟨by rw [Hr.out]; rfl, HW2.out.trans Hx4.out⟩
set_option maxRecDepth 100000 in
set_option maxHeartbeats 3200000 in
theorem pstmt_any (a1 a2 a3 : Option Addr) (c1 c2 c3 : Nat) (P : PP) (s : PS) (a : Option Addr) (cap : Nat) (w : World) (n0 : Nat) (ad : Nat → Addr) (hE : ErrsP w ad) (h : IntsR w n0 (.slice a s.args.length cap) s.args) :
    Calls Tryd.prog 19 #[pval a1 a2 a3 c1 c2 c3 P, sval s a cap] w fun e w' => e = .returned (errv (evOf ad) (P.stmtErr s)) ∧ Ext w w' := by
  have HI := hid h
  have HE := hid hE
  clear h hE
  obtain ⟨W2, hW2⟩ : ∃ W2, W2 = (w.alloc (.cells (pcells a1 a2 a3 c1 c2 c3 P) 26)).alloc (.cells (scells s a cap) 39) := ⟨_, rfl⟩
  have HW2 : Hid (Ext w W2) := hid (by rw [hW2]; exact ((Ext.refl _).alloc _).alloc _)
  have hsz : W2.heap.size = w.heap.size + 1 + 1 := by rw [hW2, heap_size_alloc, heap_size_alloc]
  have HB1 : Hid (Blk W2 w.heap.size (pcells a1 a2 a3 c1 c2 c3 P) 26) := hid (by rw [hW2]; exact (Blk.new _ _ _).alloc _)
  have HB2 : Hid (Blk W2 (w.heap.size + 1) (scells s a cap) 39) := hid (by
    rw [hW2]
    have := Blk.new (w.alloc (.cells (pcells a1 a2 a3 c1 c2 c3 P) 26)) (scells s a cap) 39
    rwa [heap_size_alloc] at this)
  obtain ⟨W3, hW3⟩ : ∃ W3, W3 = W2.alloc (.cells #[.string ⟨#[97, 100, 100, 114]⟩, .string ⟨#[99, 111, 112, 121]⟩, .string ⟨#[108, 111, 97, 100]⟩, .string ⟨#[115, 116, 111, 114, 101]⟩, .string ⟨#[110, 101, 119]⟩, .string ⟨#[102, 117, 110]⟩, .string ⟨#[99, 97, 108, 108]⟩] 9) := ⟨_, rfl⟩
  have hx3 : Ext W2 W3 := by rw [hW3]; exact (Ext.refl _).alloc _
  have H1 : Hid (Calls Tryd.prog 33 #[.slice (some ⟨W2.heap.size, 0, none⟩) 7 7, .string s.kind] W3 fun e w' => e = .returned (.bool (memB s.kind kindsS)) ∧ W3 = w') := hid (by
    refine containss_any (.slice (some ⟨W2.heap.size, 0, none⟩) 7 7) kindsS s.kind W3 W3.heap.size (StrsR.blk (l := kindsS) (c := #[.string ⟨#[97, 100, 100, 114]⟩, .string ⟨#[99, 111, 112, 121]⟩, .string ⟨#[108, 111, 97, 100]⟩, .string ⟨#[115, 116, 111, 114, 101]⟩, .string ⟨#[110, 101, 119]⟩, .string ⟨#[102, 117, 110]⟩, .string ⟨#[99, 97, 108, 108]⟩]) (t := 9) ?_ rfl (by decide))
    rw [hW3]; exact Blk.new _ _ _)
  rw [hsz] at H1
  unfold pcells scells at hW2
  rw [hW2] at hW3
  have HW3 := hid hW3
  have H2 := hid (pbound_any a1 a2 a3 c1 c2 c3 P s a cap W3 n0 (HI.out.old ((HW2.out.trans hx3).old n0)))
  unfold pval sval at H2
  clear hW2 hsz hW3
  unfold pval sval
  have hx := HW2.out.trans hx3
  have Hx := hid hx
  have g4 := (HE.out.ext hx).at4
  unfold evOf at g4
  have d0 := (HB1.out.ext hx3).av 0 rfl
  have d1 := (HB1.out.ext hx3).av 1 rfl
  have d2 := (HB1.out.ext hx3).av 2 rfl
  have k0 := (HB2.out.ext hx3).av 0 rfl
  have k1 := (HB2.out.ext hx3).av 1 rfl
  have k2 := (HB2.out.ext hx3).av 2 rfl
  have k3 := (HB2.out.ext hx3).av 3 rfl
  simp only [pcells, scells, qA0, qA1, qA2] at d0 d1 d2 k0 k1 k2 k3
  go_enter Tryd.func19, Tryd.ntmps19
  go_wp2_with fail
  rw [← HW3.out]
  refine H1.out.mono ?_
  intro e w3 hx
  obtain ⟨rfl, rfl⟩ := hx
  clear H1
  cases hm : memB s.kind kindsS with
  | false =>
    have Hr := hid (show P.stmtErr s = 4 by unfold PP.stmtErr; rw [hm]; rfl)
    clear hm
    go_wp2
    go_ret
    exact ⟨by rw [Hr.out]; rfl, Hx.out⟩
  | true =>
  have Hm := hid hm
  clear hm
  go_wp2_with fail
  refine H2.out.mono ?_
  intro e w5 hx5
  obtain ⟨rfl, hx5⟩ := hx5
  clear H2 d0 d1 d2 k0 k1 k2 k3 g4
  have Hx5 := hid (Hx.out.trans hx5)
  have g2 := (HE.out.ext Hx5.out).at2
  have g3 := (HE.out.ext Hx5.out).at3
  have g9 := (HE.out.ext Hx5.out).at9
  unfold evOf at g2 g3 g9
  have d0 := (HB1.out.ext (hx3.trans hx5)).av 0 rfl
  have d1 := (HB1.out.ext (hx3.trans hx5)).av 1 rfl
  have d2 := (HB1.out.ext (hx3.trans hx5)).av 2 rfl
  have k0 := (HB2.out.ext (hx3.trans hx5)).av 0 rfl
  have k1 := (HB2.out.ext (hx3.trans hx5)).av 1 rfl
  have k2 := (HB2.out.ext (hx3.trans hx5)).av 2 rfl
  have k3 := (HB2.out.ext (hx3.trans hx5)).av 3 rfl
  simp only [pcells, scells, qA0, qA1, qA2] at d0 d1 d2 k0 k1 k2 k3
  clear hx5
  cases hb : P.bound s with
  | false =>
    have Hr := hid (show P.stmtErr s = 2 by unfold PP.stmtErr; rw [Hm.out, hb]; rfl)
    clear hb
    go_wp2
    go_ret
    exact ⟨by rw [Hr.out]; rfl, Hx5.out⟩
  | true =>
  have HBd := hid hb
  clear hb
  cases hc : (s.kind.toList == [99, 97, 108, 108]) with
  | true =>
    have Hc := hid (show s.isK kCall = true from hc)
    have hn : (s.kind.toList == [110, 101, 119]) = false := by
      rw [eq_of_beq hc]; rfl
    have Hn := hid (show s.isK kNew = false from hn)
    by_cases h3 : 3 < s.args.length
    · have Hr := hid (show P.stmtErr s = 9 by unfold PP.stmtErr; rw [Hm.out]; simp only [HBd.out, Hc.out, Hn.out]; simp [*])
      go_wp2
      go_ret
      exact ⟨by rw [Hr.out]; rfl, Hx5.out⟩
    · have Hr := hid (show P.stmtErr s = 0 by unfold PP.stmtErr; rw [Hm.out]; simp only [HBd.out, Hc.out, Hn.out]; simp [*])
      go_wp2
      go_ret
      exact ⟨by rw [Hr.out]; rfl, Hx5.out⟩
  | false =>
    have Hc := hid (show s.isK kCall = false from hc)
    by_cases h0 : 0 < s.args.length
    · have Hr := hid (show P.stmtErr s = 3 by unfold PP.stmtErr; rw [Hm.out]; simp only [HBd.out, Hc.out]; simp [h0])
      go_wp2
      go_ret
      exact ⟨by rw [Hr.out]; rfl, Hx5.out⟩
    · cases hn : (s.kind.toList == [110, 101, 119]) with
      | true =>
        have Hn := hid (show s.isK kNew = true from hn)
        by_cases hy : s.y = 0
        · have Hr := hid (show P.stmtErr s = 0 by unfold PP.stmtErr; rw [Hm.out]; simp only [HBd.out, Hc.out, Hn.out]; simp [*])
          go_wp2
          go_ret
          exact ⟨by rw [Hr.out]; rfl, Hx5.out⟩
        · have Hr := hid (show P.stmtErr s = 3 by unfold PP.stmtErr; rw [Hm.out]; simp only [HBd.out, Hc.out, Hn.out]; simp [*])
          go_wp2
          go_ret
          exact ⟨by rw [Hr.out]; rfl, Hx5.out⟩
      | false =>
        have Hn := hid (show s.isK kNew = false from hn)
        have Hr := hid (show P.stmtErr s = 0 by unfold PP.stmtErr; rw [Hm.out]; simp only [HBd.out, Hc.out, Hn.out]; simp [*])
        go_wp2
        go_ret
        exact ⟨by rw [Hr.out]; rfl, Hx5.out⟩
end Go.Proofs.YtamblahkckaaaaaDoor
