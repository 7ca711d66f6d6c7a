/- Texts of one proof, put together: ZZZU ZZZV YM M1 E1 X5 X6 T5. -/
import Derived.Test.YtamblahkckaaaaaDoorHPB05
import Derived.Test.YtamblahkckaaaaaDoorHPB07
import Derived.Test.YtamblahkckaaaaaDoorHPB08
import Derived.Test.YtamblahkckaaaaaDoorHPB09
import Derived.Test.YtamblahkckaaaaaDoorHPB10
import Derived.Test.YtamblahkckaaaaaDoorHPB11
import Derived.Lib.SplitLaws
import Derived.Sort.Grow
import Derived.Deep.Draws
import Derived.Laws.StructEq
set_option linter.unusedSimpArgs false
set_option linter.unusedVariables false
namespace Go.Proofs.YtamblahkckaaaaaDoor
open Go Go.RowKit
def PP.varsR (P : PP) (l : List ByteArray) : List Int × Nat := if anyBad l = true then ([], 1) else if (l.any fun s => decide (ixB P.vars s < 0)) = true then ([], 6) else (l.map (ixB P.vars), 0)
theorem anyBad_ok {l : List ByteArray} (h : anyBad l = false) : ∀ s ∈ l, nameOk s = true := fun s hs => by
  cases hn : nameOk s with
  | true => rfl
  | false => rw [show anyBad l = true from List.any_eq_true.2 ⟨s, hs, by rw [hn]; rfl⟩] at h; cases h
theorem formE_of {l : List ByteArray} : (formE l = 0 ∧ anyBad l = false) ∨ (formE l = 1 ∧ anyBad l = true) := by
  unfold formE
  cases anyBad l with
  | true => exact .inr ⟨rfl, rfl⟩
  | false => exact .inl ⟨rfl, rfl⟩
set_option maxRecDepth 100000 in
set_option maxHeartbeats 1600000 in
theorem rdrvariables_any (v : Value) (l : List ByteArray) (w : World) (n0 n1 b : Nat) (vv fv sv : Value) (P : PP) (fs : List F2) (ss : List S2) (pt : Nat) (ad : Nat → Addr) (hE : ErrR w ad) (h : Rdr w n1 b vv fv sv P fs ss pt) (hl : StrsR w n0 v l) (hz : ∀ s ∈ l, s.size ≤ 1000000) (hfew : l.length ≤ 100000) :
    Calls Tryd.prog 57 #[.pointer (some ⟨b, 0, none⟩), v] w fun e w' => ∃ u ks c, e = .returned (.tuple #[u, errv (evOf ad) c]) ∧ P.varsR l = (ks, c) ∧ IRow w.heap.size w' u ks ∧ Ext w w' := by
  have HF := hid (progform_any v l w n0 ad hE.at1 hl hz)
  have HE := hid hE
  have H := hid h
  have HL := hid hl
  have Hz := hid hz
  have hml := hl
  obtain ⟨a, cap, rfl, _, hcap, _⟩ := id hl
  have hlen : (l.length : Int) ≤ 9223372036854775807 := by omega
  clear hE h hl hz hml hcap
  rcases formE_of (l := l) with ⟨hf, hb⟩ | ⟨hf, hb⟩
  · rw [hf, errv_no rfl] at HF
    have Hb := hid (anyBad_ok hb)
    have Hb0 := hid hb
    clear hf hb
    go_enter Tryd.func57, Tryd.ntmps57
    go_wp2_with fail
    refine HF.out.mono ?_
    intro e w1 hx
    obtain ⟨rfl, hx⟩ := hx
    have Hx := hid hx
    clear HF hx
    go_wp2
    go_loopw [7, 9, 10, 11, 19, 23] (fun t7 _ _ _ t19 _ wr => ∃ (k : Nat) (ks : List Int), t19 = .int .i64 (k : Int) ∧ k ≤ l.length ∧ Hid (ks = (l.take k).map (ixB P.vars) ∧ ∀ j s, j < k → l[j]? = some s → 0 ≤ ixB P.vars s) ∧ ks.length ≤ k ∧ IRow w.heap.size wr t7 ks ∧ Ext w wr) (fun _ _ _ _ t19 _ _ => l.length - (intOf t19).toNat)
    case atStart => exact ⟨0, [], rfl, Nat.zero_le _, hid ⟨rfl, fun j s h => by omega⟩, Nat.le_refl _, IRow.nil _ _, Hx.out⟩
    case round =>
      obtain ⟨k, ks, rfl, hk, hks, hkl, hr, hx⟩ := hrel
      obtain ⟨a7, c7, rfl⟩ := hr.form
      have Hr := hid hr
      have Hx1 := hid hx
      clear hr hx
      by_cases hlt : k < l.length
      · obtain ⟨y, q, hy, hq, hc⟩ := (HL.out.old (Hx1.out.old n0)).at hlt
        subst hy
        have hqm := List.mem_of_getElem? hq
        have HV := hid (rdrvariable_any q (Hz.out q hqm) wr n1 b vv fv sv P fs ss pt ad (HE.out.ext Hx1.out) (H.out.ext Hx1.out))
        have Hqn := hid (Hb.out q hqm)
        have Hq := hid hq
        clear hq hqm
        go_wp2_with fail
        refine HV.out.mono ?_
        intro e w2 hx
        obtain ⟨n, c, rfl, hv, hx⟩ := hx
        have Hx2 := hid (Hx1.out.trans hx)
        have Hr2 := hid (Hr.out.ext hx)
        unfold PP.varR at hv
        rw [Hqn.out, if_pos rfl] at hv
        clear HV hx hc
        by_cases h0 : ixB P.vars q < 0
        · rw [if_pos h0] at hv
          obtain ⟨rfl, rfl⟩ : (0 : Int) = n ∧ 6 = c := by simpa using hv
          have Hs := hid (show P.varsR l = ([], 6) by unfold PP.varsR; rw [Hb0.out, if_neg (by decide), if_pos (List.any_eq_true.2 ⟨q, List.mem_of_getElem? Hq.out, decide_eq_true h0⟩)])
          rw [errv_yes (by decide)]
          clear hv hks h0
          go_wp2
          go_ret2
          exact ⟨_, [], 6, rfl, Hs.out, IRow.nil _ _, Hx2.out⟩
        · rw [if_neg h0] at hv
          obtain ⟨hn, rfl⟩ : ixB P.vars q = n ∧ 0 = c := by simpa using hv
          have Hn : Hid (ks ++ [n] = (l.take (k + 1)).map (ixB P.vars) ∧ ∀ j s, j < k + 1 → l[j]? = some s → 0 ≤ ixB P.vars s) := hid ⟨by
            rw [List.take_add_one, Hq.out, List.map_append, ← hks.out.1]
            simp [hn], fun j s hj hs => by
            by_cases hjk : j = k
            · subst hjk
              obtain rfl := Option.some.inj (Hq.out.symm.trans hs)
              exact Int.not_lt.1 h0
            · exact hks.out.2 j s (by omega) hs⟩
          rw [errv_no rfl]
          have hxa : Hid (Ext w (w2.alloc (.cells #[.int .i64 n] 3))) := hid (Hx2.out.alloc _)
          have Hra : Hid (IRow w.heap.size (w2.alloc (.cells #[.int .i64 n] 3)) (.slice a7 ks.length c7) ks) := hid (Hr2.out.ext ((Ext.refl _).alloc _))
          clear hv hn hks h0
          go_wp2_with (at_builtin; refine wpList_append_el w.heap.size hxa.out.size 37 3 (.int .i64 0) 1 8 Tryd.underlying37 ints_info rfl (by omega) (by omega) rfl _ _ rfl (.slice a7 ks.length c7) ks.length (icells ks) rfl Hra.out w2.heap.size [.int .i64 n] rfl (by simp [Value.oneCell']) rfl (Blk.new _ _ _) (by omega) ?_; intro v' w' h1 h2 h4; obtain ⟨a', c', rfl⟩ := row_form h1; have h3 := hid (Keep.new hxa.out h2 (fun k hk => (Hra.out.lt hk).1)); have h1 := hid h1; clear h2 h4)
          go_roundw
          case rel => exact ⟨k + 1, ks ++ [n], by go_num, by omega, Hn, by simp; omega, by unfold IRow; rw [icells_append, List.length_append]; exact h1.out, h3.out⟩
          case measure => simp [intOf]; omega
      · obtain rfl : k = l.length := by omega
        have Hs := hid (show P.varsR l = (ks, 0) by
          unfold PP.varsR
          rw [Hb0.out, if_neg (by decide), if_neg, hks.out.1, List.take_of_length_le (Nat.le_refl _)]
          intro hany
          obtain ⟨s, hs, hd⟩ := List.any_eq_true.1 hany
          obtain ⟨j, hj, e2⟩ := List.mem_iff_getElem.1 hs
          exact absurd (of_decide_eq_true hd) (Int.not_lt.2 (hks.out.2 j s hj (by rw [List.getElem?_eq_getElem hj, e2]))))
        clear hks hk hlt
        go_wp2
        go_ret2
        exact ⟨_, ks, 0, rfl, Hs.out, Hr.out, Hx1.out⟩
  · rw [hf, errv_yes (by decide)] at HF
    have Hs := hid (show P.varsR l = ([], 1) by unfold PP.varsR; rw [if_pos hb])
    clear hf hb
    go_enter Tryd.func57, Tryd.ntmps57
    go_wp2_with fail
    refine HF.out.mono ?_
    intro e w1 hx
    obtain ⟨rfl, hx⟩ := hx
    have Hx := hid hx
    clear HF hx
    skip
    go_wp2
    go_ret2
    exact ⟨_, [], 1, rfl, Hs.out, IRow.nil _ _, Hx.out⟩
structure ErrM (w : World) (ad : Nat → Addr) : Prop where
  er : ErrR w ad
  ml : ∃ m, w.cell? ⟨8, 0, none⟩ = some (.int .i64 m)
theorem ErrM.ext {w w' : World} {ad : Nat → Addr} (h : ErrM w ad) (x : Ext w w') : ErrM w' ad := ⟨h.er.ext x, by
  obtain ⟨m, hm⟩ := h.ml
  exact ⟨m, x.cellx hm⟩⟩
theorem drew_ext (w : World) (n : Nat) : Ext w (w.drewN n) := by
  exact ⟨rfl, rfl, rfl, Nat.le_refl _, fun _ _ => rfl⟩
def sepB : ByteArray := ⟨#[44, 32]⟩
def piecesB (s : ByteArray) : List ByteArray := if (s.toList == []) = true then [] else Lib.splitB sepB 0 (Lib.countB s sepB) s
def cutB (s sep : ByteArray) : ByteArray × ByteArray × Bool := (⟨(Lib.cut s.data.toList sep.data.toList).1.toArray⟩, ⟨(Lib.cut s.data.toList sep.data.toList).2.1.toArray⟩, (Lib.cut s.data.toList sep.data.toList).2.2)
def opB : ByteArray := ⟨#[40]⟩
def clB : ByteArray := ⟨#[41]⟩
def splitP (s : ByteArray) : ByteArray × List ByteArray × ByteArray × Bool :=
  ((cutB s opB).1, piecesB (cutB (cutB s opB).2.1 clB).1, (cutB (cutB s opB).2.1 clB).2.1, (cutB s opB).2.2 && (cutB (cutB s opB).2.1 clB).2.2)
theorem cutB_size (s sep : ByteArray) : (cutB s sep).1.size ≤ s.size ∧ (cutB s sep).2.1.size ≤ s.size := by
  have e : ∀ l : List UInt8, (⟨l.toArray⟩ : ByteArray).size = l.length := fun l => rfl
  unfold cutB
  simp only [e]
  have h := bs_list s
  unfold Lib.cut
  split <;> simp <;> omega
theorem splitB_size (sep : ByteArray) : ∀ (k : Nat) (s : ByteArray), ∀ p ∈ Lib.splitB sep 0 k s, p.size ≤ s.size
  | 0, s, p, h => by
    rw [Lib.splitB_zero] at h
    rw [List.mem_singleton.1 h]
    exact Nat.le_refl _
  | k + 1, s, p, h => by
    unfold Lib.splitB at h
    split at h
    · rw [List.mem_singleton.1 h]; exact Nat.le_refl _
    · rcases List.mem_cons.1 h with e | e
      · rw [e, ByteArray.size_extract]; omega
      · have := splitB_size sep k _ p e
        rw [ByteArray.size_extract] at this
        omega
theorem piecesB_size (s : ByteArray) : ∀ p ∈ piecesB s, p.size ≤ s.size := fun p h => by
  unfold piecesB at h
  split at h
  · cases h
  · exact splitB_size _ _ _ p h
theorem piecesB_few (s : ByteArray) : (piecesB s).length ≤ s.size + 1 := by
  unfold piecesB
  split
  · simp
  · rw [Lib.splitB_all sepB (by decide) 0 _ s rfl]
    have := Lib.countB_le sepB (by decide) s.size s (Nat.le_refl _)
    omega
theorem StrsR.new (w : World) (l : List ByteArray) (hl : l.length ≤ 1000000) : StrsR (w.alloc (.cells (l.map Value.string).toArray 9)) (w.alloc (.cells (l.map Value.string).toArray 9)).heap.size (.slice (some ⟨w.heap.size, 0, none⟩) l.length l.length) l := by
  have hb := Blk.new w (l.map Value.string).toArray 9
  refine ⟨_, _, rfl, Nat.le_refl _, by omega, fun _ => ⟨_, rfl⟩, fun y hy h0 => ?_⟩
  obtain rfl := Option.some.inj hy
  refine ⟨hb.lt, fun i hi s hs => ?_⟩
  rw [show (⟨w.heap.size, 0, none⟩ : Addr).add i = ⟨w.heap.size, i, none⟩ from by by_cases h0 : i = 0 <;> simp [Addr.add, h0], hb.cell i]
  simp [hs]
theorem StrsR.nil (w : World) (n0 : Nat) : StrsR w n0 (.slice none 0 0) [] := ⟨none, 0, rfl, Nat.le_refl _, by decide, fun h => absurd h (by decide), fun y hy => by cases hy⟩
theorem scut_any (s sep : ByteArray) (w : World) (ad : Nat → Addr) (hE : ErrM w ad) (hs : s.size ≤ 1000000) :
    Calls Tryd.prog 24 #[.string s, .string sep] w fun e w' => e = .returned (.tuple #[.string (cutB s sep).1, .string (cutB s sep).2.1, .bool (cutB s sep).2.2]) ∧ Ext w w' := by
  obtain ⟨m, hm⟩ := hE.ml
  refine (Tryd.strings_Cut s sep m w (by omega) hm).mono ?_
  rintro e w' ⟨rfl, n, rfl⟩
  exact ⟨rfl, drew_ext w n⟩
set_option maxRecDepth 100000 in
set_option maxHeartbeats 1600000 in
theorem progsplit_any (s : ByteArray) (hs : s.size ≤ 100000) (w : World) (ad : Nat → Addr) (hE : ErrM w ad) :
    Calls Tryd.prog 54 #[.string s] w fun e w' => ∃ v, e = .returned (.tuple #[.string (splitP s).1, v, .string (splitP s).2.2.1, .bool (splitP s).2.2.2]) ∧ StrsR w' w'.heap.size v (splitP s).2.1 ∧ Ext w w' ∧ ∀ q, v.ownBlock = some q → w.heap.size ≤ q := by
  have H1 := hid (scut_any s opB w ad hE (by omega))
  have HE := hid hE
  unfold opB at H1
  obtain ⟨A, B, ca, hc⟩ : ∃ A B ca, cutB s opB = (A, B, ca) := ⟨_, _, _, rfl⟩
  have hc2 := hc
  unfold opB at hc2
  rw [hc2] at H1
  have z1 := (cutB_size s opB).2
  rw [hc] at z1
  have H2 := fun w1 (hx : Ext w w1) => hid (scut_any B clB w1 ad (hE.ext hx) (by simp only at z1; omega))
  unfold clB at H2
  obtain ⟨C, D, cb, hd⟩ : ∃ C D cb, cutB B clB = (C, D, cb) := ⟨_, _, _, rfl⟩
  have hd2 := hd
  unfold clB at hd2
  rw [hd2] at H2
  have z2 := (cutB_size B clB).1
  rw [hd] at z2
  have z3 : C.size ≤ 100000 := by simp only at z1 z2; omega
  have HS := hid (show splitP s = (A, piecesB C, D, ca && cb) by unfold splitP; rw [hc]; simp only; rw [hd])
  rw [HS.out]
  clear hc hc2 hd hd2 z1 z2 hs hE
  simp only at H1 H2 ⊢
  cases h0 : (C.toList == []) with
  | true =>
    have HP := hid (show piecesB C = [] by unfold piecesB; rw [h0]; rfl)
    rw [HP.out]
    go_enter Tryd.func54, Tryd.ntmps54
    go_wp2_with fail
    refine H1.out.mono ?_
    intro e w1 hx
    obtain ⟨rfl, hx⟩ := hx
    have Hx := hid hx
    have H2' := H2 w1 hx
    clear H1 H2 hx
    go_wp2_with fail
    refine H2'.out.mono ?_
    intro e w2 hx
    obtain ⟨rfl, hx⟩ := hx
    have Hx2 := hid (Hx.out.trans hx)
    clear H2' hx
    cases ca with
    | true =>
      go_wp2
      exact bodyPost_ret (v := .tuple #[.string A, .slice none 0 0, .string D, .bool cb]) (by simp [results, Tryd.results54, go_sem]) rfl ⟨_, rfl, StrsR.nil _ _, Hx2.out, fun q h => by cases h⟩
    | false =>
      go_wp2
      exact bodyPost_ret (v := .tuple #[.string A, .slice none 0 0, .string D, .bool false]) (by simp [results, Tryd.results54, go_sem]) rfl ⟨_, rfl, StrsR.nil _ _, Hx2.out, fun q h => by cases h⟩
  | false =>
    have HP := hid (show piecesB C = Lib.splitB sepB 0 (Lib.countB C sepB) C by unfold piecesB; rw [h0]; rfl)
    have H3 := fun w1 (hx : Ext w w1) => hid (show Calls Tryd.prog 77 #[.string C, .string ⟨#[44, 32]⟩] w1 fun e w' => e = .returned (.slice (some ⟨w1.heap.size, 0, none⟩) (piecesB C).length (piecesB C).length) ∧ w' = w1.alloc (.cells ((piecesB C).map Value.string).toArray 9) by
      obtain ⟨m, hm⟩ := (HE.out.ext hx).ml
      have hh := Tryd.strings_Split C ⟨#[44, 32]⟩ m w1 (by omega) hm (by decide)
      have hl : (piecesB C).length = Lib.countB C sepB + 1 := by rw [HP.out, Lib.splitB_all sepB (by decide) 0 _ C rfl]
      rw [hl, HP.out]
      exact hh)
    have hfew := piecesB_few C
    have Hfew := hid (show (piecesB C).length ≤ 1000000 by omega)
    obtain ⟨l, hl⟩ : ∃ l, l = piecesB C := ⟨_, rfl⟩
    rw [← hl] at H3 Hfew ⊢
    clear hfew hl HP HS
    go_enter Tryd.func54, Tryd.ntmps54
    go_wp2_with fail
    refine H1.out.mono ?_
    intro e w1 hx
    obtain ⟨rfl, hx⟩ := hx
    have Hx := hid hx
    have H2' := H2 w1 hx
    clear H1 H2 hx
    go_wp2_with fail
    refine H2'.out.mono ?_
    intro e w2 hx
    obtain ⟨rfl, hx⟩ := hx
    have Hx2 := hid (Hx.out.trans hx)
    have H3' := H3 w2 Hx2.out
    clear H2' hx Hx H3
    go_wp2_with fail
    refine H3'.out.mono ?_
    intro e w3 hx
    obtain ⟨rfl, hx⟩ := hx
    have HR := hid (StrsR.new w2 l Hfew.out)
    have Hx3 := hid (Hx2.out.trans ((Ext.refl w2).alloc (.cells (l.map Value.string).toArray 9)))
    rw [← hx] at HR Hx3
    clear H3' hx
    cases ca with
    | true =>
      go_wp2
      exact bodyPost_ret (v := .tuple #[.string A, .slice (some ⟨w2.heap.size, 0, none⟩) l.length l.length, .string D, .bool cb]) (by simp [results, Tryd.results54, go_sem]) rfl ⟨_, rfl, HR.out, Hx3.out, fun q h => by obtain rfl := Option.some.inj h; exact Hx2.out.size⟩
    | false =>
      go_wp2
      exact bodyPost_ret (v := .tuple #[.string A, .slice (some ⟨w2.heap.size, 0, none⟩) l.length l.length, .string D, .bool false]) (by simp [results, Tryd.results54, go_sem]) rfl ⟨_, rfl, HR.out, Hx3.out, fun q h => by obtain rfl := Option.some.inj h; exact Hx2.out.size⟩
def Sub (a b : List (List Int)) : Prop := ∀ i x, x ∈ a.getD i [] → x ∈ b.getD i []
theorem nodesOf_mono {P : PP} {a b : List Int} (h : ∀ x, x ∈ a → x ∈ b) : ∀ x, x ∈ P.nodesOf a → x ∈ P.nodesOf b := fun x hx => by
  unfold PP.nodesOf at hx ⊢
  obtain ⟨h1, h2⟩ := List.mem_filter.1 hx
  exact List.mem_filter.2 ⟨h x h1, h2⟩
theorem redges_mono {P : PP} {a b : List (List Int)} (h : Sub a b) (r : RV) : ∀ e, e ∈ P.redges r a → e ∈ P.redges r b := by
  intro e
  unfold PP.redges
  cases r.kind.toList == kCopy
  · cases r.kind.toList == kLoad
    · cases r.kind.toList == kStore
      · cases r.kind.toList == kCall
        · exact id
        · simp only [cond_true, cond_false]
          intro he
          obtain ⟨o, ho, hm⟩ := List.mem_flatMap.1 he
          exact List.mem_flatMap.2 ⟨o, h _ _ ho, hm⟩
      · simp only [cond_true, cond_false]
        intro he
        obtain ⟨o, ho, hm⟩ := List.mem_map.1 he
        exact List.mem_map.2 ⟨o, nodesOf_mono (h _) _ ho, hm⟩
    · simp only [cond_true, cond_false]
      intro he
      obtain ⟨o, ho, hm⟩ := List.mem_map.1 he
      exact List.mem_map.2 ⟨o, nodesOf_mono (h _) _ ho, hm⟩
  · exact id
theorem edges0_mono {P : PP} {a b : List (List Int)} (h : Sub a b) : ∀ e, e ∈ P.edges0 a → e ∈ P.edges0 b := by
  intro e he
  unfold PP.edges0 at he ⊢
  obtain ⟨r, hr, hm⟩ := List.mem_flatMap.1 he
  exact List.mem_flatMap.2 ⟨r, hr, redges_mono h r e hm⟩
theorem srtP_idx {b : List (Int × Int)} (h : SrtP b) {i j : Nat} {x y : Int × Int} (hi : b[i]? = some x) (hj : b[j]? = some y) (hlt : lexLt x y) : i < j := by
  have hil : i < b.length := by
    rcases Nat.lt_or_ge i b.length with g | g
    · exact g
    · rw [List.getElem?_eq_none g] at hi; cases hi
  have hjl : j < b.length := by
    rcases Nat.lt_or_ge j b.length with g | g
    · exact g
    · rw [List.getElem?_eq_none g] at hj; cases hj
  rw [List.getElem?_eq_getElem hil] at hi
  rw [List.getElem?_eq_getElem hjl] at hj
  obtain rfl := Option.some.inj hi
  obtain rfl := Option.some.inj hj
  rcases Nat.lt_trichotomy i j with g | g | g
  · exact g
  · subst g; exact absurd hlt (lexLt.irr _)
  · exact absurd (hlt.trans (List.pairwise_iff_getElem.1 h j i hjl hil g)) (lexLt.irr _)
theorem srtP_next {a : List (Int × Int)} (h : SrtP a) {i : Nat} {x y : Int × Int} (hi : a[i]? = some x) (hj : a[i + 1]? = some y) : lexLt x y := by
  have hjl : i + 1 < a.length := by
    rcases Nat.lt_or_ge (i + 1) a.length with g | g
    · exact g
    · rw [List.getElem?_eq_none g] at hj; cases hj
  rw [List.getElem?_eq_getElem (by omega)] at hi
  rw [List.getElem?_eq_getElem hjl] at hj
  obtain rfl := Option.some.inj hi
  obtain rfl := Option.some.inj hj
  exact List.pairwise_iff_getElem.1 h i (i + 1) (by omega) hjl (by omega)
theorem setE_of {P : PP} {l : List Int} (h : chkE l = 0) (hx : ∀ x ∈ l, x < (P.objectsV : Int)) : P.setE l = 0 := by
  unfold PP.setE
  rw [if_pos h, if_neg]
  rintro ⟨h1, h2⟩
  rw [List.getD_eq_getElem?_getD, List.getElem?_eq_getElem (show l.length - 1 < l.length by omega), Option.getD_some] at h2
  have := hx _ (List.getElem_mem (show l.length - 1 < l.length by omega))
  omega
theorem objects_few {P : PP} (hw : P.Well) : P.objectsV ≤ 126 := by
  have h1 := hw.few
  have h2 := nodesV_le P hw
  unfold PP.objectsV
  omega
theorem Made.set {w : World} {base g cap : Nat} {vs : List Value} {L : List (List Int)} {n : Nat} {v : Value} {l : List Int} (hr : w.ownsRow base 37 1 (.slice (some ⟨g, 0, none⟩) L.length cap) L.length vs) (hm : Made w vs L) (hv : IntsT w v l) (hn : n < L.length) :
    SetsR (w.setCell ⟨g, n, none⟩ v) (w.setCell ⟨g, n, none⟩ v).heap.size (.slice (some ⟨g, 0, none⟩) (L.set n l).length cap) (L.set n l) := by
  have k : Keep (fun q => q = g) w (w.setCell ⟨g, n, none⟩ v) := Keep.set (X := fun q => q = g) (Keep.refl _ _) rfl _
  have hni : ∀ b, b = g → ¬ IsInt w b := fun b e => by
    subst e
    obtain ⟨c, hc⟩ := own_ty hr (k := b) rfl
    exact notInt hc (by decide)
  have hvs := hm.1
  have h2 := own_set hr n (by omega) v
  rw [show L.length = (L.set n l).length from List.length_set.symm] at h2
  refine SetsR.made h2 ⟨by rw [List.length_set, List.length_set]; exact hvs, fun i u m hu hl => ?_⟩
  by_cases hi : n = i
  · subst hi
    rw [List.getElem?_set_self (by omega)] at hu hl
    obtain rfl := Option.some.inj hu
    obtain rfl := Option.some.inj hl
    exact hv.keep k hni
  · rw [List.getElem?_set_ne hi] at hu hl
    exact (hm.2 i u m hu hl).keep k hni
theorem IntsT.row {w : World} {base : Nat} {v : Value} {l : List Int} (h : IRow base w v l) : IntsT w v l := IntsT.of_row h
def Ahead (a b : List (Int × Int)) (i k : Nat) : Prop := ∀ x, a[i]? = some x → ∃ j, k ≤ j ∧ b[j]? = some x
theorem Ahead.zero {a b : List (Int × Int)} (h : ∀ e, e ∈ a → e ∈ b) : Ahead a b 0 0 := fun x hx => by
  obtain ⟨j, hj⟩ := List.mem_iff_getElem?.1 (h x (List.mem_of_getElem? hx))
  exact ⟨j, Nat.zero_le _, hj⟩
theorem Ahead.skip {a b : List (Int × Int)} {i k : Nat} {x y : Int × Int} (h : Ahead a b i k) (hx : a[i]? = some x) (hy : b[k]? = some y) (hne : y ≠ x) : Ahead a b i (k + 1) := fun z hz => by
  obtain rfl := Option.some.inj (hx.symm.trans hz)
  obtain ⟨j, hj, hb⟩ := h x hx
  refine ⟨j, ?_, hb⟩
  rcases Nat.lt_or_ge k j with g | g
  · exact g
  · obtain rfl : j = k := by omega
    exact absurd (Option.some.inj (hy.symm.trans hb)) hne
theorem Ahead.next {a b : List (Int × Int)} (ha : SrtP a) (hb : SrtP b) (hs : ∀ e, e ∈ a → e ∈ b) {i k : Nat} {x : Int × Int} (hx : a[i]? = some x) (hy : b[k]? = some x) : Ahead a b (i + 1) k := fun z hz => by
  obtain ⟨j, hj⟩ := List.mem_iff_getElem?.1 (hs z (List.mem_of_getElem? hz))
  exact ⟨j, Nat.le_of_lt (srtP_idx hb hy hj (srtP_next ha hx hz)), hj⟩
theorem Ahead.found {a b : List (Int × Int)} {i k : Nat} {x : Int × Int} (h : Ahead a b i k) (hx : a[i]? = some x) : k < b.length := by
  obtain ⟨j, hj, hb⟩ := h x hx
  rcases Nat.lt_or_ge j b.length with g | g
  · omega
  · rw [List.getElem?_eq_none g] at hb; cases hb
def PP.baseAt (P : PP) (j : Nat) (n : Nat) (x : Int) : Prop := (P.ruleV j (P.stAt j)).kind.toList = bBase.toList ∧ (P.ruleV j (P.stAt j)).a = (n : Int) ∧ (P.ruleV j (P.stAt j)).b = x
structure RoundAt (P : PP) (has : List (List Int)) (EL : List (Int × Int)) (k m : Nat) (S : List (List Int)) : Prop where
  len : S.length = has.length
  ok : ∀ l ∈ S, chkE l = 0
  mem : ∀ n x, n < has.length → (x ∈ S.getD n [] ↔ x ∈ has.getD n [] ∨ (∃ j, j < k ∧ P.baseAt j n x) ∨ ∃ (i : Nat) (e : Int × Int), i < m ∧ EL[i]? = some e ∧ e.2 = (n : Int) ∧ x ∈ has.getD e.1.toNat [])
theorem getD_mem {S : List (List Int)} {n : Nat} (hn : n < S.length) : S.getD n [] ∈ S := by
  rw [List.getD_eq_getElem?_getD, List.getElem?_eq_getElem hn]
  exact List.getElem_mem hn
theorem RoundAt.start {P : PP} {has : List (List Int)} (hg : P.GoodS has) (EL : List (Int × Int)) : RoundAt P has EL 0 0 has :=
  ⟨rfl, fun l hl => (hg.ok.ok l hl).1, fun n x _ => ⟨.inl, fun h => by
    rcases h with h | ⟨j, hj, _⟩ | ⟨i, e, hi, _⟩
    · exact h
    · omega
    · omega⟩⟩
theorem RoundAt.uniq {P : PP} {has : List (List Int)} {EL : List (Int × Int)} {k m : Nat} {S T : List (List Int)} (h : RoundAt P has EL k m S) (g : RoundAt P has EL k m T) : S = T := by
  refine List.ext_getElem? fun n => ?_
  by_cases hn : n < has.length
  · have hs : n < S.length := by rw [h.len]; exact hn
    have ht : n < T.length := by rw [g.len]; exact hn
    have e : S.getD n [] = T.getD n [] := srt_uniq (chkE_zero.1 (h.ok _ (getD_mem hs))).2 (chkE_zero.1 (g.ok _ (getD_mem ht))).2 fun x => (h.mem n x hn).trans (g.mem n x hn).symm
    rw [List.getD_eq_getElem?_getD, List.getD_eq_getElem?_getD, List.getElem?_eq_getElem hs, List.getElem?_eq_getElem ht] at e
    rw [List.getElem?_eq_getElem hs, List.getElem?_eq_getElem ht]
    exact congrArg some e
  · rw [List.getElem?_eq_none (by rw [h.len]; omega), List.getElem?_eq_none (by rw [g.len]; omega)]
theorem set_getD {S : List (List Int)} {a n : Nat} {l : List Int} (ha : a < S.length) : (S.set a l).getD n [] = if a = n then l else S.getD n [] := by
  rw [List.getD_eq_getElem?_getD, List.getElem?_set]
  by_cases h : a = n
  · subst h; rw [if_pos rfl, if_pos ha, if_pos rfl]; rfl
  · rw [if_neg h, if_neg h, List.getD_eq_getElem?_getD]
theorem set_ok {S : List (List Int)} {a : Nat} {l : List Int} (h : ∀ m ∈ S, chkE m = 0) (hl : chkE l = 0) : ∀ m ∈ S.set a l, chkE m = 0 := fun m hm => by
  rcases List.mem_or_eq_of_mem_set hm with h1 | h1
  · exact h m h1
  · rw [h1]; exact hl
theorem RoundAt.base {P : PP} {has : List (List Int)} {EL : List (Int × Int)} {k : Nat} {S : List (List Int)} (h : RoundAt P has EL k 0 S) (hb : (P.ruleV k (P.stAt k)).kind.toList = bBase.toList) {a : Nat} {b : Int} (ha : (P.ruleV k (P.stAt k)).a = (a : Int)) (hbb : (P.ruleV k (P.stAt k)).b = b) (hb1 : 0 ≤ b ∧ b < 1000) (hal : a < has.length) :
    RoundAt P has EL (k + 1) 0 (S.set a (sset (S.getD a [] ++ [b]))) := by
  have has' : a < S.length := by rw [h.len]; exact hal
  have hin : InR (S.getD a [] ++ [b]) := (chkE_zero.1 (h.ok _ (getD_mem has'))).1.app fun x hx => by obtain rfl := List.mem_singleton.1 hx; exact hb1
  refine ⟨by rw [List.length_set]; exact h.len, set_ok h.ok (chkE_sset _), fun n x hn => ?_⟩
  rw [set_getD has']
  by_cases han : a = n
  · subst han
    rw [if_pos rfl, mem_sset hin, List.mem_append, h.mem a x hn, List.mem_singleton]
    constructor
    · rintro ((h1 | ⟨j, hj, h1⟩ | ⟨i, e, hi, _⟩) | rfl)
      · exact .inl h1
      · exact .inr (.inl ⟨j, by omega, h1⟩)
      · omega
      · exact .inr (.inl ⟨k, by omega, hb, ha, hbb⟩)
    · rintro (h1 | ⟨j, hj, h1⟩ | ⟨i, e, hi, _⟩)
      · exact .inl (.inl h1)
      · by_cases hjk : j = k
        · subst hjk
          exact .inr (h1.2.2.symm.trans hbb)
        · exact .inl (.inr (.inl ⟨j, by omega, h1⟩))
      · omega
  · rw [if_neg han, h.mem n x hn]
    refine or_congr Iff.rfl (or_congr ⟨fun ⟨j, hj, h1⟩ => ⟨j, by omega, h1⟩, fun ⟨j, hj, h1⟩ => ⟨j, ?_, h1⟩⟩ Iff.rfl)
    by_cases hjk : j = k
    · subst hjk
      have := h1.2.1
      omega
    · omega
theorem RoundAt.skip {P : PP} {has : List (List Int)} {EL : List (Int × Int)} {k : Nat} {S : List (List Int)} (h : RoundAt P has EL k 0 S) (hb : (P.ruleV k (P.stAt k)).kind.toList ≠ bBase.toList) : RoundAt P has EL (k + 1) 0 S :=
  ⟨h.len, h.ok, fun n x hn => (h.mem n x hn).trans (or_congr Iff.rfl (or_congr ⟨fun ⟨j, hj, h1⟩ => ⟨j, by omega, h1⟩, fun ⟨j, hj, h1⟩ => ⟨j, by
    by_cases hjk : j = k
    · subst hjk; exact absurd h1.1 hb
    · omega, h1⟩⟩ Iff.rfl))⟩
theorem RoundAt.edge {P : PP} {has : List (List Int)} {EL : List (Int × Int)} {k m : Nat} {S : List (List Int)} (h : RoundAt P has EL k m S) {a b : Nat} (he : EL[m]? = some ((a : Int), (b : Int))) (hok : ∀ l ∈ has, chkE l = 0) (hal : a < has.length) (hbl : b < has.length) :
    RoundAt P has EL k (m + 1) (S.set b (sset (S.getD b [] ++ has.getD a []))) := by
  have hbs : b < S.length := by rw [h.len]; exact hbl
  have hin : InR (S.getD b [] ++ has.getD a []) := (chkE_zero.1 (h.ok _ (getD_mem hbs))).1.app (chkE_zero.1 (hok _ (getD_mem hal))).1
  refine ⟨by rw [List.length_set]; exact h.len, set_ok h.ok (chkE_sset _), fun n x hn => ?_⟩
  rw [set_getD hbs]
  by_cases hbn : b = n
  · subst hbn
    rw [if_pos rfl, mem_sset hin, List.mem_append, h.mem b x hn]
    constructor
    · rintro ((h1 | h1 | ⟨i, e, hi, h1⟩) | h1)
      · exact .inl h1
      · exact .inr (.inl h1)
      · exact .inr (.inr ⟨i, e, by omega, h1⟩)
      · exact .inr (.inr ⟨m, _, by omega, he, rfl, h1⟩)
    · rintro (h1 | h1 | ⟨i, e, hi, h1, h2, h3⟩)
      · exact .inl (.inl h1)
      · exact .inl (.inr (.inl h1))
      · by_cases him : i = m
        · subst him
          obtain rfl := Option.some.inj (he.symm.trans h1)
          exact .inr h3
        · exact .inl (.inr (.inr ⟨i, e, by omega, h1, h2, h3⟩))
  · rw [if_neg hbn, h.mem n x hn]
    refine or_congr Iff.rfl (or_congr Iff.rfl ⟨fun ⟨i, e, hi, h1⟩ => ⟨i, e, by omega, h1⟩, fun ⟨i, e, hi, h1, h2, h3⟩ => ⟨i, e, ?_, h1, h2, h3⟩⟩)
    by_cases him : i = m
    · subst him
      obtain rfl := Option.some.inj (he.symm.trans h1)
      exact absurd (Int.ofNat_inj.1 h2) hbn
    · omega
def PP.basesOf (P : PP) (n : Nat) : List Int := (P.rulesV.filter fun r => decide (r.kind.toList = bBase.toList) && decide (r.a = (n : Int))).map RV.b
def PP.comesTo (P : PP) (has : List (List Int)) (n : Nat) : List Int := ((P.edgesL has).filter fun e => decide (e.2 = (n : Int))).flatMap fun e => has.getD e.1.toNat []
def PP.roundV (P : PP) (has : List (List Int)) : List (List Int) := (List.range has.length).map fun n => sset (has.getD n [] ++ (P.basesOf n ++ P.comesTo has n))
theorem mem_rulesV {P : PP} {r : RV} : r ∈ P.rulesV ↔ ∃ j, j < P.stmts.length ∧ r = P.ruleV j (P.stAt j) := by
  unfold PP.rulesV PP.rulesUp
  rw [List.mem_map]
  exact ⟨fun ⟨j, hj, e⟩ => ⟨j, List.mem_range.1 hj, e.symm⟩, fun ⟨j, hj, e⟩ => ⟨j, List.mem_range.2 hj, e.symm⟩⟩
theorem placeV_in {P : PP} {k : Nat} (hk : k < P.stmts.length) (hn : P.isNew k = true) : 0 ≤ P.placeV (k : Int) ∧ P.placeV (k : Int) < (P.nodesV : Int) := by
  have h1 : P.newsN (k + 1) = P.newsN k + 1 := by rw [PP.newsN_succ, hn]; rfl
  have h2 : ∀ d, P.newsN (k + 1) ≤ P.newsN (k + 1 + d) := fun d => by
    induction d with
    | zero => exact Nat.le_refl _
    | succ d ih =>
      have h5 := P.newsN_succ (k + 1 + d)
      rw [show k + 1 + (d + 1) = (k + 1 + d) + 1 from rfl]
      split at h5 <;> omega
  have h3 := h2 (P.stmts.length - (k + 1))
  rw [show k + 1 + (P.stmts.length - (k + 1)) = P.stmts.length by omega] at h3
  unfold PP.placeV PP.nodesV
  rw [if_pos ⟨by omega, by omega, by rw [Int.toNat_natCast]; exact hn⟩, Int.toNat_natCast]
  omega
theorem base_b_in {P : PP} (hw : P.Well) {k : Nat} (hk : k < P.stmts.length) (hb : (P.ruleV k (P.stAt k)).kind.toList = bBase.toList) : 0 ≤ (P.ruleV k (P.stAt k)).b ∧ (P.ruleV k (P.stAt k)).b < (P.objectsV : Int) := by
  have h0 := hw.2 k (P.stAt k) hk (stAt_some hk)
  have hg := PP.good h0
  have hnv := nodes_vars P
  have hob : P.objectsV = P.nodesV + P.funs.length := rfl
  have hnew : (P.stAt k).isK kNew = true → P.isNew k = true := fun h => by unfold PP.isNew; rw [stAt_some hk]; exact h
  obtain ⟨x, hx⟩ : ∃ x, x = P.stAt k := ⟨_, rfl⟩
  rw [← hx] at h0 hg hb hnew ⊢
  have hbl := eq_of_beq bBase_list
  rcases kind_cases h0 with g | g | g | g | g | g | g
  · have e : P.ruleV k x = ⟨bBase, x.x, x.y, k, []⟩ := by unfold PP.ruleV; rw [g]; rfl
    have hy := hg.yv (isK_ne g (k' := kFun) rfl) (isK_ne g (k' := kNew) rfl)
    rw [e]
    exact ⟨hy.1, by show x.y < _; omega⟩
  · have e : P.ruleV k x = ⟨x.kind, x.y, x.x, k, []⟩ := by unfold PP.ruleV; rw [isK_ne g (k' := kAddr) rfl, isK_ne g (k' := kNew) rfl, isK_ne g (k' := kFun) rfl, isK_ne g (k' := kCall) rfl]; rfl
    rw [e, hbl] at hb
    have hk' : x.kind.toList = kCopy := eq_of_beq g
    rw [show x.kind.toList = [98, 97, 115, 101] from hb] at hk'
    exact absurd hk' (by decide)
  · have e : P.ruleV k x = ⟨x.kind, x.y, x.x, k, []⟩ := by unfold PP.ruleV; rw [isK_ne g (k' := kAddr) rfl, isK_ne g (k' := kNew) rfl, isK_ne g (k' := kFun) rfl, isK_ne g (k' := kCall) rfl]; rfl
    rw [e, hbl] at hb
    have hk' : x.kind.toList = kLoad := eq_of_beq g
    rw [show x.kind.toList = [98, 97, 115, 101] from hb] at hk'
    exact absurd hk' (by decide)
  · have e : P.ruleV k x = ⟨x.kind, x.y, x.x, k, []⟩ := by unfold PP.ruleV; rw [isK_ne g (k' := kAddr) rfl, isK_ne g (k' := kNew) rfl, isK_ne g (k' := kFun) rfl, isK_ne g (k' := kCall) rfl]; rfl
    rw [e, hbl] at hb
    have hk' : x.kind.toList = kStore := eq_of_beq g
    rw [show x.kind.toList = [98, 97, 115, 101] from hb] at hk'
    exact absurd hk' (by decide)
  · have e : P.ruleV k x = ⟨bBase, x.x, P.placeV k, k, []⟩ := by unfold PP.ruleV; rw [isK_ne g (k' := kAddr) rfl, g]; rfl
    have hp := placeV_in hk (hnew g)
    rw [e]
    exact ⟨hp.1, by show P.placeV k < _; omega⟩
  · have e : P.ruleV k x = ⟨bBase, x.x, (P.nodesV : Int) + x.y, k, []⟩ := by unfold PP.ruleV; rw [isK_ne g (k' := kAddr) rfl, isK_ne g (k' := kNew) rfl, g]; rfl
    have hy := hg.yf g
    rw [e]
    exact ⟨by show 0 ≤ (P.nodesV : Int) + x.y; omega, by show (P.nodesV : Int) + x.y < _; omega⟩
  · have e : P.ruleV k x = ⟨bCall, x.y, x.x, k, x.args⟩ := by unfold PP.ruleV; rw [isK_ne g (k' := kAddr) rfl, isK_ne g (k' := kNew) rfl, isK_ne g (k' := kFun) rfl, g]; rfl
    rw [e, hbl, show (RV.mk bCall x.y x.x k x.args).kind.toList = [99, 97, 108, 108] from eq_of_beq bCall_list] at hb
    exact absurd hb (by decide)
theorem mem_basesOf {P : PP} {n : Nat} {x : Int} : x ∈ P.basesOf n ↔ ∃ j, j < P.stmts.length ∧ P.baseAt j n x := by
  unfold PP.basesOf
  rw [List.mem_map]
  constructor
  · rintro ⟨r, hr, rfl⟩
    obtain ⟨h1, h2⟩ := List.mem_filter.1 hr
    obtain ⟨j, hj, rfl⟩ := mem_rulesV.1 h1
    rw [Bool.and_eq_true, decide_eq_true_iff, decide_eq_true_iff] at h2
    exact ⟨j, hj, h2.1, h2.2, rfl⟩
  · rintro ⟨j, hj, h1, h2, h3⟩
    exact ⟨_, List.mem_filter.2 ⟨mem_rulesV.2 ⟨j, hj, rfl⟩, by rw [Bool.and_eq_true, decide_eq_true_iff, decide_eq_true_iff]; exact ⟨h1, h2⟩⟩, h3⟩
theorem mem_comesTo {P : PP} {has : List (List Int)} {n : Nat} {x : Int} : x ∈ P.comesTo has n ↔ ∃ (i : Nat) (e : Int × Int), i < (P.edgesL has).length ∧ (P.edgesL has)[i]? = some e ∧ e.2 = (n : Int) ∧ x ∈ has.getD e.1.toNat [] := by
  unfold PP.comesTo
  rw [List.mem_flatMap]
  constructor
  · rintro ⟨e, he, hx⟩
    obtain ⟨h1, h2⟩ := List.mem_filter.1 he
    obtain ⟨i, hi⟩ := List.mem_iff_getElem?.1 h1
    have hil : i < (P.edgesL has).length := by
      rcases Nat.lt_or_ge i (P.edgesL has).length with h | h
      · exact h
      · rw [List.getElem?_eq_none h] at hi; cases hi
    exact ⟨i, e, hil, hi, of_decide_eq_true h2, hx⟩
  · rintro ⟨i, e, _, hi, h2, hx⟩
    exact ⟨e, List.mem_filter.2 ⟨List.mem_of_getElem? hi, decide_eq_true h2⟩, hx⟩
theorem getD_in {P : PP} {has : List (List Int)} (hs : SetsOk P has) (i : Nat) (x : Int) (hx : x ∈ has.getD i []) : 0 ≤ x ∧ x < (P.objectsV : Int) := by
  rw [List.getD_eq_getElem?_getD] at hx
  cases he : has[i]? with
  | none => rw [he] at hx; cases hx
  | some l =>
    rw [he] at hx
    have hm := List.mem_of_getElem? he
    exact ⟨(hs.inr l hm x hx).1, (hs.ok l hm).2 x hx⟩
theorem round_all_in {P : PP} {has : List (List Int)} (hg : P.GoodS has) (n : Nat) : ∀ x ∈ has.getD n [] ++ (P.basesOf n ++ P.comesTo has n), 0 ≤ x ∧ x < (P.objectsV : Int) := fun x hx => by
  rcases List.mem_append.1 hx with h | h
  · exact getD_in hg.ok n x h
  · rcases List.mem_append.1 h with h | h
    · obtain ⟨j, hj, h1, _, h3⟩ := mem_basesOf.1 h
      have := base_b_in hg.1 hj h1
      rw [h3] at this
      exact this
    · obtain ⟨_, e, _, _, _, h4⟩ := mem_comesTo.1 h
      exact getD_in hg.ok _ x h4
theorem round_in {P : PP} {has : List (List Int)} (hg : P.GoodS has) (n : Nat) : InR (has.getD n [] ++ (P.basesOf n ++ P.comesTo has n)) := fun x hx => by
  have h1 := round_all_in hg n x hx
  have h2 := objects_few hg.1
  omega
theorem roundV_getD {P : PP} {has : List (List Int)} {n : Nat} (hn : n < has.length) : (P.roundV has).getD n [] = sset (has.getD n [] ++ (P.basesOf n ++ P.comesTo has n)) := by
  unfold PP.roundV
  rw [List.getD_eq_getElem?_getD, List.getElem?_map, List.getElem?_range hn, Option.map_some, Option.getD_some]
theorem roundV_len (P : PP) (has : List (List Int)) : (P.roundV has).length = has.length := by unfold PP.roundV; rw [List.length_map, List.length_range]
theorem mem_roundV {P : PP} {has : List (List Int)} (hg : P.GoodS has) {n : Nat} (hn : n < has.length) {x : Int} : x ∈ (P.roundV has).getD n [] ↔ x ∈ has.getD n [] ∨ (∃ j, j < P.stmts.length ∧ P.baseAt j n x) ∨ ∃ (i : Nat) (e : Int × Int), i < (P.edgesL has).length ∧ (P.edgesL has)[i]? = some e ∧ e.2 = (n : Int) ∧ x ∈ has.getD e.1.toNat [] := by
  rw [roundV_getD hn, mem_sset (round_in hg n), List.mem_append, List.mem_append, mem_basesOf, mem_comesTo]
theorem roundV_at {P : PP} {has : List (List Int)} (hg : P.GoodS has) : RoundAt P has (P.edgesL has) P.stmts.length (P.edgesL has).length (P.roundV has) := by
  refine ⟨roundV_len P has, fun l hl => ?_, fun n x hn => mem_roundV hg hn⟩
  unfold PP.roundV at hl
  obtain ⟨n, _, e⟩ := List.mem_map.1 hl
  rw [← e]
  exact chkE_sset _
theorem roundV_good {P : PP} {has : List (List Int)} (hg : P.GoodS has) : P.GoodS (P.roundV has) := by
  refine ⟨hg.1, by rw [roundV_len]; exact hg.2.1, fun l hl => ?_⟩
  unfold PP.roundV at hl
  obtain ⟨n, _, e⟩ := List.mem_map.1 hl
  rw [← e]
  exact setE_of (chkE_sset _) fun x hx => (round_all_in hg n x (mem_sset0.1 hx).1).2
def cntE (EL : List (Int × Int)) (m n : Nat) : Nat := ((EL.take m).filter fun e => decide (e.2 = (n : Int))).length
theorem cntE_succ {EL : List (Int × Int)} {m n : Nat} {e : Int × Int} (he : EL[m]? = some e) : cntE EL (m + 1) n = cntE EL m n + if e.2 = (n : Int) then 1 else 0 := by
  unfold cntE
  rw [List.take_add_one, he, List.filter_append, List.length_append]
  congr 1
  show (List.filter _ [e]).length = _
  rw [List.filter_cons]
  by_cases h : e.2 = (n : Int)
  · rw [if_pos (decide_eq_true h), if_pos h]; rfl
  · rw [if_neg (by simpa using h), if_neg h]; rfl
structure BagAt (P : PP) (has : List (List Int)) (EL : List (Int × Int)) (k m : Nat) (B : List (List Int)) : Prop where
  set : ∃ S, RoundAt P has EL k m S ∧ B.length = S.length ∧ ∀ n x, x ∈ B.getD n [] ↔ x ∈ S.getD n []
  few : ∀ n, (B.getD n []).length ≤ 1000 + k + 1000 * cntE EL m n
theorem BagAt.len {P : PP} {has : List (List Int)} {EL : List (Int × Int)} {k m : Nat} {B : List (List Int)} (h : BagAt P has EL k m B) : B.length = has.length := by
  obtain ⟨S, h1, h2, _⟩ := h.set
  exact h2.trans h1.len
theorem BagAt.start {P : PP} {has : List (List Int)} (hg : P.GoodS has) (EL : List (Int × Int)) : BagAt P has EL 0 0 has :=
  ⟨⟨has, RoundAt.start hg EL, rfl, fun _ _ => Iff.rfl⟩, fun n => by
    by_cases hn : n < has.length
    · have := srt_few (hg.ok.ok _ (getD_mem hn)).1
      omega
    · rw [List.getD_eq_getElem?_getD, List.getElem?_eq_none (by omega)]
      show (0 : Nat) ≤ _
      omega⟩
theorem BagAt.skip {P : PP} {has : List (List Int)} {EL : List (Int × Int)} {k : Nat} {B : List (List Int)} (h : BagAt P has EL k 0 B) (hb : (P.ruleV k (P.stAt k)).kind.toList ≠ bBase.toList) : BagAt P has EL (k + 1) 0 B := by
  obtain ⟨S, h1, h2, h3⟩ := h.set
  exact ⟨⟨S, h1.skip hb, h2, h3⟩, fun n => by have := h.few n; omega⟩
theorem BagAt.base {P : PP} {has : List (List Int)} {EL : List (Int × Int)} {k : Nat} {B : List (List Int)} (h : BagAt P has EL k 0 B) (hb : (P.ruleV k (P.stAt k)).kind.toList = bBase.toList) {a : Nat} {b : Int} (ha : (P.ruleV k (P.stAt k)).a = (a : Int)) (hbb : (P.ruleV k (P.stAt k)).b = b) (hb1 : 0 ≤ b ∧ b < 1000) (hal : a < has.length) :
    BagAt P has EL (k + 1) 0 (B.set a (B.getD a [] ++ [b])) := by
  obtain ⟨S, h1, h2, h3⟩ := h.set
  have hS : a < S.length := by rw [h1.len]; exact hal
  have hB : a < B.length := by rw [h2]; exact hS
  have hin : InR (S.getD a [] ++ [b]) := (chkE_zero.1 (h1.ok _ (getD_mem hS))).1.app fun x hx => by obtain rfl := List.mem_singleton.1 hx; exact hb1
  refine ⟨⟨_, h1.base hb ha hbb hb1 hal, by rw [List.length_set, List.length_set, h2], fun n x => ?_⟩, fun n => ?_⟩
  · rw [set_getD hB, set_getD hS]
    by_cases han : a = n
    · rw [if_pos han, if_pos han, mem_sset hin, List.mem_append, List.mem_append, h3]
    · rw [if_neg han, if_neg han, h3]
  · rw [set_getD hB]
    have := h.few n
    by_cases han : a = n
    · subst han
      rw [if_pos rfl, List.length_append, List.length_singleton]
      omega
    · rw [if_neg han]
      omega
theorem BagAt.edge {P : PP} {has : List (List Int)} {EL : List (Int × Int)} {k m : Nat} {B : List (List Int)} (h : BagAt P has EL k m B) {a b : Nat} (he : EL[m]? = some ((a : Int), (b : Int))) (hok : ∀ l ∈ has, chkE l = 0) (hal : a < has.length) (hbl : b < has.length) :
    BagAt P has EL k (m + 1) (B.set b (B.getD b [] ++ has.getD a [])) := by
  obtain ⟨S, h1, h2, h3⟩ := h.set
  have hS : b < S.length := by rw [h1.len]; exact hbl
  have hB : b < B.length := by rw [h2]; exact hS
  have hin : InR (S.getD b [] ++ has.getD a []) := (chkE_zero.1 (h1.ok _ (getD_mem hS))).1.app (chkE_zero.1 (hok _ (getD_mem hal))).1
  refine ⟨⟨_, h1.edge he hok hal hbl, by rw [List.length_set, List.length_set, h2], fun n x => ?_⟩, fun n => ?_⟩
  · rw [set_getD hB, set_getD hS]
    by_cases han : b = n
    · rw [if_pos han, if_pos han, mem_sset hin, List.mem_append, List.mem_append, h3]
    · rw [if_neg han, if_neg han, h3]
  · rw [set_getD hB, cntE_succ he]
    have h4 := h.few n
    have h5 := srt_few (hok _ (getD_mem hal))
    by_cases han : b = n
    · subst han
      rw [if_pos rfl, if_pos rfl, List.length_append]
      omega
    · rw [if_neg han, if_neg (fun e => han (Int.ofNat_inj.1 e))]
      omega
theorem BagAt.done {P : PP} {has : List (List Int)} (hg : P.GoodS has) {B : List (List Int)} (h : BagAt P has (P.edgesL has) P.stmts.length (P.edgesL has).length B) : B.map sset = P.roundV has := by
  obtain ⟨S, h1, h2, h3⟩ := h.set
  obtain rfl := h1.uniq (roundV_at hg)
  refine List.ext_getElem? fun n => ?_
  rw [List.getElem?_map]
  by_cases hn : n < B.length
  · have hs : n < (P.roundV has).length := by rw [← h2]; exact hn
    have ht := chkE_zero.1 (h1.ok _ (getD_mem hs))
    have e : sset (B.getD n []) = (P.roundV has).getD n [] := srt_uniq (sset_srt _) ht.2 fun x => (mem_sset (fun x hx => ht.1 x ((h3 n x).1 hx))).trans (h3 n x)
    rw [List.getD_eq_getElem?_getD, List.getD_eq_getElem?_getD, List.getElem?_eq_getElem hn, List.getElem?_eq_getElem hs] at e
    rw [List.getElem?_eq_getElem hn, List.getElem?_eq_getElem hs]
    exact congrArg some e
  · rw [List.getElem?_eq_none (by omega), List.getElem?_eq_none (by rw [← h2]; omega)]
    rfl
structure Bags (w : World) (base : Nat) (vs : List Value) (B : List (List Int)) : Prop where
  len : vs.length = B.length
  row : ∀ (i : Nat) v l, vs[i]? = some v → B[i]? = some l → IRow base w v l
  apart : ∀ (i j : Nat) v u b, i ≠ j → vs[i]? = some v → vs[j]? = some u → v.ownBlock = some b → ¬ u.ownBlock = some b
theorem Bags.nil (w : World) (base : Nat) : Bags w base [] [] := ⟨rfl, fun _ _ _ h => by simp at h, fun _ _ _ _ _ _ h => by simp at h⟩
theorem Bags.made {w : World} {base : Nat} {vs : List Value} {B : List (List Int)} (h : Bags w base vs B) : Made w vs B := ⟨h.len, fun i v l h1 h2 => IntsT.of_row (h.row i v l h1 h2)⟩
theorem Bags.keep {X : Nat → Prop} {w w' : World} {base : Nat} {vs : List Value} {B : List (List Int)} (h : Bags w base vs B) (k : Keep X w w') (hX : ∀ b, X b → ¬ IsInt w b) : Bags w' base vs B :=
  ⟨h.len, fun i v l h1 h2 => row_keep (h.row i v l h1 h2) k fun b hb hx => hX b hx (by
    obtain ⟨c, hc⟩ := own_ty (h.row i v l h1 h2) hb
    exact ⟨c, _, hc⟩), h.apart⟩
theorem Bags.ext {w w' : World} {base : Nat} {vs : List Value} {B : List (List Int)} (h : Bags w base vs B) (x : Ext w w') : Bags w' base vs B := h.keep (x.keep fun _ => False) fun _ h => h.elim
theorem Bags.push {w w' : World} {base : Nat} {vs : List Value} {B : List (List Int)} (h : Bags w base vs B) (x : Ext w w') {v : Value} {l : List Int} (hr : IRow base w' v l) (hn : ∀ b, v.ownBlock = some b → w.heap.size ≤ b) : Bags w' base (vs ++ [v]) (B ++ [l]) := by
  have hlt : ∀ (i : Nat) u b, vs[i]? = some u → u.ownBlock = some b → b < w.heap.size := fun i u b hu hb => by
    have hi : i < vs.length := by
      rcases Nat.lt_or_ge i vs.length with g | g
      · exact g
      · rw [List.getElem?_eq_none g] at hu; cases hu
    obtain ⟨m, hm⟩ : ∃ m, B[i]? = some m := ⟨_, List.getElem?_eq_getElem (by rw [← h.len]; exact hi)⟩
    exact (World.ownsRow.lt (h.row i u m hu hm) b hb).2
  have hat : ∀ (i : Nat) u, (vs ++ [v])[i]? = some u → (i < vs.length ∧ vs[i]? = some u) ∨ (i = vs.length ∧ u = v) := fun i u hu => by
    rcases Nat.lt_trichotomy i vs.length with g | g | g
    · rw [List.getElem?_append_left g] at hu
      exact .inl ⟨g, hu⟩
    · subst g
      rw [List.getElem?_concat_length] at hu
      exact .inr ⟨rfl, (Option.some.inj hu).symm⟩
    · rw [List.getElem?_eq_none (by rw [List.length_append, List.length_singleton]; omega)] at hu
      cases hu
  refine ⟨by rw [List.length_append, List.length_append, h.len]; rfl, fun i u m hu hm => ?_, fun i j u z b hij hu hz hb hz' => ?_⟩
  · rcases hat i u hu with ⟨hi, hu'⟩ | ⟨rfl, rfl⟩
    · rw [List.getElem?_append_left (by rw [← h.len]; exact hi)] at hm
      exact (h.ext x).row i u m hu' hm
    · rw [h.len, List.getElem?_concat_length] at hm
      obtain rfl := Option.some.inj hm
      exact hr
  · rcases hat i u hu with ⟨hi, hu'⟩ | ⟨hi, rfl⟩ <;> rcases hat j z hz with ⟨hj, hz''⟩ | ⟨hj, rfl⟩
    · exact h.apart i j u z b hij hu' hz'' hb hz'
    · have := hlt i u b hu' hb
      have := hn b hz'
      omega
    · have := hlt j z b hz'' hz'
      have := hn b hb
      omega
    · omega
theorem Bags.app {w w' : World} {base i : Nat} {vs : List Value} {B : List (List Int)} (h : Bags w base vs B) (hi : i < vs.length) {v v' : Value} {l' : List Int} (hv : vs[i]? = some v) (hr : IRow base w' v' l') (k : Keep (fun q => v.ownBlock = some q) w w') (hb : ∀ b, v'.ownBlock = some b → v.ownBlock = some b ∨ w.heap.size ≤ b) :
    Bags w' base (vs.set i v') (B.set i l') := by
  have hlt : ∀ (j : Nat) u b, vs[j]? = some u → u.ownBlock = some b → b < w.heap.size := fun j u b hu hb => by
    have hj : j < vs.length := by
      rcases Nat.lt_or_ge j vs.length with g | g
      · exact g
      · rw [List.getElem?_eq_none g] at hu; cases hu
    obtain ⟨m, hm⟩ : ∃ m, B[j]? = some m := ⟨_, List.getElem?_eq_getElem (by rw [← h.len]; exact hj)⟩
    exact (World.ownsRow.lt (h.row j u m hu hm) b hb).2
  have hoff : ∀ (j : Nat) u b, j ≠ i → vs[j]? = some u → v'.ownBlock = some b → ¬ u.ownBlock = some b := fun j u b hj hu hb' hu' => by
    rcases hb b hb' with g | g
    · exact h.apart i j v u b (fun e => hj e.symm) hv hu g hu'
    · have := hlt j u b hu hu'
      omega
  refine ⟨by rw [List.length_set, List.length_set, h.len], fun j u m hu hm => ?_, fun p q u z b hpq hu hz hb' hz' => ?_⟩
  · by_cases hj : i = j
    · subst hj
      rw [List.getElem?_set_self hi] at hu
      rw [List.getElem?_set_self (by rw [← h.len]; exact hi)] at hm
      obtain rfl := Option.some.inj hu
      obtain rfl := Option.some.inj hm
      exact hr
    · rw [List.getElem?_set_ne hj] at hu hm
      exact row_keep (h.row j u m hu hm) k fun b hb1 hb2 => h.apart i j v u b hj hv hu hb2 hb1
  · by_cases hp : i = p
    · subst hp
      rw [List.getElem?_set_self hi] at hu
      obtain rfl := Option.some.inj hu
      rw [List.getElem?_set_ne hpq] at hz
      exact hoff q z b (fun e => hpq e.symm) hz hb' hz'
    · rw [List.getElem?_set_ne hp] at hu
      by_cases hq : i = q
      · subst hq
        rw [List.getElem?_set_self hi] at hz
        obtain rfl := Option.some.inj hz
        exact hoff p u b hpq hu hz' hb'
      · rw [List.getElem?_set_ne hq] at hz
        exact h.apart p q u z b hpq hu hz hb' hz'
structure REdge (n : Nat) (r : RV) : Prop where
  kd : (r.kind.toList == kCopy) = true ∨ (r.kind.toList == kLoad) = true ∨ (r.kind.toList == kStore) = true ∨ (r.kind.toList == kCall) = true
  a : 0 ≤ r.a ∧ r.a < n
  b : 0 ≤ r.b ∧ r.b < n
end Go.Proofs.YtamblahkckaaaaaDoor
