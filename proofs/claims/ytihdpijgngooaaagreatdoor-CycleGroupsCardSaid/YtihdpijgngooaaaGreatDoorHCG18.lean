/- Texts of one proof, put together: ZZXf ZZXg ZZXh ZZXb SQ ZZXi ZZXs. -/
import Derived.Test.YtihdpijgngooaaaGreatDoorHCG01
import Derived.Test.YtihdpijgngooaaaGreatDoorHCG15
import Derived.Test.YtihdpijgngooaaaGreatDoorHCG17
import Derived.Shelf.Strings.Trim
import Derived.Shelf.Small.Utf8
import Derived.Shelf.Small.Bits
import Derived.Shelf.Small.Strs
import Derived.Shelf.Small.Wraps
import Derived.Shelf.Strconv.Itoa0
import Derived.Shelf.Strings.Search1
import Derived.Shelf.Sort.Plain
import Derived.Shelf.Strings.Runes
import Derived.Shelf.Strings.AsciiSet
import Derived.Shelf.Bits.Mul64
import Derived.Shelf.Unicode.DecodeSlow
import Derived.Shelf.Unicode.DecodeAny
import Derived.Shelf.Unicode.DecodeLast
import Derived.Shelf.Slices.Clone
import Derived.Shelf.Slices.CompactI
import Derived.Shelf.Slices.SearchI
import Derived.Shelf.Slices.Delete
import Derived.Shelf.Slices.Cells
import Derived.Shelf.Slices.In.SortNone
import Derived.Shelf.SlicesE.Clone
import Derived.Test.YtihdpijgngooaaaGreatDoorProg
set_option linter.unusedSimpArgs false
set_option linter.unusedVariables false
namespace Go.Proofs.YtihdpijgngooaaaGreatDoor
open Go Go.RowKit
theorem bool_info : (Tryz.prog.info? 4).map (fun i => (i.zero, i.size, i.bytes)) = some (some (.bool false), 1, 1) := by kernel_rfl
theorem rep_cells (n : Nat) : trCells (List.replicate n false) = List.replicate n (Value.bool false) := by
  unfold trCells
  rw [List.map_replicate]
theorem list_last {T : List Int} (h : T ≠ []) : ∃ T' k, T = T' ++ [k] := ⟨T.dropLast, T.getLast h, (List.dropLast_concat_getLast h).symm⟩
def memRow (w : World) (g n : Nat) : List Bool := (List.range n).map fun i : Nat => match w.cell? ⟨g, i, none⟩ with | some (.bool b) => b | _ => false
theorem memRow_eq {w : World} {base g n cap : Nat} {B : List Bool} (h : w.ownsRow base 4 1 (.slice (some ⟨g, 0, none⟩) n cap) n (trCells B)) (hl : B.length = n) : memRow w g n = B := by
  refine List.ext_getElem (by unfold memRow; rw [List.length_map, List.length_range, hl]) fun i h1 h2 => ?_
  have hc := own_get h i (trCells_at h2)
  simp only [memRow, List.getElem_map, List.getElem_range, hc]
  rw [List.getD_eq_getElem?_getD, List.getElem?_eq_getElem h2]; rfl
def sliceLen (v : Value) : Nat := match v with | .slice _ n _ => n | _ => 0
def rchMes (n : Nat) (E : List (Int × Int)) (g : Nat) (v : Value) (w : World) : Nat := falses (memRow w g n) * (E.length + 2) + sliceLen v
set_option maxRecDepth 100000 in
set_option maxHeartbeats 6400000 in
theorem cyclereach_any (n : Nat) (m : Nat) (E : List (Int × Int)) (a : Nat) (w : World) (base : Nat) (hN : NextAt w base m E) (hE : EIn n E) (ha : a < n) (hn : n ≤ 1000) (hl : E.length ≤ 100000) :
    Calls Tryz.prog 61 #[.int .i64 (n : Int), .map (some m), .int .i64 (a : Int)] w fun e w' => ∃ g B, e = .returned (.slice (some ⟨g, 0, none⟩) n n) ∧ RchB n E (a : Int) B ∧ TrRow w.heap.size w' (.slice (some ⟨g, 0, none⟩) n n) B ∧ Ext w w' := by
  obtain ⟨f, hB⟩ := hN
  have HB := hid hB
  have HE := hid hE
  obtain ⟨bi, hbi, hbz, hbs, hbb⟩ := info_parts bool_info
  clear hB hE
  go_enter Tryz.func61, Tryz.ntmps61
  go_wp2_with (at_make; refine wpList_make_full w rfl _ _ _ rfl w.heap.size 4 bi (.bool false) 1 Tryz.underlying109 hbi hbz hbs .i64 .i64 (n : Int) (n : Int) n rfl rfl rfl rfl (by rw [hbb]; omega) (by unfold maxLen; omega) (Nat.le_refl _) ?_; intro w3 hrow hgr)
  have hx3 : Ext w w3 := Keep.new (Ext.refl w) (grown_keep hgr) (fun k hk => by cases hk)
  rw [show (Value.bool false).cells = #[Value.bool false] from rfl, toList_madeCells_one, Nat.mul_one] at hrow
  have Hs : Hid (TrRow w.heap.size w3 (.slice (some ⟨w.heap.size, 0, none⟩) n n) (List.replicate n false)) := hid (by
    unfold TrRow
    rw [List.length_replicate, rep_cells]
    exact hrow)
  obtain ⟨g, hg⟩ : ∃ g, g = w.heap.size := ⟨_, rfl⟩
  have Hg := hid hg
  rw [← hg] at Hs ⊢
  obtain ⟨W4, hW4⟩ : ∃ W4, W4 = w3.alloc (.cells #[.int .i64 (a : Int)] 3) := ⟨_, rfl⟩
  have hx4 : Ext w3 W4 := by rw [hW4]; exact (Ext.refl _).alloc _
  have HX4 := hid (hx3.trans hx4)
  have Hs4 : Hid (TrRow g W4 (.slice (some ⟨g, 0, none⟩) n n) (List.replicate n false)) := hid (own_ext Hs.out hx4)
  have hb4 : Blk W4 w3.heap.size #[.int .i64 (a : Int)] 3 := by rw [hW4]; exact Blk.new _ _ _
  have Ht4 : Hid (W4.ownsRow w.heap.size 3 1 (.slice (some ⟨w3.heap.size, 0, none⟩) 1 1) [(a : Int)].length (icells [(a : Int)])) := hid (own_of_blk hb4 hx3.size (Nat.le_refl _) (by unfold maxLen; omega) rfl rfl)
  have HW4 := hid hW4
  clear hrow hgr hx3 hbi hbz hbs hbb hg hW4 hx4 hb4 Hs
  go_wp2
  rw [← HW4.out]
  go_loopw [8] (fun t8 wr => ∃ (B : List Bool) (T : List Int) (a8 : Option Addr) (c8 : Nat), t8 = .slice a8 T.length c8 ∧ Srch n E (a : Int) B T ∧ wr.ownsRow g 4 1 (.slice (some ⟨g, 0, none⟩) n n) n (trCells B) ∧ wr.ownsRow w.heap.size 3 1 (.slice a8 T.length c8) T.length (icells T) ∧ Ext w wr) (fun t8 wr => rchMes n E g t8 wr)
  case atStart => exact ⟨_, _, _, _, rfl, Srch.begin n E (a : Int), by have := Hs4.out; unfold TrRow at this; rw [List.length_replicate] at this; exact this, Ht4.out, HX4.out⟩
  case round =>
    clear Hs4 Ht4
    obtain ⟨B, T, a8, c8, rfl, hS, hR, hT, hx⟩ := hrel
    have HS := hid hS
    have HR := hid hR
    have HT := hid hT
    have Hx := hid hx
    have hsm := hS.small
    have hM := memRow_eq hR hS.len
    have HM : Hid (rchMes n E g (.slice a8 T.length c8) wr = falses B * (E.length + 2) + T.length) := hid (by unfold rchMes sliceLen; rw [hM])
    clear hS hR hT hx hM
    by_cases hne : T = []
    · subst hne
      have HD := hid (HS.out.done HE.out (by omega))
      have HRz : Hid (TrRow w.heap.size wr (.slice (some ⟨g, 0, none⟩) n n) B) := hid (by unfold TrRow; rw [HS.out.len, ← Hg.out]; exact HR.out)
      go_wp2
      go_ret
      exact ⟨g, B, rfl, HD.out, HRz.out, Hx.out⟩
    · obtain ⟨T', k, rfl⟩ := list_last hne
      have hk := HS.out.todo k (List.mem_append_right _ List.mem_cons_self)
      obtain ⟨K, rfl⟩ := Int.eq_ofNat_of_zero_le (hk.inn HE.out (by omega)).1
      have hK : K < n := by have := (hk.inn HE.out (by omega)).2; omega
      have hlen : (T' ++ [(K : Int)]).length = T'.length + 1 := by rw [List.length_append, List.length_singleton]
      have HT2 := HT.out
      rw [hlen] at HT2 HM hsm
      rw [hlen]
      obtain ⟨g8, cc, hge⟩ := own_some HT2 (by omega)
      simp only [Value.slice.injEq] at hge
      obtain ⟨rfl, -, rfl⟩ := hge
      have q0 := own_get HT2 T'.length (show (icells (T' ++ [(K : Int)]))[T'.length]? = some (.int .i64 (K : Int)) by unfold icells; rw [List.getElem?_map, List.getElem?_concat_length]; rfl)
      have HTc : Hid (wr.ownsRow w.heap.size 3 1 (.slice (some ⟨g8, 0, none⟩) T'.length c8) T'.length (icells T')) := hid (by
        have := own_cut HT2 T'.length (by omega)
        rw [Nat.mul_one, icells_append, List.take_left' (by unfold icells; rw [List.length_map])] at this
        exact this)
      have hBl := HS.out.len
      have b0 := own_get HR.out K (trCells_at (by omega))
      have hcap : T'.length + 1 ≤ c8 := by
        obtain ⟨cur, hb, h2, h4, h5, h6, h7⟩ := own_blk HT2
        exact h4
      clear hlen HT2 hne hk HT
      cases hbk : B.getD K false with
      | true =>
        rw [hbk] at b0
        have HSn := hid (HS.out.skip hbk)
        have HMn : Hid (rchMes n E g (.slice (some ⟨g8, 0, none⟩) T'.length c8) wr = falses B * (E.length + 2) + T'.length) := hid (by unfold rchMes sliceLen; rw [memRow_eq HR.out hBl])
        clear hbk
        go_wp2
        go_roundw
        case rel => exact ⟨B, T', _, _, rfl, HSn.out, HR.out, HTc.out, Hx.out⟩
        case measure => rw [HMn.out, HM.out]; omega
      | false =>
        rw [hbk] at b0
        have HSn := hid (HS.out.mark HE.out hK hbk)
        have hfs := falses_set (l := B) (k := K) (by omega) hbk
        have hsn := HSn.out.small
        obtain ⟨ar, cr, hro⟩ := row_form (HB.out.row (K : Int))
        have hkey := look_succ (w := wr.setCell ⟨g, K, none⟩ (.bool true)) (n := (K : Int)) (HB.out.map.keep ((Hx.out.keep (fun q => q = g)).trans ((Keep.refl (fun q => q = g) wr).set rfl _)) (fun e => by have := HB.out.map.lt; have := Hg.out; omega)) (by omega)
        rw [hro] at hkey
        have hsrow : (wr.setCell ⟨g, K, none⟩ (.bool true)).ownsRow base 3 1 (.slice ar (succL E (K : Int)).length cr) (succL E (K : Int)).length (icells (succL E (K : Int))) := by
          rw [← hro]
          exact row_keep (HB.out.row (K : Int)) ((Hx.out.keep (fun q => q = g)).trans ((Keep.refl (fun q => q = g) wr).set rfl _)) fun b hb e => by
            have := (World.ownsRow.lt (HB.out.row (K : Int)) b hb).2
            have := Hg.out
            omega
        have HR2 : Hid ((wr.setCell ⟨g, K, none⟩ (.bool true)).ownsRow g 4 1 (.slice (some ⟨g, 0, none⟩) n n) n (trCells (B.set K true))) := hid (by
          have := own_set HR.out K (by unfold trCells; rw [List.length_map]; omega) (.bool true)
          rw [show (trCells B).set K (.bool true) = trCells (B.set K true) by unfold trCells; rw [List.map_set]] at this
          exact this)
        have HT2 : Hid ((wr.setCell ⟨g, K, none⟩ (.bool true)).ownsRow w.heap.size 3 1 (.slice (some ⟨g8, 0, none⟩) T'.length c8) T'.length (icells T')) := hid (row_keep HTc.out ((Keep.refl (fun q => q = g) wr).set rfl _) fun b hb e => by
          obtain ⟨c, hc⟩ := own_ty HTc.out hb
          obtain ⟨c', hc'⟩ := own_ty HR.out (k := g) rfl
          rw [e] at hc
          exact off_of hc' (by decide) ⟨_, hc⟩)
        have Hsrc := hid (own_src hsrow icells_one)
        have Hb2 : Hid (w.heap.size ≤ (wr.setCell ⟨g, K, none⟩ (.bool true)).heap.size) := hid (Nat.le_trans Hx.out.size ((Keep.refl (fun q => q = g) wr).set (p := ⟨g, K, none⟩) rfl (.bool true)).size)
        have HK2 : Hid (Keep (fun q => q = g) wr (wr.setCell ⟨g, K, none⟩ (.bool true))) := hid ((Keep.refl (fun q => q = g) wr).set rfl _)
        have hlm : T'.length + (succL E (K : Int)).length ≤ 1000000 := by rw [List.length_append] at hsn; omega
        have Hfs := hid hfs
        have f0 : ∃ z, wr.heap[g]? = some z := by
          obtain ⟨c', hc'⟩ := own_ty HR.out (k := g) rfl
          exact ⟨_, hc'⟩
        have fr := (show ∃ c, Blk wr g c 4 from own_ty HR.out (k := g) rfl).elim fun c hc => hc.free K
        clear hbk hfs hsrow hro f0
        go_wp2_with (at_builtin; refine wpList_append_src w.heap.size Hb2.out 43 3 (.int .i64 0) 1 8 Tryz.underlying43 int_info1 rfl (by omega) (by omega) rfl _ _ rfl (.slice (some ⟨g8, 0, none⟩) T'.length c8) T'.length (icells T') rfl HT2.out ar (succL E (K : Int)).length cr (icells (succL E (K : Int))) rfl Hsrc.out hlm ?_; intro v' w' h1 h2 h4; obtain ⟨a', c', rfl⟩ := row_form h1; have HR12 := hid h1; have HK12 := hid h2; clear h1 h2 h4)
        have HRn : Hid (w'.ownsRow g 4 1 (.slice (some ⟨g, 0, none⟩) n n) n (trCells (B.set K true))) := hid (row_keep HR2.out HK12.out fun b hb hb2 => by
          obtain ⟨c, hc⟩ := own_ty HT2.out hb2
          obtain ⟨c', hc'⟩ := own_ty HR2.out hb
          exact off_of hc' (by decide) ⟨_, hc⟩)
        have HMn : Hid (rchMes n E g (.slice a' (T'.length + (succL E (K : Int)).length) c') w' = falses (B.set K true) * (E.length + 2) + (T'.length + (succL E (K : Int)).length)) := hid (by unfold rchMes sliceLen; rw [memRow_eq HRn.out (by rw [List.length_set]; exact hBl)])
        go_roundw
        case rel =>
          refine ⟨B.set K true, T' ++ succL E (K : Int), a', c', by rw [List.length_append], HSn.out, HRn.out, ?_, ?_⟩
          · rw [List.length_append, icells_append]; exact HR12.out
          · refine Keep.new (X := fun q => q = g ∨ (Value.slice (some ⟨g8, 0, none⟩) T'.length c8).ownBlock = some q) Hx.out ((HK2.out.mono fun _ _ h => .inl h).trans (HK12.out.mono fun _ _ h => .inr h)) fun b hb => ?_
            rcases hb with hb | hb
            · rw [hb, Hg.out]; exact Nat.le_refl _
            · exact (World.ownsRow.lt HTc.out b hb).1
        case measure =>
          rw [HMn.out, HM.out, ← Hfs.out, Nat.add_mul]
          have := hsn
          rw [List.length_append] at this
          omega
set_option maxRecDepth 100000 in
set_option maxHeartbeats 6400000 in
theorem redgesfault_any (n : Int) (v : Value) (E : List (Int × Int)) (w : World) (n0 : Nat) (hr : EsR w n0 v E) :
    Calls Tryz.prog 28 #[.int .i64 n, v] w fun e w' => ∃ (c : Nat) (p : Int), e = .returned (.agg #[.int .i64 (c : Int), .int .i64 p]) ∧ EdgeIs n E c p ∧ Ext w w' := by
  obtain ⟨al, cl, rfl⟩ := hr.form2
  have hll := hr.len
  obtain ⟨W, hW⟩ : ∃ W, W = w.alloc (.cells #[.int .i64 0, .int .i64 0] 30) := ⟨_, rfl⟩
  have HX : Hid (Ext w W) := hid (by rw [hW]; exact (Ext.refl _).alloc _)
  have HBz : Hid (Blk W w.heap.size #[.int .i64 0, .int .i64 0] 30) := hid (by rw [hW]; exact Blk.new _ _ _)
  have HWe := hid hW
  have HR := hid (hr.ext HX.out)
  clear hr hW
  go_enter Tryz.func28, Tryz.ntmps28
  by_cases hbad : n < 0 ∨ 1000 < n
  · have HPI : Hid (EdgeIs n E 2 (-1)) := hid (.inl ⟨hbad, rfl, rfl⟩)
    have HF := hid (rbare_any 2 W)
    rcases hbad with hn | hn
    · go_wp2_with fail
      rw [← HWe.out]
      refine HF.out.mono ?_
      intro e w4 hx
      obtain ⟨rfl, hx4⟩ := hx
      have Hx4 := hid hx4
      clear HF hx4
      have hz := HBz.out.ext Hx4.out
      have y0 := (two (v0 := .int .i64 2) (v1 := .int .i64 (-1)) hz).av 0 rfl
      have y1 := (two (v0 := .int .i64 2) (v1 := .int .i64 (-1)) hz).av 1 rfl
      have z0 := hz.av 0 rfl
      have z1 := hz.av 1 rfl
      have g0 := hz.free 0
      have g1 := hz.free 1
      have hxe := Keep.new (HX.out.trans Hx4.out) (two_keep _ w.heap.size (.int .i64 2) (.int .i64 (-1))) fun b e => by omega
      simp only [qA0, qA1, qA2] at z0 z1 y0 y1
      have Hxe := hid hxe
      clear hz hxe
      go_wp2
      refine bodyPost_ret (v := .agg #[.int .i64 2, .int .i64 (-1)]) ?_ rfl ?_
      · simp [results, Tryz.results28, go_sem, y0, y1]
      exact ⟨_, _, rfl, HPI.out, Hxe.out⟩
    · have hn0 : ¬ n < 0 := by omega
      go_wp2_with fail
      rw [← HWe.out]
      refine HF.out.mono ?_
      intro e w4 hx
      obtain ⟨rfl, hx4⟩ := hx
      have Hx4 := hid hx4
      clear HF hx4
      have hz := HBz.out.ext Hx4.out
      have y0 := (two (v0 := .int .i64 2) (v1 := .int .i64 (-1)) hz).av 0 rfl
      have y1 := (two (v0 := .int .i64 2) (v1 := .int .i64 (-1)) hz).av 1 rfl
      have z0 := hz.av 0 rfl
      have z1 := hz.av 1 rfl
      have g0 := hz.free 0
      have g1 := hz.free 1
      have hxe := Keep.new (HX.out.trans Hx4.out) (two_keep _ w.heap.size (.int .i64 2) (.int .i64 (-1))) fun b e => by omega
      simp only [qA0, qA1, qA2] at z0 z1 y0 y1
      have Hxe := hid hxe
      clear hz hxe
      go_wp2
      refine bodyPost_ret (v := .agg #[.int .i64 2, .int .i64 (-1)]) ?_ rfl ?_
      · simp [results, Tryz.results28, go_sem, y0, y1]
      exact ⟨_, _, rfl, HPI.out, Hxe.out⟩
  have hn0 : ¬ n < 0 := by omega
  have hn1 : ¬ 1000 < n := by omega
  have Hn : Hid (0 ≤ n ∧ n ≤ 1000) := hid (by omega)
  clear hbad
  go_wp2
  rw [← HWe.out]
  go_loopw [5] (fun t5 wr => ∃ k : Nat, t5 = .int .i64 (k : Int) ∧ k ≤ E.length ∧ einAll n E k ∧ Ext W wr) (fun t5 _ => E.length - (intOf t5).toNat)
  case atStart => exact ⟨0, rfl, Nat.zero_le _, fun j e h => absurd h (Nat.not_lt_zero _), Ext.refl _⟩
  case round =>
    obtain ⟨k, rfl, hk, hal, hx⟩ := hrel
    have Hal := hid hal
    have Hx := hid hx
    clear hal hx
    by_cases hlt : k < E.length
    · obtain ⟨e, hek⟩ : ∃ e, E[k]? = some e := ⟨_, List.getElem?_eq_getElem hlt⟩
      obtain ⟨y, rfl, hyb, q0, q1⟩ := (HR.out.ext Hx.out).at2 hek
      obtain ⟨x1, x2⟩ := e
      simp only at q0 q1
      have Hek := hid hek
      clear hek
      cases hb : einB n (x1, x2) with
      | false =>
        have HPI : Hid (EdgeIs n E 2 (k : Int)) := hid (.inr (.inr ⟨Hn.out, k, _, Hek.out, Hal.out, hb, rfl, rfl⟩))
        have hnb : ¬ ((0 ≤ x1 ∧ x1 < n) ∧ (0 ≤ x2 ∧ x2 < n)) := fun hh => by
          rw [einB_iff.2 hh] at hb; cases hb
        clear hb
        by_cases z1 : x1 < 0
        · clear hnb
          have hz := HBz.out.ext Hx.out
          have y0 := (two (v0 := .int .i64 2) (v1 := .int .i64 (k : Int)) hz).av 0 rfl
          have y1 := (two (v0 := .int .i64 2) (v1 := .int .i64 (k : Int)) hz).av 1 rfl
          have z0 := hz.av 0 rfl
          have z1 := hz.av 1 rfl
          have g0 := hz.free 0
          have g1 := hz.free 1
          have hxe := Keep.new (HX.out.trans Hx.out) (two_keep _ w.heap.size (.int .i64 2) (.int .i64 (k : Int))) fun b e => by omega
          simp only [qA0, qA1, qA2] at z0 z1 y0 y1
          have Hxe := hid hxe
          clear hz hxe
          go_wp2
          refine bodyPost_ret (v := .agg #[.int .i64 2, .int .i64 (k : Int)]) ?_ rfl ?_
          · simp [results, Tryz.results28, go_sem, y0, y1]
          exact ⟨_, _, rfl, HPI.out, Hxe.out⟩
        by_cases z2 : n ≤ x1
        · clear hnb
          have hz := HBz.out.ext Hx.out
          have y0 := (two (v0 := .int .i64 2) (v1 := .int .i64 (k : Int)) hz).av 0 rfl
          have y1 := (two (v0 := .int .i64 2) (v1 := .int .i64 (k : Int)) hz).av 1 rfl
          have z0 := hz.av 0 rfl
          have z1 := hz.av 1 rfl
          have g0 := hz.free 0
          have g1 := hz.free 1
          have hxe := Keep.new (HX.out.trans Hx.out) (two_keep _ w.heap.size (.int .i64 2) (.int .i64 (k : Int))) fun b e => by omega
          simp only [qA0, qA1, qA2] at z0 z1 y0 y1
          have Hxe := hid hxe
          clear hz hxe
          go_wp2
          refine bodyPost_ret (v := .agg #[.int .i64 2, .int .i64 (k : Int)]) ?_ rfl ?_
          · simp [results, Tryz.results28, go_sem, y0, y1]
          exact ⟨_, _, rfl, HPI.out, Hxe.out⟩
        by_cases z3 : x2 < 0
        · clear hnb
          have hz := HBz.out.ext Hx.out
          have y0 := (two (v0 := .int .i64 2) (v1 := .int .i64 (k : Int)) hz).av 0 rfl
          have y1 := (two (v0 := .int .i64 2) (v1 := .int .i64 (k : Int)) hz).av 1 rfl
          have z0 := hz.av 0 rfl
          have z1 := hz.av 1 rfl
          have g0 := hz.free 0
          have g1 := hz.free 1
          have hxe := Keep.new (HX.out.trans Hx.out) (two_keep _ w.heap.size (.int .i64 2) (.int .i64 (k : Int))) fun b e => by omega
          simp only [qA0, qA1, qA2] at z0 z1 y0 y1
          have Hxe := hid hxe
          clear hz hxe
          go_wp2
          refine bodyPost_ret (v := .agg #[.int .i64 2, .int .i64 (k : Int)]) ?_ rfl ?_
          · simp [results, Tryz.results28, go_sem, y0, y1]
          exact ⟨_, _, rfl, HPI.out, Hxe.out⟩
        have z4 : n ≤ x2 := by omega
        clear hnb
        have hz := HBz.out.ext Hx.out
        have y0 := (two (v0 := .int .i64 2) (v1 := .int .i64 (k : Int)) hz).av 0 rfl
        have y1 := (two (v0 := .int .i64 2) (v1 := .int .i64 (k : Int)) hz).av 1 rfl
        have z0 := hz.av 0 rfl
        have z1 := hz.av 1 rfl
        have g0 := hz.free 0
        have g1 := hz.free 1
        have hxe := Keep.new (HX.out.trans Hx.out) (two_keep _ w.heap.size (.int .i64 2) (.int .i64 (k : Int))) fun b e => by omega
        simp only [qA0, qA1, qA2] at z0 z1 y0 y1
        have Hxe := hid hxe
        clear hz hxe
        go_wp2
        refine bodyPost_ret (v := .agg #[.int .i64 2, .int .i64 (k : Int)]) ?_ rfl ?_
        · simp [results, Tryz.results28, go_sem, y0, y1]
        exact ⟨_, _, rfl, HPI.out, Hxe.out⟩
      | true =>
        have Hal1 := hid (Hal.out.succ Hek.out hb)
        have hib := einB_iff.1 hb
        simp only at hib
        obtain ⟨⟨i1, i2⟩, i3, i4⟩ := hib
        have z1 : ¬ x1 < 0 := by omega
        have z2 : ¬ n ≤ x1 := by omega
        have z3 : ¬ x2 < 0 := by omega
        have z4 : ¬ n ≤ x2 := by omega
        clear hb i1 i2 i3 i4
        go_wp2
        go_roundw
        case rel => exact ⟨k + 1, by go_num, by omega, Hal1.out, Hx.out⟩
        case measure => simp [intOf]; omega
    · obtain rfl : k = E.length := by omega
      have HPI : Hid (EdgeIs n E 0 (-1)) := hid (.inr (.inl ⟨Hn.out, Hal.out, rfl, rfl⟩))
      have HF := hid (rfine_any wr)
      go_wp2_with fail
      refine HF.out.mono ?_
      intro e w4 hx
      obtain ⟨rfl, hx4⟩ := hx
      have Hx4 := hid (Hx.out.trans hx4)
      clear HF hx4
      have hz := HBz.out.ext Hx4.out
      have y0 := (two (v0 := .int .i64 0) (v1 := .int .i64 (-1)) hz).av 0 rfl
      have y1 := (two (v0 := .int .i64 0) (v1 := .int .i64 (-1)) hz).av 1 rfl
      have z0 := hz.av 0 rfl
      have z1 := hz.av 1 rfl
      have g0 := hz.free 0
      have g1 := hz.free 1
      have hxe := Keep.new (HX.out.trans Hx4.out) (two_keep _ w.heap.size (.int .i64 0) (.int .i64 (-1))) fun b e => by omega
      simp only [qA0, qA1, qA2] at z0 z1 y0 y1
      have Hxe := hid hxe
      clear hz hxe
      go_wp2
      refine bodyPost_ret (v := .agg #[.int .i64 0, .int .i64 (-1)]) ?_ rfl ?_
      · simp [results, Tryz.results28, go_sem, y0, y1]
      exact ⟨_, _, rfl, HPI.out, Hxe.out⟩
structure Spr (n : Nat) (E : List (Int × Int)) (a : Int) (B : List Bool) : Prop where
  len : B.length = n
  seen : ∀ i : Nat, B.getD i false = true → Rch E a (i : Int)
  start : B.getD a.toNat false = true
theorem Spr.mark {n : Nat} {E : List (Int × Int)} {a x1 x2 : Int} {B : List Bool} (hE : EIn n E) (h : Spr n E a B) (he : (x1, x2) ∈ E) (h1 : B.getD x1.toNat false = true) : Spr n E a (B.set x2.toNat true) := by
  have hi := hE _ he
  have hl : x2.toNat < B.length := by rw [h.len]; simp only at hi; omega
  refine ⟨by rw [List.length_set]; exact h.len, fun i hb => ?_, ?_⟩
  · rw [getD_set hl] at hb
    by_cases g : i = x2.toNat
    · rw [g, Int.toNat_of_nonneg hi.2.1]
      have := h.seen _ h1
      rw [Int.toNat_of_nonneg hi.1.1] at this
      exact this.step he
    · rw [if_neg g] at hb
      exact h.seen i hb
  · rw [getD_set hl]
    split
    · rfl
    · exact h.start
theorem Spr.done {n : Nat} {E : List (Int × Int)} {a : Int} {B : List Bool} (hE : EIn n E) (h : Spr n E a B) (hc : ∀ e ∈ E, B.getD e.1.toNat false = true → B.getD e.2.toNat false = true) : RchB n E a B := by
  refine ⟨h.len, fun i _ => ⟨h.seen i, fun hr => ?_⟩⟩
  have key : ∀ {b : Int}, Rch E a b → B.getD b.toNat false = true := fun hb => by
    induction hb with
    | refl => exact h.start
    | step _ he ih => exact hc _ he ih
  have := key hr
  rw [Int.toNat_natCast] at this
  exact this
def sprMes (n g : Nat) (v : Value) (w : World) : Nat := 2 * falses (memRow w g n) + match v with | .bool true => 1 | _ => 0
set_option maxRecDepth 100000 in
set_option maxHeartbeats 6400000 in
theorem rreachof_any (n : Nat) (v : Value) (E : List (Int × Int)) (a : Nat) (w : World) (n0 : Nat) (hr : EsR w n0 v E) (hE : EIn n E) (ha : a < n) (hn : n ≤ 1000) (hn0 : n0 ≤ w.heap.size) :
    Calls Tryz.prog 70 #[.int .i64 (n : Int), v, .int .i64 (a : Int)] w fun e w' => ∃ g B, e = .returned (.slice (some ⟨g, 0, none⟩) n n) ∧ RchB n E (a : Int) B ∧ TrRow w.heap.size w' (.slice (some ⟨g, 0, none⟩) n n) B ∧ w.heap.size ≤ g ∧ Ext w w' := by
  obtain ⟨al, cl, rfl⟩ := hr.form2
  have hll := hr.len
  have HR0 := hid hr
  have HE := hid hE
  obtain ⟨bi, hbi, hbz, hbs, hbb⟩ := info_parts bool_info
  clear hr hE
  go_enter Tryz.func70, Tryz.ntmps70
  go_wp2_with (at_make; refine wpList_make_full w rfl _ _ _ rfl w.heap.size 4 bi (.bool false) 1 Tryz.underlying109 hbi hbz hbs .i64 .i64 (n : Int) (n : Int) n rfl rfl rfl rfl (by rw [hbb]; omega) (by unfold maxLen; omega) (Nat.le_refl _) ?_; intro w3 hrow hgr; rw [show (Value.bool false).cells = #[Value.bool false] from rfl, toList_madeCells_one, Nat.mul_one, ← rep_cells] at hrow; have b0 := own_get hrow a (trCells_at (by rw [List.length_replicate]; exact ha)); have fr := (show ∃ c, Blk w3 w.heap.size c 4 from own_ty hrow (k := w.heap.size) rfl).elim fun c hc => hc.free a)
  have hx3 : Ext w w3 := Keep.new (Ext.refl w) (grown_keep hgr) (fun k hk => by cases hk)
  have Hs := hid hrow
  obtain ⟨g, hg⟩ : ∃ g, g = w.heap.size := ⟨_, rfl⟩
  have Hg := hid hg
  rw [← hg] at Hs ⊢
  have HR1 : Hid ((w3.setCell ⟨g, a, none⟩ (.bool true)).ownsRow g 4 1 (.slice (some ⟨g, 0, none⟩) n n) n (trCells ((List.replicate n false).set a true))) := hid (by
    have := own_set Hs.out a (by unfold trCells; rw [List.length_map, List.length_replicate]; exact ha) (.bool true)
    rw [show (trCells (List.replicate n false)).set a (.bool true) = trCells ((List.replicate n false).set a true) by unfold trCells; rw [List.map_set]] at this
    exact this)
  have HX1 : Hid (Ext w (w3.setCell ⟨g, a, none⟩ (.bool true))) := hid (Keep.new hx3 ((Keep.refl (fun q => q = g) w3).set rfl _) fun b hb => by rw [hb, hg]; exact Nat.le_refl _)
  have HS1 : Hid (Spr n E (a : Int) ((List.replicate n false).set a true)) := hid (by
    have hf : ∀ i, (List.replicate n false).getD i false = false := fun i => by
      rw [List.getD_eq_getElem?_getD]
      cases h : (List.replicate n false)[i]? with
      | none => rfl
      | some b => exact (List.mem_replicate.1 (List.mem_of_getElem? h)).2
    have hla : a < (List.replicate n false).length := by rw [List.length_replicate]; exact ha
    refine ⟨by rw [List.length_set, List.length_replicate], fun i hi => ?_, ?_⟩
    · rw [getD_set hla] at hi
      by_cases e : i = a
      · rw [e]; exact .refl
      · rw [if_neg e, hf] at hi; cases hi
    · rw [getD_set hla, Int.toNat_natCast, if_pos rfl])
  clear hrow hgr hx3 hbi hbz hbs hbb hg Hs b0 fr
  go_loopw [8] (fun t8 wr => ∃ (B : List Bool) (b : Bool), t8 = .bool b ∧ Spr n E (a : Int) B ∧ wr.ownsRow g 4 1 (.slice (some ⟨g, 0, none⟩) n n) n (trCells B) ∧ (b = false → ∀ e ∈ E, B.getD e.1.toNat false = true → B.getD e.2.toNat false = true) ∧ Ext w wr) (fun t8 wr => sprMes n g t8 wr)
  case atStart => exact ⟨_, true, rfl, HS1.out, HR1.out, (fun h => by cases h), HX1.out⟩
  case round =>
    clear HS1 HR1
    obtain ⟨B, b, rfl, hS, hR, hcl, hx⟩ := hrel
    have HS := hid hS
    have HR := hid hR
    have Hx := hid hx
    have HM : Hid (sprMes n g (.bool b) wr = 2 * falses B + if b = true then 1 else 0) := hid (by unfold sprMes; rw [memRow_eq hR hS.len]; cases b <;> rfl)
    cases b with
    | false =>
      have HD := hid (hS.done HE.out (hcl rfl))
      have HRz : Hid (TrRow w.heap.size wr (.slice (some ⟨g, 0, none⟩) n n) B) := hid (by unfold TrRow; rw [hS.len, ← Hg.out]; exact hR)
      clear hS hR hcl hx
      go_wp2
      go_ret
      exact ⟨g, B, rfl, HD.out, HRz.out, by rw [Hg.out]; exact Nat.le_refl _, Hx.out⟩
    | true =>
      clear hS hR hcl hx
      obtain ⟨wO, hwO⟩ : ∃ x, x = wr := ⟨_, rfl⟩
      subst hwO
      go_wp2
      go_loopw [8, 9] (fun t8 t9 wr => ∃ (i : Nat) (C : List Bool) (b : Bool), t9 = .int .i64 (i : Int) ∧ t8 = .bool b ∧ i ≤ E.length ∧ Spr n E (a : Int) C ∧ wr.ownsRow g 4 1 (.slice (some ⟨g, 0, none⟩) n n) n (trCells C) ∧ (b = true → falses C < falses B) ∧ (b = false → C = B ∧ ∀ (j : Nat) e, j < i → E[j]? = some e → B.getD e.1.toNat false = true → B.getD e.2.toNat false = true) ∧ Ext w wr) (fun _ t9 _ => E.length - (intOf t9).toNat)
      case atStart => exact ⟨0, B, false, rfl, rfl, Nat.zero_le _, HS.out, HR.out, (fun h => by cases h), (fun _ => ⟨rfl, fun j e h => absurd h (Nat.not_lt_zero _)⟩), Hx.out⟩
      case round =>
        obtain ⟨i, C, b, rfl, rfl, hi, hSC, hRC, hbt, hbf, hxc⟩ := hrel
        have HSC := hid hSC
        have HRC := hid hRC
        have Hbt := hid hbt
        have Hbf := hid hbf
        have Hxc := hid hxc
        have hCl := hSC.len
        clear hSC hRC hbt hbf hxc
        by_cases hlt : i < E.length
        · obtain ⟨e, he⟩ : ∃ e, E[i]? = some e := ⟨_, List.getElem?_eq_getElem hlt⟩
          obtain ⟨y, rfl, hyb, q0, q1⟩ := (HR0.out.ext Hxc.out).at2 he
          have hem := List.mem_of_getElem? he
          have hei := HE.out e hem
          obtain ⟨x1, x2⟩ := e
          simp only at q0 q1 hei
          obtain ⟨K1, rfl⟩ := Int.eq_ofNat_of_zero_le hei.1.1
          obtain ⟨K2, rfl⟩ := Int.eq_ofNat_of_zero_le hei.2.1
          have hK1 : K1 < n := by omega
          have hK2 : K2 < n := by omega
          have c1 := own_get HRC.out K1 (trCells_at (by omega))
          have c2 := own_get HRC.out K2 (trCells_at (by omega))
          have He := hid he
          have Hem := hid hem
          have Hj : Hid (∀ b, (b = false → C = B ∧ ∀ (j : Nat) e, j < i → E[j]? = some e → B.getD e.1.toNat false = true → B.getD e.2.toNat false = true) → (C.getD K1 false = true → C.getD K2 false = true) → (b = false → C = B ∧ ∀ (j : Nat) e, j < i + 1 → E[j]? = some e → B.getD e.1.toNat false = true → B.getD e.2.toNat false = true)) := hid fun b h1 h2 h3 => by
            obtain ⟨h4, h5⟩ := h1 h3
            refine ⟨h4, fun j e hj hje hb => ?_⟩
            rcases Nat.lt_or_ge j i with g1 | g1
            · exact h5 j e g1 hje hb
            · obtain rfl : j = i := by omega
              obtain rfl := Option.some.inj (he.symm.trans hje)
              simp only [Int.toNat_natCast] at hb ⊢
              rw [h4] at h2
              exact h2 hb
          clear he hem
          cases hb1 : C.getD K1 false with
          | false =>
            rw [hb1] at c1
            have Hb1 := hid hb1
            clear hb1
            go_wp2
            go_roundw
            case rel => exact ⟨i + 1, C, b, by go_num, rfl, by omega, HSC.out, HRC.out, Hbt.out, Hj.out b Hbf.out (fun h => by rw [Hb1.out] at h; cases h), Hxc.out⟩
            case measure => simp [intOf]; omega
          | true =>
            rw [hb1] at c1
            cases hb2 : C.getD K2 false with
            | true =>
              rw [hb2] at c2
              have Hb2 := hid hb2
              clear hb1 hb2
              go_wp2
              go_roundw
              case rel => exact ⟨i + 1, C, b, by go_num, rfl, by omega, HSC.out, HRC.out, Hbt.out, Hj.out b Hbf.out (fun _ => Hb2.out), Hxc.out⟩
              case measure => simp [intOf]; omega
            | false =>
              rw [hb2] at c2
              have hfs := falses_set (l := C) (k := K2) (by omega) hb2
              have Hfs : Hid (falses (C.set K2 true) < falses B) := hid (by
                cases b with
                | true => have := Hbt.out rfl; omega
                | false => have := (Hbf.out rfl).1; rw [this] at hfs ⊢; omega)
              have HSn : Hid (Spr n E (a : Int) (C.set K2 true)) := hid (by
                have := HSC.out.mark HE.out Hem.out (by rw [Int.toNat_natCast]; exact hb1)
                rw [Int.toNat_natCast] at this
                exact this)
              have fr := (show ∃ c, Blk wr g c 4 from own_ty HRC.out (k := g) rfl).elim fun c hc => hc.free K2
              have HRn : Hid ((wr.setCell ⟨g, K2, none⟩ (.bool true)).ownsRow g 4 1 (.slice (some ⟨g, 0, none⟩) n n) n (trCells (C.set K2 true))) := hid (by
                have := own_set HRC.out K2 (by unfold trCells; rw [List.length_map]; omega) (.bool true)
                rw [show (trCells C).set K2 (.bool true) = trCells (C.set K2 true) by unfold trCells; rw [List.map_set]] at this
                exact this)
              have Hxn : Hid (Ext w (wr.setCell ⟨g, K2, none⟩ (.bool true))) := hid (Keep.new Hxc.out ((Keep.refl (fun q => q = g) wr).set rfl _) fun b hb => by rw [hb, Hg.out]; exact Nat.le_refl _)
              have Hne : Hid (y.block ≠ g) := hid (by have := Hg.out; omega)
              have q0' : (wr.setCell ⟨g, K2, none⟩ (.bool true)).cell? (y.add (i * 2)) = some (.int .i64 (K1 : Int)) := Keep.cellx ((Keep.refl (fun q => q = g) wr).set rfl _) q0 (by rw [add_block]; exact Hne.out)
              have q1' : (wr.setCell ⟨g, K2, none⟩ (.bool true)).cell? ⟨(y.add (i * 2)).block, (y.add (i * 2)).off + 1, none⟩ = some (.int .i64 (K2 : Int)) := Keep.cellx ((Keep.refl (fun q => q = g) wr).set rfl _) q1 (by show ¬ (y.add (i * 2)).block = g; rw [add_block]; exact Hne.out)
              clear hb1 hb2 hfs
              go_wp2
              go_roundw
              case rel => exact ⟨i + 1, C.set K2 true, true, by go_num, rfl, by omega, HSn.out, HRn.out, (fun _ => Hfs.out), (fun h => by cases h), Hxn.out⟩
              case measure => simp [intOf]; omega
        · obtain rfl : i = E.length := by omega
          have HMn : Hid (sprMes n g (.bool b) wr < 2 * falses B + 1) := hid (by
            unfold sprMes
            rw [memRow_eq HRC.out hCl]
            cases b with
            | true => have := Hbt.out rfl; simp only; omega
            | false => rw [(Hbf.out rfl).1]; simp only; omega)
          have Hcl : Hid (b = false → ∀ e ∈ E, C.getD e.1.toNat false = true → C.getD e.2.toNat false = true) := hid fun h e he hb => by
            obtain ⟨h1, h2⟩ := Hbf.out h
            obtain ⟨j, hj⟩ := List.getElem?_of_mem he
            rw [h1] at hb ⊢
            exact h2 j e (List.getElem?_eq_some_iff.1 hj).1 hj hb
          go_wp2
          go_roundw
          case rel => exact ⟨C, b, rfl, HSC.out, HRC.out, Hcl.out, Hxc.out⟩
          case measure => have h1 := HMn.out; have h2 := HM.out; simp only [if_true] at h2; omega
def MutR (E : List (Int × Int)) (a b : Int) : Prop := Rch E a b ∧ Rch E b a
section
variable {E : List (Int × Int)} {n : Nat}
theorem MutR.refl (E : List (Int × Int)) (a : Int) : MutR E a a := ⟨.refl, .refl⟩
theorem MutR.symm {a b : Int} (h : MutR E a b) : MutR E b a := ⟨h.2, h.1⟩
theorem MutR.trans {a b c : Int} (h : MutR E a b) (g : MutR E b c) : MutR E a c := ⟨h.1.trans g.1, g.2.trans h.2⟩
structure GrpL (n : Nat) (E : List (Int × Int)) (G : List Int) : Prop where
  len : G.length = n
  at_ : ∀ i : Nat, i < n → ∃ k : Nat, G[i]? = some (k : Int) ∧ k ≤ i ∧ MutR E (k : Int) (i : Int) ∧ ∀ j : Nat, j < k → ¬ MutR E (j : Int) (i : Int)
theorem least_uniq {i k q : Nat} (h1 : MutR E (k : Int) (i : Int)) (h2 : ∀ j : Nat, j < k → ¬ MutR E (j : Int) (i : Int)) (g1 : MutR E (q : Int) (i : Int)) (g2 : ∀ j : Nat, j < q → ¬ MutR E (j : Int) (i : Int)) : k = q := by
  rcases Nat.lt_trichotomy k q with h | h | h
  · exact absurd h1 (g2 k h)
  · exact h
  · exact absurd g1 (h2 q h)
theorem GrpL.uniq {G H : List Int} (h : GrpL n E G) (g : GrpL n E H) : G = H := by
  refine List.ext_getElem? fun i => ?_
  rcases Nat.lt_or_ge i n with hi | hi
  · obtain ⟨k, h1, _, h3, h4⟩ := h.at_ i hi
    obtain ⟨q, g1, _, g3, g4⟩ := g.at_ i hi
    rw [h1, g1, least_uniq h3 h4 g3 g4]
  · rw [List.getElem?_eq_none (by rw [h.len]; exact hi), List.getElem?_eq_none (by rw [g.len]; exact hi)]
structure GrpUp (n : Nat) (E : List (Int × Int)) (k : Nat) (G : List Int) : Prop where
  len : G.length = n
  at_ : ∀ i : Nat, i < n → (∃ j : Nat, j < k ∧ G[i]? = some (j : Int) ∧ MutR E (j : Int) (i : Int) ∧ ∀ q : Nat, q < j → ¬ MutR E (q : Int) (i : Int)) ∨ (G[i]? = some (-1) ∧ ∀ j : Nat, j < k → ¬ MutR E (j : Int) (i : Int))
theorem GrpUp.begin (n : Nat) (E : List (Int × Int)) : GrpUp n E 0 (List.replicate n (-1)) :=
  ⟨List.length_replicate, fun i hi => .inr ⟨by rw [List.getElem?_replicate, if_pos hi], fun j hj => absurd hj (Nat.not_lt_zero _)⟩⟩
theorem GrpUp.done {G : List Int} (h : GrpUp n E n G) : GrpL n E G := ⟨h.len, fun i hi => by
  rcases h.at_ i hi with ⟨j, h1, h2, h3, h4⟩ | ⟨_, h2⟩
  · refine ⟨j, h2, ?_, h3, h4⟩
    rcases Nat.lt_or_ge i j with g | g
    · exact absurd (MutR.refl E (i : Int)) (h4 i g)
    · exact g
  · exact absurd (MutR.refl E (i : Int)) (h2 i hi)⟩
theorem GrpUp.skip {k : Nat} {G : List Int} {v : Int} (h : GrpUp n E k G) (hk : k < n) (hv : G[k]? = some v) (h0 : 0 ≤ v) : GrpUp n E (k + 1) G := by
  refine ⟨h.len, fun i hi => ?_⟩
  rcases h.at_ i hi with ⟨j, h1, h2⟩ | ⟨h1, h2⟩
  · exact .inl ⟨j, by omega, h2⟩
  · refine .inr ⟨h1, fun j hj hm => ?_⟩
    rcases Nat.lt_or_ge j k with g | g
    · exact h2 j g hm
    · obtain rfl : j = k := by omega
      rcases h.at_ j hk with ⟨q, g1, g2, g3, _⟩ | ⟨g1, _⟩
      · exact h2 q g1 (g3.trans hm)
      · rw [g1] at hv
        have := Option.some.inj hv
        omega
structure GrpIn (n : Nat) (E : List (Int × Int)) (k q : Nat) (G : List Int) : Prop where
  len : G.length = n
  lo : ∀ i : Nat, i < n → i < q → (∃ j : Nat, j < k + 1 ∧ G[i]? = some (j : Int) ∧ MutR E (j : Int) (i : Int) ∧ ∀ q : Nat, q < j → ¬ MutR E (q : Int) (i : Int)) ∨ (G[i]? = some (-1) ∧ ∀ j : Nat, j < k + 1 → ¬ MutR E (j : Int) (i : Int))
  hi : ∀ i : Nat, i < n → q ≤ i → (∃ j : Nat, j < k ∧ G[i]? = some (j : Int) ∧ MutR E (j : Int) (i : Int) ∧ ∀ q : Nat, q < j → ¬ MutR E (q : Int) (i : Int)) ∨ (G[i]? = some (-1) ∧ ∀ j : Nat, j < k → ¬ MutR E (j : Int) (i : Int))
theorem GrpUp.into {k : Nat} {G : List Int} (h : GrpUp n E k G) : GrpIn n E k 0 G := ⟨h.len, fun _ _ h => absurd h (Nat.not_lt_zero _), fun i hi _ => h.at_ i hi⟩
theorem GrpIn.out {k : Nat} {G : List Int} (h : GrpIn n E k n G) : GrpUp n E (k + 1) G := ⟨h.len, fun i hi => h.lo i hi hi⟩
theorem GrpIn.no {k q : Nat} {G : List Int} (h : GrpIn n E k q G) (hm : ¬ MutR E (k : Int) (q : Int)) : GrpIn n E k (q + 1) G := by
  refine ⟨h.len, fun i hi hiq => ?_, fun i hi hiq => h.hi i hi (by omega)⟩
  rcases Nat.lt_or_ge i q with g | g
  · exact h.lo i hi g
  · obtain rfl : i = q := by omega
    rcases h.hi i hi (Nat.le_refl _) with ⟨j, h1, h2⟩ | ⟨h1, h2⟩
    · exact .inl ⟨j, by omega, h2⟩
    · refine .inr ⟨h1, fun j hj hjm => ?_⟩
      rcases Nat.lt_or_ge j k with g2 | g2
      · exact h2 j g2 hjm
      · obtain rfl : j = k := by omega
        exact hm hjm
theorem GrpIn.yes {k q : Nat} {G : List Int} (h : GrpIn n E k q G) (hq : q < n) (hk : ∀ j : Nat, j < k → ¬ MutR E (j : Int) (k : Int)) (hm : MutR E (k : Int) (q : Int)) : GrpIn n E k (q + 1) (G.set q (k : Int)) := by
  have hql : q < G.length := by rw [h.len]; exact hq
  have hs : ∀ i, i ≠ q → (G.set q (k : Int))[i]? = G[i]? := fun i hi => by rw [List.getElem?_set]; rw [if_neg (fun e => hi e.symm)]
  refine ⟨by rw [List.length_set]; exact h.len, fun i hi hiq => ?_, fun i hi hiq => ?_⟩
  · rcases Nat.lt_or_ge i q with g | g
    · rw [hs i (by omega)]
      exact h.lo i hi g
    · obtain rfl : i = q := by omega
      refine .inl ⟨k, by omega, ?_, hm, fun j hj hjm => hk j hj (hjm.trans hm.symm)⟩
      rw [List.getElem?_set, if_pos rfl, if_pos hql]
  · rw [hs i (by omega)]
    exact h.hi i hi (by omega)
theorem GrpUp.new {k : Nat} {G : List Int} {v : Int} (h : GrpUp n E k G) (hk : k < n) (hv : G[k]? = some v) (h0 : v < 0) : ∀ j : Nat, j < k → ¬ MutR E (j : Int) (k : Int) := by
  rcases h.at_ k hk with ⟨j, _, h2, _⟩ | ⟨_, h2⟩
  · rw [h2] at hv
    have := Option.some.inj hv
    omega
  · exact h2
theorem GrpL.same {G : List Int} (h : GrpL n E G) {i j : Nat} (hi : i < n) (hj : j < n) : (G[i]? = G[j]?) ↔ MutR E (i : Int) (j : Int) := by
  obtain ⟨k, h1, _, h3, h4⟩ := h.at_ i hi
  obtain ⟨q, g1, _, g3, g4⟩ := h.at_ j hj
  rw [h1, g1]
  constructor
  · intro e
    have := Option.some.inj e
    have e2 : k = q := by omega
    subst e2
    exact h3.symm.trans g3
  · intro hm
    have := least_uniq (i := j) (h3.trans hm) (fun x hx hxm => h4 x hx (hxm.trans hm.symm)) g3 g4
    rw [this]
theorem GrpL.rep {G : List Int} (h : GrpL n E G) {i k : Nat} (hi : i < n) (hk : G[i]? = some (k : Int)) : k ≤ i ∧ G[k]? = some (k : Int) := by
  obtain ⟨q, h1, h2, h3, h4⟩ := h.at_ i hi
  rw [h1] at hk
  have := Option.some.inj hk
  obtain rfl : q = k := by omega
  refine ⟨h2, ?_⟩
  rw [← h1]
  exact (h.same (by omega) hi).2 h3
end
end Go.Proofs.YtihdpijgngooaaaGreatDoor
namespace Go.Proofs
open Go.Shelf
def Tryz.lays212_ren : Go.Shelf.Ren := ⟨fun | 212 => 88 | 263 => 116 | 264 => 117 | n => n, fun | 46 => 142 | 51 => 175 | 146 => 176 | 53 => 178 | 148 => 179 | n => n, fun | n => n⟩
theorem Tryz.lays212 : Go.Proofs.Lays.n212 Tryz.prog Tryz.lays212_ren := {
  mixed := by kernel_rfl
  f212 := Tryz.func88.trans (congrArg some (by kernel_rfl))
  f263 := Tryz.func116.trans (congrArg some (by kernel_rfl))
  f264 := Tryz.func117.trans (congrArg some (by kernel_rfl))
  t46 := Tryz.underlying142
  a46 := Tryz.isAgg142
  z46 := Tryz.sizeOf142
  v46 := Tryz.zeroValue142
  t51 := Tryz.underlying175
  a51 := Tryz.isAgg175
  z51 := Tryz.sizeOf175
  v51 := Tryz.zeroValue175
  t53 := Tryz.underlying178
  a53 := Tryz.isAgg178
  z53 := Tryz.sizeOf178
  v53 := Tryz.zeroValue178
  t146 := Tryz.underlying176
  a146 := Tryz.isAgg176
  z146 := Tryz.sizeOf176
  v146 := Tryz.zeroValue176
  t148 := Tryz.underlying179
  a148 := Tryz.isAgg179
  z148 := Tryz.sizeOf179
  v148 := Tryz.zeroValue179 }
open Go.RowKit Go.Lib in
theorem Tryz.bits_Mul (x y : Nat) (hx : x < 18446744073709551616) (hy : y < 18446744073709551616) (w : World) :
    Calls Tryz.prog 88 #[.int .u64 x, .int .u64 y] w fun e w' => e = .returned (.tuple #[.int .u64 ((x * y / 18446744073709551616 : Nat) : Int), .int .u64 ((x * y % 18446744073709551616 : Nat) : Int)]) ∧ w' = w := Any.bits_Mul Tryz.lays212 x y hx hy w
def Tryz.laysNm223_ren : Go.Shelf.Ren := ⟨fun | 23 => 69 | n => n, fun | 22 => 43 | 3 => 3 | 4 => 4 | 0 => 0 | n => n, fun | n => n⟩
theorem Tryz.laysNm223 : Go.Proofs.Lays2.n23 Tryz.prog Tryz.laysNm223_ren := {
  mixed := by kernel_rfl
  f23 := Tryz.func69.trans (congrArg some (by kernel_rfl))
  t0 := Tryz.underlying0
  a0 := Tryz.isAgg0
  z0 := Tryz.sizeOf0
  v0 := Tryz.zeroValue0
  t3 := Tryz.underlying3
  a3 := Tryz.isAgg3
  z3 := Tryz.sizeOf3
  v3 := Tryz.zeroValue3
  t4 := Tryz.underlying4
  a4 := Tryz.isAgg4
  z4 := Tryz.sizeOf4
  v4 := Tryz.zeroValue4
  t22 := Tryz.underlying43
  a22 := Tryz.isAgg43
  z22 := Tryz.sizeOf43
  v22 := Tryz.zeroValue43
  i3 := by kernel_rfl }
open Go.RowKit Go.Lib Go.Sort in
theorem Tryz.slices_Delete_int (blk off cap i j : Nat) (zs : List Int) (w : World) (hH : Holds (Value.int .i64) w blk off zs.toArray) (hcap : zs.length ≤ cap) (hm : cap ≤ 9223372036854775807) (hij : i ≤ j) (hj : j ≤ zs.length) :
    Calls Tryz.prog 69 #[.slice (some ⟨blk, off, none⟩) zs.length cap, .int .i64 i, .int .i64 j] w fun e w' => e = .returned (.slice (some ⟨blk, off, none⟩) (zs.length - (j - i)) cap) ∧ ∃ q, w' = putRow (Value.int .i64) (Sort.ahead w q) blk off (zs.take i ++ zs.drop j ++ List.replicate (j - i) 0).toArray := Any.slices_Delete_int Tryz.laysNm223 blk off cap i j zs w hH hcap hm hij hj
end Go.Proofs
namespace Go.Proofs.YtihdpijgngooaaaGreatDoor
open Go Go.RowKit
theorem mul_oneI (n : Nat) (h : n ≤ 1000) (w : World) : Calls Tryz.prog 88 #[.int .u64 1, .int .u64 (n : Int)] w fun e w' => e = .returned (.tuple #[.int .u64 0, .int .u64 (n : Int)]) ∧ w = w' :=
  (Tryz.bits_Mul 1 n (by decide) (by omega) w).mono fun e w' ⟨h1, h2⟩ => ⟨by
    rw [h1, Nat.one_mul, Nat.div_eq_of_lt (by omega), Nat.mod_eq_of_lt (by omega)]; rfl, h2.symm⟩
def filledI (n k : Nat) : List Value := List.replicate k (.int .i64 (-1)) ++ List.replicate (n - k) (.int .i64 0)
theorem filledI_len {n k : Nat} (h : k ≤ n) : (filledI n k).length = n := by simp [filledI]; omega
theorem filledI_more {n k m : Nat} (h : k + m ≤ n) : (filledI n k).take k ++ List.replicate m (Value.int .i64 (-1)) ++ (filledI n k).drop (k + m) = filledI n (k + m) := by
  unfold filledI
  rw [List.take_left' (by simp)]
  have : (List.replicate k (Value.int .i64 (-1)) ++ List.replicate (n - k) (Value.int .i64 0)).drop (k + m) = List.replicate (n - (k + m)) (.int .i64 0) := by
    rw [List.drop_append, List.drop_of_length_le (by simp), List.length_replicate, List.drop_replicate]
    simp only [List.nil_append]
    congr 1
    omega
  rw [this, List.replicate_append_replicate]
set_option maxRecDepth 100000 in
set_option maxHeartbeats 3200000 in
theorem repeati_pos (n b : Nat) (h1 : 1 ≤ n) (h2 : n ≤ 1000) (w : World) (hb : Blk w b #[.int .i64 (-1)] 3) :
    Calls Tryz.prog 58 #[.slice (some ⟨b, 0, none⟩) 1 1, .int .i64 (n : Int)] w fun e w' => ∃ b2, e = .returned (.slice (some ⟨b2, 0, none⟩) n n) ∧ Blk w' b2 (filledI n n).toArray 3 ∧ Ext w w' ∧ w.heap.size ≤ b2 := by
  obtain ⟨ti, hi, hz0, hz1, hz2⟩ := info_parts int_info1
  have hblt := hb.lt
  have hmk := run_make (P := Tryz.prog) w 43 3 ti (.int .i64 0) Tryz.underlying43 hi hz0 .i64 .i64 (n : Int) (n : Int) (by omega) (by omega) (by rw [hz2]; omega) (by omega)
  have hmc : madeCells (Value.int .i64 0).cells ((n : Int).toNat * ti.size) = (filledI n 0).toArray := by
    rw [hz1, Int.toNat_natCast, Nat.mul_one]
    apply Array.ext'
    rw [show (Value.int .i64 0).cells = #[.int .i64 0] from rfl, toList_madeCells_one]
    simp [filledI]
  rw [hmc, Int.toNat_natCast] at hmk
  have hb' := hb.alloc (.cells (filledI n 0).toArray 3)
  have hnew := Blk.new w (filledI n 0).toArray 3
  have hx := (Ext.refl w).alloc (.cells (filledI n 0).toArray 3)
  obtain ⟨N, hN⟩ : ∃ N, N = w.heap.size := ⟨_, rfl⟩
  rw [← hN] at hmk hnew
  clear hmc
  have hsz1 : (Tryz.prog.info? 3).map (·.size) = some 1 := by rw [hi]; simp [hz1]
  have hcp := fun ty => run_copy_row Tryz.prog (w.alloc (.cells (filledI n 0).toArray 3)) 43 43 ty 3 N 0 n n ⟨b, 0, none⟩ 1 1 (filledI n 0).toArray 3 [.int .i64 (-1)] Tryz.underlying43 hsz1 hnew (by show 1 = Nat.min 1 n; exact (Nat.min_eq_left (by omega)).symm)
    (fun j v hj => by
      cases j with
      | zero => simp at hj; subst hj; exact hb'.cell 0
      | succ j => simp at hj) (by simp [filledI_len]; omega) (by simp [Value.oneCell'])
  have hrow : ((filledI n 0).toArray.toList.take 0 ++ [Value.int .i64 (-1)] ++ (filledI n 0).toArray.toList.drop (0 + [Value.int .i64 (-1)].length)) = filledI n 1 := by
    have := filledI_more (n := n) (k := 0) (m := 1) (by omega)
    simpa using this
  rw [hrow] at hcp
  have hset := setRow_blk hnew (filledI n 1).toArray
  have hkeep := setRow_keep (w.alloc (.cells (filledI n 0).toArray 3)) N (filledI n 1).toArray
  have hx1 : Ext w ((w.alloc (.cells (filledI n 0).toArray 3)).setRow N (filledI n 1).toArray) := Keep.new hx hkeep fun k hk => by rw [hk, hN]; exact Nat.le_refl _
  have HN := hid hN
  have hgo : goInt 1 = .int .i64 1 := rfl
  generalize hW1 : (w.alloc (.cells (filledI n 0).toArray 3)).setRow N (filledI n 1).toArray = W1 at *
  generalize hW0 : w.alloc (.cells (filledI n 0).toArray 3) = W0 at *
  clear hrow hkeep hx hW1 hW0 hN hnew hb'
  go_enter Tryz.func58, Tryz.ntmps58
  go_wp2_with (go_at_call 88; refine (mul_oneI n h2 _).mono ?_; rintro e w' ⟨rfl, rfl⟩)
  clear hmk hcp
  go_loopw [8] (fun t8 wr => ∃ k : Nat, t8 = .int .i64 (k : Int) ∧ 1 ≤ k ∧ k ≤ n ∧ Ext w wr ∧ Blk wr N (filledI n k).toArray 3) (fun t8 _ => n - (intOf t8).toNat)
  case atStart => exact ⟨1, rfl, by omega, by omega, hx1, hset⟩
  case round =>
    obtain ⟨k, rfl, hk1, hk2, hxr, hbr⟩ := hrel
    clear hset hx1
    by_cases hlt : k < n
    · have hnk : (n = k) = False := by simp; omega
      go_wp2
      refine wp_flowT (fun g => g = N) (by kernel_rfl) (by kernel_rfl) ?_
      repeat (apply FlowT.d; (intro w1 hk; unfold does; go_simp; (try go_ints); (first | exact DetR.mk | (simp only [↓IntWalk.iteOmega, Oper.doesUpon_value]; exact DetR.mk) | (simp only [↓IntWalk.iteOmega]; go_simp; (try go_ints); exact DetR.mk))); simp only [Act.put, qS0, qS1, qS2])
      obtain ⟨m, hm⟩ : ∃ m, m = min k (n - k) := ⟨_, rfl⟩
      have hm1 : 1 ≤ m ∧ k + m ≤ n := by omega
      have Hm := hid hm
      clear hm
      refine FlowT.v (.int .i64 (m : Int)) (fun w' => Keep (fun g => g = N) wr w' ∧ Blk w' N (filledI n (k + m)).toArray 3) 7 rfl (by kernel_rfl) (fun _ _ h x => ⟨h.1.ext_r x, h.2.ext x⟩) (fun w1 hC hkk => ?_) ?_
      · have hb1 := hbr.ext hC
        refine does_copy rfl (.tmp 41) (.tmp 44) 43 43 rfl 3 Tryz.underlying43 hsz1 N k (n - k) (n - k) (filledI n k).toArray 3 hb1 rfl ⟨N, 0, none⟩ k n (List.replicate m (.int .i64 (-1))) rfl (by rw [List.length_replicate, Hm.out]) (fun j v hj => ?_) (by simp [filledI_len hk2, hm1.2]) (by simp [Value.oneCell']) ?_
        · rw [List.getElem?_replicate] at hj
          split at hj
          · rename_i hjm
            simp only [Option.some.injEq] at hj
            subst hj
            have hjk : j < k := by have := Hm.out; omega
            have := hb1.cell j
            rw [show (⟨N, 0, none⟩ : Addr).add j = ⟨N, j, none⟩ from by by_cases h0 : j = 0 <;> simp [Addr.add, h0], this]
            unfold filledI
            rw [List.getElem?_toArray, List.getElem?_append_left (by simpa using hjk), List.getElem?_replicate, if_pos hjk]
          · cases hj
        · have hkw := (hC.keep (fun g => g = N)).trans (setRow_keep w1 N ((filledI n k).toArray.toList.take k ++ List.replicate m (Value.int .i64 (-1)) ++ (filledI n k).toArray.toList.drop (k + (List.replicate m (Value.int .i64 (-1))).length)).toArray)
          refine ⟨hkw, by simp [goInt], hkw, ?_⟩
          have e : ((filledI n k).toArray.toList.take k ++ List.replicate m (Value.int .i64 (-1)) ++ (filledI n k).toArray.toList.drop (k + (List.replicate m (Value.int .i64 (-1))).length)) = filledI n (k + m) := by rw [List.length_replicate]; exact filledI_more hm1.2
          rw [e]
          have := setRow_blk hb1 (filledI n (k + m)).toArray
          exact this
      simp only [Act.put, qS0, qS1, qS2]
      repeat (apply FlowT.d; (intro w1 hk; unfold does; go_simp; (try go_ints); (first | exact DetR.mk | (simp only [↓IntWalk.iteOmega, Oper.doesUpon_value]; exact DetR.mk) | (simp only [↓IntWalk.iteOmega]; go_simp; (try go_ints); exact DetR.mk))); simp only [Act.put, qS0, qS1, qS2])
      refine FlowT.fin fun w1 hC hkk => ?_
      go_wp2
      go_roundw
      case rel => exact ⟨k + m, by go_num, by omega, by omega, Keep.new hxr hC.1 (fun g hg => by rw [hg, HN.out]; exact Nat.le_refl _), hC.2⟩
      case measure => simp [intOf]; omega
    · obtain rfl : k = n := by omega
      go_wp2
      go_ret
      exact ⟨N, rfl, hbr, hxr, by rw [HN.out]; exact Nat.le_refl _⟩
theorem bools_rinfo : (Tryz.prog.info? 109).map (fun i => (i.zero, i.size, i.bytes)) = some (some (.slice none 0 0), 1, 24) := by kernel_rfl
structure RowsB (w : World) (n : Nat) (E : List (Int × Int)) (vs : List Value) : Prop where
  row : ∀ (i : Nat) v, vs[i]? = some v → ∃ g B, v = .slice (some ⟨g, 0, none⟩) n n ∧ RchB n E (i : Int) B ∧ w.ownsRow 0 4 1 (.slice (some ⟨g, 0, none⟩) n n) n (trCells B)
section
variable {w w' : World} {n : Nat} {E : List (Int × Int)} {vs : List Value}
theorem RowsB.keep {X : Nat → Prop} (h : RowsB w n E vs) (k : Keep X w w') (hX : ∀ b, X b → ¬ IsB w b) : RowsB w' n E vs :=
  ⟨fun i v hv => by
    obtain ⟨g, B, h1, h2, h3⟩ := h.row i v hv
    exact ⟨g, B, h1, h2, row_keep h3 k fun b hb hx => hX b hx (own_ty h3 hb)⟩⟩
theorem RowsB.ext (h : RowsB w n E vs) (x : Ext w w') : RowsB w' n E vs := h.keep (x.keep fun _ => False) fun _ h => h.elim
theorem RowsB.push (h : RowsB w n E vs) {g : Nat} {B : List Bool} (hB : RchB n E ((vs.length : Nat) : Int) B) (hr : w.ownsRow 0 4 1 (.slice (some ⟨g, 0, none⟩) n n) n (trCells B)) : RowsB w n E (vs ++ [.slice (some ⟨g, 0, none⟩) n n]) :=
  ⟨fun i v hv => by
    rcases Nat.lt_trichotomy i vs.length with q | q | q
    · rw [List.getElem?_append_left q] at hv
      exact h.row i v hv
    · subst q
      rw [List.getElem?_concat_length] at hv
      exact ⟨g, B, (Option.some.inj hv).symm, hB, hr⟩
    · rw [List.getElem?_eq_none (by rw [List.length_append, List.length_singleton]; omega)] at hv
      cases hv⟩
end
structure GrpTo (E : List (Int × Int)) (k : Nat) (H : List Int) : Prop where
  len : H.length = k
  at_ : ∀ i : Nat, i < k → ∃ q : Nat, H[i]? = some (q : Int) ∧ q ≤ i ∧ MutR E (q : Int) (i : Int) ∧ ∀ j : Nat, j < q → ¬ MutR E (j : Int) (i : Int)
theorem GrpTo.push {E : List (Int × Int)} {k q : Nat} {H : List Int} (h : GrpTo E k H) (h1 : q ≤ k) (h2 : MutR E (q : Int) (k : Int)) (h3 : ∀ j : Nat, j < q → ¬ MutR E (j : Int) (k : Int)) : GrpTo E (k + 1) (H ++ [(q : Int)]) := by
  refine ⟨by rw [List.length_append, h.len]; rfl, fun i hi => ?_⟩
  by_cases e : i = k
  · subst e
    exact ⟨q, by rw [← h.len, List.getElem?_concat_length], h1, h2, h3⟩
  · obtain ⟨r, r1, r2⟩ := h.at_ i (by omega)
    exact ⟨r, by rw [List.getElem?_append_left (by rw [h.len]; omega)]; exact r1, r2⟩
set_option maxRecDepth 100000 in
set_option maxHeartbeats 3200000 in
theorem rgroupsof_any (n : Nat) (v : Value) (E : List (Int × Int)) (w : World) (n0 : Nat) (hr : EsR w n0 v E) (hE : EIn n E) (hn : n ≤ 1000) (hn0 : n0 ≤ w.heap.size) :
    Calls Tryz.prog 30 #[.int .i64 (n : Int), v] w fun e w' => ∃ a c G, e = .returned (.slice a n c) ∧ GrpL n E G ∧ w'.ownsRow w.heap.size 3 1 (.slice a n c) n (icells G) ∧ Ext w w' := by
  obtain ⟨al, cl, rfl⟩ := hr.form2
  have HR0 := hid hr
  have HE := hid hE
  clear hr hE
  go_enter Tryz.func30, Tryz.ntmps30
  go_wp2
  go_loopw [5, 6] (fun t5 t6 wr => ∃ (k : Nat) (vs : List Value) (aa : Option Addr) (ca : Nat), t6 = .int .i64 (k : Int) ∧ t5 = .slice aa k ca ∧ k ≤ n ∧ vs.length = k ∧ wr.ownsRow w.heap.size 109 1 (.slice aa k ca) k vs ∧ RowsB wr n E vs ∧ Ext w wr) (fun _ t6 _ => n - (intOf t6).toNat)
  case atStart => exact ⟨0, [], none, 0, rfl, rfl, Nat.zero_le _, rfl, World.ownsRow_nil _ _ _ _, ⟨fun i v h => by simp at h⟩, Ext.refl _⟩
  case round =>
    obtain ⟨k, vs, aa, ca, rfl, rfl, hk, hvl, hrow, hB, hx⟩ := hrel
    have Hrow := hid hrow
    have HB := hid hB
    have Hx := hid hx
    have Hvl := hid hvl
    clear hrow hB hx hvl
    by_cases hlt : k < n
    · have HC := hid (rreachof_any n (.slice al E.length cl) E k wr n0 (HR0.out.ext Hx.out) HE.out hlt hn (Nat.le_trans hn0 Hx.out.size))
      obtain ⟨wO, hwO⟩ : ∃ x, x = wr := ⟨_, rfl⟩
      subst hwO
      go_wp2_with fail
      refine HC.out.mono ?_
      intro e w1 hx
      obtain ⟨g, B, rfl, hRB, hT, hg, hx1⟩ := hx
      have hBl : B.length = n := hRB.len
      have HT : Hid (w1.ownsRow 0 4 1 (.slice (some ⟨g, 0, none⟩) n n) n (trCells B)) := hid (by
        unfold TrRow at hT
        rw [hBl] at hT
        exact own_low hT (Nat.zero_le _))
      have HRB := hid hRB
      have Hx1 := hid (Hx.out.trans hx1)
      have Hr1 := hid (own_ext Hrow.out hx1)
      have HB1 := hid (HB.out.ext hx1)
      clear HC hRB hT hg hx1 hBl
      go_wp2_with (at_builtin; refine wpList_append_el w.heap.size (by have := Hx1.out.size; simp; omega) 119 109 (.slice none 0 0) 1 24 Tryz.underlying119 bools_rinfo rfl (by omega) (by omega) rfl _ _ rfl (.slice aa k ca) k vs rfl (own_ext Hr1.out ((Ext.refl _).alloc _)) w1.heap.size [.slice (some ⟨g, 0, none⟩) n n] rfl (by simp [Value.oneCell']) rfl (Blk.new _ _ _) (by omega) ?_; intro v' w' h1 h2 h4; obtain ⟨a', c', rfl⟩ := row_form h1; have HO := hid h1; have HK := hid h2; clear h1 h2 h4)
      have hnB : ∀ b, (Value.slice aa k ca).ownBlock = some b → ¬ IsB (w1.alloc (.cells #[.slice (some ⟨g, 0, none⟩) n n] 109)) b := fun b hb hi => by
        obtain ⟨c, hc⟩ := own_ty (own_ext Hr1.out ((Ext.refl w1).alloc (.cells #[.slice (some ⟨g, 0, none⟩) n n] 109))) hb
        obtain ⟨c', hc'⟩ := hi
        exact hc.ty_ne hc' (by decide) rfl
      have HBn := hid (((HB1.out.push (by rw [Hvl.out]; exact HRB.out) HT.out).ext ((Ext.refl w1).alloc (.cells #[.slice (some ⟨g, 0, none⟩) n n] 109))).keep HK.out hnB)
      have Hxn := hid (Keep.new (Hx1.out.trans ((Ext.refl w1).alloc (.cells #[.slice (some ⟨g, 0, none⟩) n n] 109))) HK.out fun b hb => (World.ownsRow.lt Hr1.out b hb).1)
      clear hnB
      go_roundw
      case rel => exact ⟨k + 1, _, a', c', by go_num, rfl, by omega, by rw [List.length_append, Hvl.out]; rfl, HO.out, HBn.out, Hxn.out⟩
      case measure => simp [intOf]; omega
    · have hkn : n = k := by omega
      subst hkn
      obtain ⟨wz, hwz⟩ : ∃ x, x = wr := ⟨_, rfl⟩
      subst hwz
      go_wp2
      go_loopw [8, 9] (fun t8 t9 wr => ∃ (k : Nat) (H : List Int) (ao : Option Addr) (co : Nat), t9 = .int .i64 (k : Int) ∧ t8 = .slice ao k co ∧ k ≤ n ∧ GrpTo E k H ∧ wr.ownsRow wz.heap.size 3 1 (.slice ao k co) k (icells H) ∧ Ext wz wr) (fun _ t9 _ => n - (intOf t9).toNat)
      case atStart => exact ⟨0, [], none, 0, rfl, rfl, Nat.zero_le _, ⟨rfl, fun i h => by omega⟩, World.ownsRow_nil _ _ _ _, Ext.refl _⟩
      case round =>
        obtain ⟨k, H, ao, co, rfl, rfl, hk, hH, hro, hx2⟩ := hrel
        have HH := hid hH
        have Hro := hid hro
        have Hx2 := hid hx2
        clear hH hro hx2
        by_cases hlt : k < n
        · obtain ⟨ab, hab⟩ : ∃ ab, aa = some ⟨ab, 0, none⟩ := by
            rcases Hrow.out.2 with ⟨_, h2⟩ | ⟨ab, cq, _, h1, _⟩
            · omega
            · exact ⟨ab, (by simpa using h1 : _ ∧ _).1⟩
          subst hab
          have HBw := hid (HB.out.ext Hx2.out)
          have Hroww := hid (own_ext Hrow.out Hx2.out)
          obtain ⟨wO, hwO⟩ : ∃ x, x = wr := ⟨_, rfl⟩
          subst hwO
          obtain ⟨vk, hvk⟩ : ∃ v, vs[k]? = some v := ⟨_, List.getElem?_eq_getElem (by rw [Hvl.out]; exact hlt)⟩
          obtain ⟨gk, Bk, rfl, hRk, hTk⟩ := HBw.out.row k vk hvk
          have Hvk := hid hvk
          have HRk := hid hRk
          have HTk := hid hTk
          clear hvk hRk hTk
          go_wp2
          go_loopw [10] (fun t10 wr => ∃ q : Nat, t10 = .int .i64 (q : Int) ∧ q ≤ k ∧ (∀ j : Nat, j < q → ¬ MutR E (j : Int) (k : Int)) ∧ wr = wO) (fun t10 _ => k - (intOf t10).toNat)
          case atStart => exact ⟨0, rfl, Nat.zero_le _, fun j hj => by omega, rfl⟩
          case round =>
            obtain ⟨q, rfl, hq, hno, rfl⟩ := hrel
            have Hno := hid hno
            clear hno
            obtain ⟨vq, hvq⟩ : ∃ v, vs[q]? = some v := ⟨_, List.getElem?_eq_getElem (by rw [Hvl.out]; omega)⟩
            obtain ⟨gq, Bq, rfl, hRq, hTq⟩ := HBw.out.row q vq hvq
            have m0 := own_get Hroww.out k Hvk.out
            have m1 := own_get Hroww.out q hvq
            have m2 := own_get HTk.out q (trCells_at (by rw [HRk.out.len]; omega))
            have m3 := own_get hTq k (trCells_at (by rw [hRq.len]; exact hlt))
            have hkq := HRk.out.iff q (by omega)
            have hqk := hRq.iff k hlt
            have hkk := HRk.out.iff k hlt
            obtain ⟨x1, hx1⟩ : ∃ x1, x1 = Bk.getD q false := ⟨_, rfl⟩
            obtain ⟨x2, hx2⟩ : ∃ x2, x2 = Bq.getD k false := ⟨_, rfl⟩
            rw [← hx1] at m2 hkq
            rw [← hx2] at m3 hqk
            have hqn : q < n := by omega
            have Hkq := hid hkq
            have Hqk := hid hqk
            have Hstep : Hid (¬ (x1 = true ∧ x2 = true) → q < k ∧ ∀ j : Nat, j < q + 1 → ¬ MutR E (j : Int) (k : Int)) := hid fun hnb => by
              have hnm : ¬ MutR E (q : Int) (k : Int) := fun h => hnb ⟨Hkq.out.2 h.2, Hqk.out.2 h.1⟩
              have hne : q ≠ k := fun e => hnm (by rw [e]; exact MutR.refl _ _)
              refine ⟨by omega, fun j hj => ?_⟩
              by_cases e : j = q
              · rw [e]; exact hnm
              · exact Hno.out j (by omega)
            clear hvq hRq hTq hkq hqk hkk hx1 hx2
            cases x1 with
            | false =>
              obtain ⟨hlt2, hno2⟩ := Hstep.out (by simp)
              have Hno2 := hid hno2
              clear hno2 m3
              go_wp2
              go_roundw
              case rel => exact ⟨q + 1, by go_num, by omega, Hno2.out, by trivial⟩
              case measure => simp [intOf]; omega
            | true =>
              cases x2 with
              | false =>
                obtain ⟨hlt2, hno2⟩ := Hstep.out (by simp)
                have Hno2 := hid hno2
                clear hno2
                go_wp2
                go_roundw
                case rel => exact ⟨q + 1, by go_num, by omega, Hno2.out, by trivial⟩
                case measure => simp [intOf]; omega
              | true =>
                have HHn := hid (HH.out.push hq ⟨Hqk.out.1 rfl, Hkq.out.1 rfl⟩ Hno.out)
                go_wp2_with (at_builtin; refine wpList_append_el wz.heap.size (by have := Hx2.out.size; simp; omega) 43 3 (.int .i64 0) 1 8 Tryz.underlying43 int_info1 rfl (by omega) (by omega) rfl _ _ rfl (.slice ao k co) k (icells H) rfl (own_ext Hro.out ((Ext.refl _).alloc _)) wr.heap.size [.int .i64 (q : Int)] rfl (by simp [Value.oneCell']) rfl (Blk.new _ _ _) (by omega) ?_; intro v' w' h1 h2 h4; obtain ⟨a', c', rfl⟩ := row_form h1; have HO := hid h1; have HK := hid h2; clear h1 h2 h4)
                have Hxn := hid (Keep.new (Hx2.out.trans ((Ext.refl wr).alloc (.cells #[.int .i64 (q : Int)] 3))) HK.out fun b hb => (World.ownsRow.lt Hro.out b hb).1)
                go_roundw
                case rel => exact ⟨k + 1, _, a', c', by go_num, rfl, by omega, HHn.out, by rw [icells_append]; exact HO.out, Hxn.out⟩
                case measure => simp [intOf]; omega
        · have hkn : n = k := by omega
          subst hkn
          have HG : Hid (GrpL n E H) := hid ⟨HH.out.len, HH.out.at_⟩
          have Hrz := hid (own_low (b2 := w.heap.size) Hro.out Hx.out.size)
          have Hxz := hid (Hx.out.trans Hx2.out)
          go_wp2
          go_ret
          exact ⟨ao, co, H, rfl, HG.out, Hrz.out, Hxz.out⟩
end Go.Proofs.YtihdpijgngooaaaGreatDoor
