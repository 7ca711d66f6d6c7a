/- Texts of one proof, put together: ZZXf ZZXg ZZXh ZZXb SQ ZZXi ZZXj SR ZZXk ZZXc ZZXl. -/
import Derived.Test.YtngdpnlgnpdkcaaGreatDoorHCY01
import Derived.Test.YtngdpnlgnpdkcaaGreatDoorHCY03
import Derived.Test.YtngdpnlgnpdkcaaGreatDoorHCY04
import Derived.Test.YtngdpnlgnpdkcaaGreatDoorHCY05
import Derived.Shelf.Strings.Trim
import Derived.Shelf.Small.Utf8
import Derived.Shelf.Small.Bits
import Derived.Shelf.Small.Strs
import Derived.Shelf.Small.Wraps
import Derived.Shelf.Strconv.Itoa0
import Derived.Shelf.Strings.Search1
import Derived.Shelf.Sort.Plain
import Derived.Shelf.Unicode.Decode
import Derived.Shelf.Strings.Runes
import Derived.Shelf.Strings.AsciiSet
import Derived.Shelf.Bits.Mul64
import Derived.Shelf.Unicode.DecodeSlow
import Derived.Shelf.Unicode.DecodeAny
import Derived.Shelf.Unicode.DecodeLast
import Derived.Shelf.Slices.Turned
import Derived.Shelf.Slices.Equal
import Derived.Shelf.Slices.Clone
import Derived.Shelf.Slices.CompactI
import Derived.Shelf.Slices.SearchI
import Derived.Shelf.Slices.Delete
import Derived.Shelf.Slices.Cells
import Derived.Shelf.Slices.In.SortNone
import Derived.Shelf.Slices.Empties
import Derived.Shelf.Slices.Empties2
import Derived.Shelf.SlicesE.Delete
import Derived.Shelf.SlicesE.Clone
import Derived.Test.YtngdpnlgnpdkcaaGreatDoorProg
import Derived.Shelf.SlIterI.Sorted
import Derived.RangeFuncBox
import Derived.RangeFuncLeaves
import Derived.RangeFuncBound
import Derived.OwnWalkIn
import Derived.TacticsInMore
import Derived.LoopNIn
import Derived.LoopIn
set_option linter.unusedSimpArgs false
set_option linter.unusedVariables false
namespace Go.Proofs.YtngdpnlgnpdkcaaGreatDoor
open Go Go.RowKit
theorem bool_info : (Tryz.prog.info? 4).map (fun i => (i.zero, i.size, i.bytes)) = some (some (.bool false), 1, 1) := by kernel_rfl
theorem rep_cells (n : Nat) : trCells (List.replicate n false) = List.replicate n (Value.bool false) := by
  unfold trCells
  rw [List.map_replicate]
theorem list_last {T : List Int} (h : T ≠ []) : ∃ T' k, T = T' ++ [k] := ⟨T.dropLast, T.getLast h, (List.dropLast_concat_getLast h).symm⟩
def memRow (w : World) (g n : Nat) : List Bool := (List.range n).map fun i : Nat => match w.cell? ⟨g, i, none⟩ with | some (.bool b) => b | _ => false
theorem memRow_eq {w : World} {base g n cap : Nat} {B : List Bool} (h : w.ownsRow base 4 1 (.slice (some ⟨g, 0, none⟩) n cap) n (trCells B)) (hl : B.length = n) : memRow w g n = B := by
  refine List.ext_getElem (by unfold memRow; rw [List.length_map, List.length_range, hl]) fun i h1 h2 => ?_
  have hc := own_get h i (trCells_at h2)
  simp only [memRow, List.getElem_map, List.getElem_range, hc]
  rw [List.getD_eq_getElem?_getD, List.getElem?_eq_getElem h2]; rfl
def sliceLen (v : Value) : Nat := match v with | .slice _ n _ => n | _ => 0
def rchMes (n : Nat) (E : List (Int × Int)) (g : Nat) (v : Value) (w : World) : Nat := falses (memRow w g n) * (E.length + 2) + sliceLen v
set_option maxRecDepth 100000 in
set_option maxHeartbeats 6400000 in
theorem cyclereach_any (n : Nat) (m : Nat) (E : List (Int × Int)) (a : Nat) (w : World) (base : Nat) (hN : NextAt w base m E) (hE : EIn n E) (ha : a < n) (hn : n ≤ 1000) (hl : E.length ≤ 100000) :
    Calls Tryz.prog 76 #[.int .i64 (n : Int), .map (some m), .int .i64 (a : Int)] w fun e w' => ∃ g B, e = .returned (.slice (some ⟨g, 0, none⟩) n n) ∧ RchB n E (a : Int) B ∧ TrRow w.heap.size w' (.slice (some ⟨g, 0, none⟩) n n) B ∧ Ext w w' := by
  obtain ⟨f, hB⟩ := hN
  have HB := hid hB
  have HE := hid hE
  obtain ⟨bi, hbi, hbz, hbs, hbb⟩ := info_parts bool_info
  clear hB hE
  go_enter Tryz.func76, Tryz.ntmps76
  go_wp2_with (at_make; refine wpList_make_full w rfl _ _ _ rfl w.heap.size 4 bi (.bool false) 1 Tryz.underlying133 hbi hbz hbs .i64 .i64 (n : Int) (n : Int) n rfl rfl rfl rfl (by rw [hbb]; omega) (by unfold maxLen; omega) (Nat.le_refl _) ?_; intro w3 hrow hgr)
  have hx3 : Ext w w3 := Keep.new (Ext.refl w) (grown_keep hgr) (fun k hk => by cases hk)
  rw [show (Value.bool false).cells = #[Value.bool false] from rfl, toList_madeCells_one, Nat.mul_one] at hrow
  have Hs : Hid (TrRow w.heap.size w3 (.slice (some ⟨w.heap.size, 0, none⟩) n n) (List.replicate n false)) := hid (by
    unfold TrRow
    rw [List.length_replicate, rep_cells]
    exact hrow)
  obtain ⟨g, hg⟩ : ∃ g, g = w.heap.size := ⟨_, rfl⟩
  have Hg := hid hg
  rw [← hg] at Hs ⊢
  obtain ⟨W4, hW4⟩ : ∃ W4, W4 = w3.alloc (.cells #[.int .i64 (a : Int)] 3) := ⟨_, rfl⟩
  have hx4 : Ext w3 W4 := by rw [hW4]; exact (Ext.refl _).alloc _
  have HX4 := hid (hx3.trans hx4)
  have Hs4 : Hid (TrRow g W4 (.slice (some ⟨g, 0, none⟩) n n) (List.replicate n false)) := hid (own_ext Hs.out hx4)
  have hb4 : Blk W4 w3.heap.size #[.int .i64 (a : Int)] 3 := by rw [hW4]; exact Blk.new _ _ _
  have Ht4 : Hid (W4.ownsRow w.heap.size 3 1 (.slice (some ⟨w3.heap.size, 0, none⟩) 1 1) [(a : Int)].length (icells [(a : Int)])) := hid (own_of_blk hb4 hx3.size (Nat.le_refl _) (by unfold maxLen; omega) rfl rfl)
  have HW4 := hid hW4
  clear hrow hgr hx3 hbi hbz hbs hbb hg hW4 hx4 hb4 Hs
  go_wp2
  rw [← HW4.out]
  go_loopw [8] (fun t8 wr => ∃ (B : List Bool) (T : List Int) (a8 : Option Addr) (c8 : Nat), t8 = .slice a8 T.length c8 ∧ Srch n E (a : Int) B T ∧ wr.ownsRow g 4 1 (.slice (some ⟨g, 0, none⟩) n n) n (trCells B) ∧ wr.ownsRow w.heap.size 3 1 (.slice a8 T.length c8) T.length (icells T) ∧ Ext w wr) (fun t8 wr => rchMes n E g t8 wr)
  case atStart => exact ⟨_, _, _, _, rfl, Srch.begin n E (a : Int), by have := Hs4.out; unfold TrRow at this; rw [List.length_replicate] at this; exact this, Ht4.out, HX4.out⟩
  case round =>
    clear Hs4 Ht4
    obtain ⟨B, T, a8, c8, rfl, hS, hR, hT, hx⟩ := hrel
    have HS := hid hS
    have HR := hid hR
    have HT := hid hT
    have Hx := hid hx
    have hsm := hS.small
    have hM := memRow_eq hR hS.len
    have HM : Hid (rchMes n E g (.slice a8 T.length c8) wr = falses B * (E.length + 2) + T.length) := hid (by unfold rchMes sliceLen; rw [hM])
    clear hS hR hT hx hM
    by_cases hne : T = []
    · subst hne
      have HD := hid (HS.out.done HE.out (by omega))
      have HRz : Hid (TrRow w.heap.size wr (.slice (some ⟨g, 0, none⟩) n n) B) := hid (by unfold TrRow; rw [HS.out.len, ← Hg.out]; exact HR.out)
      go_wp2
      go_ret
      exact ⟨g, B, rfl, HD.out, HRz.out, Hx.out⟩
    · obtain ⟨T', k, rfl⟩ := list_last hne
      have hk := HS.out.todo k (List.mem_append_right _ List.mem_cons_self)
      obtain ⟨K, rfl⟩ := Int.eq_ofNat_of_zero_le (hk.inn HE.out (by omega)).1
      have hK : K < n := by have := (hk.inn HE.out (by omega)).2; omega
      have hlen : (T' ++ [(K : Int)]).length = T'.length + 1 := by rw [List.length_append, List.length_singleton]
      have HT2 := HT.out
      rw [hlen] at HT2 HM hsm
      rw [hlen]
      obtain ⟨g8, cc, hge⟩ := own_some HT2 (by omega)
      simp only [Value.slice.injEq] at hge
      obtain ⟨rfl, -, rfl⟩ := hge
      have q0 := own_get HT2 T'.length (show (icells (T' ++ [(K : Int)]))[T'.length]? = some (.int .i64 (K : Int)) by unfold icells; rw [List.getElem?_map, List.getElem?_concat_length]; rfl)
      have HTc : Hid (wr.ownsRow w.heap.size 3 1 (.slice (some ⟨g8, 0, none⟩) T'.length c8) T'.length (icells T')) := hid (by
        have := own_cut HT2 T'.length (by omega)
        rw [Nat.mul_one, icells_append, List.take_left' (by unfold icells; rw [List.length_map])] at this
        exact this)
      have hBl := HS.out.len
      have b0 := own_get HR.out K (trCells_at (by omega))
      have hcap : T'.length + 1 ≤ c8 := by
        obtain ⟨cur, hb, h2, h4, h5, h6, h7⟩ := own_blk HT2
        exact h4
      clear hlen HT2 hne hk HT
      cases hbk : B.getD K false with
      | true =>
        rw [hbk] at b0
        have HSn := hid (HS.out.skip hbk)
        have HMn : Hid (rchMes n E g (.slice (some ⟨g8, 0, none⟩) T'.length c8) wr = falses B * (E.length + 2) + T'.length) := hid (by unfold rchMes sliceLen; rw [memRow_eq HR.out hBl])
        clear hbk
        go_wp2
        go_roundw
        case rel => exact ⟨B, T', _, _, rfl, HSn.out, HR.out, HTc.out, Hx.out⟩
        case measure => rw [HMn.out, HM.out]; omega
      | false =>
        rw [hbk] at b0
        have HSn := hid (HS.out.mark HE.out hK hbk)
        have hfs := falses_set (l := B) (k := K) (by omega) hbk
        have hsn := HSn.out.small
        obtain ⟨ar, cr, hro⟩ := row_form (HB.out.row (K : Int))
        have hkey := look_succ (w := wr.setCell ⟨g, K, none⟩ (.bool true)) (n := (K : Int)) (HB.out.map.keep ((Hx.out.keep (fun q => q = g)).trans ((Keep.refl (fun q => q = g) wr).set rfl _)) (fun e => by have := HB.out.map.lt; have := Hg.out; omega)) (by omega)
        rw [hro] at hkey
        have hsrow : (wr.setCell ⟨g, K, none⟩ (.bool true)).ownsRow base 3 1 (.slice ar (succL E (K : Int)).length cr) (succL E (K : Int)).length (icells (succL E (K : Int))) := by
          rw [← hro]
          exact row_keep (HB.out.row (K : Int)) ((Hx.out.keep (fun q => q = g)).trans ((Keep.refl (fun q => q = g) wr).set rfl _)) fun b hb e => by
            have := (World.ownsRow.lt (HB.out.row (K : Int)) b hb).2
            have := Hg.out
            omega
        have HR2 : Hid ((wr.setCell ⟨g, K, none⟩ (.bool true)).ownsRow g 4 1 (.slice (some ⟨g, 0, none⟩) n n) n (trCells (B.set K true))) := hid (by
          have := own_set HR.out K (by unfold trCells; rw [List.length_map]; omega) (.bool true)
          rw [show (trCells B).set K (.bool true) = trCells (B.set K true) by unfold trCells; rw [List.map_set]] at this
          exact this)
        have HT2 : Hid ((wr.setCell ⟨g, K, none⟩ (.bool true)).ownsRow w.heap.size 3 1 (.slice (some ⟨g8, 0, none⟩) T'.length c8) T'.length (icells T')) := hid (row_keep HTc.out ((Keep.refl (fun q => q = g) wr).set rfl _) fun b hb e => by
          obtain ⟨c, hc⟩ := own_ty HTc.out hb
          obtain ⟨c', hc'⟩ := own_ty HR.out (k := g) rfl
          rw [e] at hc
          exact off_of hc' (by decide) ⟨_, hc⟩)
        have Hsrc := hid (own_src hsrow icells_one)
        have Hb2 : Hid (w.heap.size ≤ (wr.setCell ⟨g, K, none⟩ (.bool true)).heap.size) := hid (Nat.le_trans Hx.out.size ((Keep.refl (fun q => q = g) wr).set (p := ⟨g, K, none⟩) rfl (.bool true)).size)
        have HK2 : Hid (Keep (fun q => q = g) wr (wr.setCell ⟨g, K, none⟩ (.bool true))) := hid ((Keep.refl (fun q => q = g) wr).set rfl _)
        have hlm : T'.length + (succL E (K : Int)).length ≤ 1000000 := by rw [List.length_append] at hsn; omega
        have Hfs := hid hfs
        have f0 : ∃ z, wr.heap[g]? = some z := by
          obtain ⟨c', hc'⟩ := own_ty HR.out (k := g) rfl
          exact ⟨_, hc'⟩
        have fr := (show ∃ c, Blk wr g c 4 from own_ty HR.out (k := g) rfl).elim fun c hc => hc.free K
        clear hbk hfs hsrow hro f0
        go_wp2_with (at_builtin; refine wpList_append_src w.heap.size Hb2.out 43 3 (.int .i64 0) 1 8 Tryz.underlying43 int_info1 rfl (by omega) (by omega) rfl _ _ rfl (.slice (some ⟨g8, 0, none⟩) T'.length c8) T'.length (icells T') rfl HT2.out ar (succL E (K : Int)).length cr (icells (succL E (K : Int))) rfl Hsrc.out hlm ?_; intro v' w' h1 h2 h4; obtain ⟨a', c', rfl⟩ := row_form h1; have HR12 := hid h1; have HK12 := hid h2; clear h1 h2 h4)
        have HRn : Hid (w'.ownsRow g 4 1 (.slice (some ⟨g, 0, none⟩) n n) n (trCells (B.set K true))) := hid (row_keep HR2.out HK12.out fun b hb hb2 => by
          obtain ⟨c, hc⟩ := own_ty HT2.out hb2
          obtain ⟨c', hc'⟩ := own_ty HR2.out hb
          exact off_of hc' (by decide) ⟨_, hc⟩)
        have HMn : Hid (rchMes n E g (.slice a' (T'.length + (succL E (K : Int)).length) c') w' = falses (B.set K true) * (E.length + 2) + (T'.length + (succL E (K : Int)).length)) := hid (by unfold rchMes sliceLen; rw [memRow_eq HRn.out (by rw [List.length_set]; exact hBl)])
        go_roundw
        case rel =>
          refine ⟨B.set K true, T' ++ succL E (K : Int), a', c', by rw [List.length_append], HSn.out, HRn.out, ?_, ?_⟩
          · rw [List.length_append, icells_append]; exact HR12.out
          · refine Keep.new (X := fun q => q = g ∨ (Value.slice (some ⟨g8, 0, none⟩) T'.length c8).ownBlock = some q) Hx.out ((HK2.out.mono fun _ _ h => .inl h).trans (HK12.out.mono fun _ _ h => .inr h)) fun b hb => ?_
            rcases hb with hb | hb
            · rw [hb, Hg.out]; exact Nat.le_refl _
            · exact (World.ownsRow.lt HTc.out b hb).1
        case measure =>
          rw [HMn.out, HM.out, ← Hfs.out, Nat.add_mul]
          have := hsn
          rw [List.length_append] at this
          omega
structure Spr (n : Nat) (E : List (Int × Int)) (a : Int) (B : List Bool) : Prop where
  len : B.length = n
  seen : ∀ i : Nat, B.getD i false = true → Rch E a (i : Int)
  start : B.getD a.toNat false = true
theorem Spr.mark {n : Nat} {E : List (Int × Int)} {a x1 x2 : Int} {B : List Bool} (hE : EIn n E) (h : Spr n E a B) (he : (x1, x2) ∈ E) (h1 : B.getD x1.toNat false = true) : Spr n E a (B.set x2.toNat true) := by
  have hi := hE _ he
  have hl : x2.toNat < B.length := by rw [h.len]; simp only at hi; omega
  refine ⟨by rw [List.length_set]; exact h.len, fun i hb => ?_, ?_⟩
  · rw [getD_set hl] at hb
    by_cases g : i = x2.toNat
    · rw [g, Int.toNat_of_nonneg hi.2.1]
      have := h.seen _ h1
      rw [Int.toNat_of_nonneg hi.1.1] at this
      exact this.step he
    · rw [if_neg g] at hb
      exact h.seen i hb
  · rw [getD_set hl]
    split
    · rfl
    · exact h.start
theorem Spr.done {n : Nat} {E : List (Int × Int)} {a : Int} {B : List Bool} (hE : EIn n E) (h : Spr n E a B) (hc : ∀ e ∈ E, B.getD e.1.toNat false = true → B.getD e.2.toNat false = true) : RchB n E a B := by
  refine ⟨h.len, fun i _ => ⟨h.seen i, fun hr => ?_⟩⟩
  have key : ∀ {b : Int}, Rch E a b → B.getD b.toNat false = true := fun hb => by
    induction hb with
    | refl => exact h.start
    | step _ he ih => exact hc _ he ih
  have := key hr
  rw [Int.toNat_natCast] at this
  exact this
def sprMes (n g : Nat) (v : Value) (w : World) : Nat := 2 * falses (memRow w g n) + match v with | .bool true => 1 | _ => 0
def MutR (E : List (Int × Int)) (a b : Int) : Prop := Rch E a b ∧ Rch E b a
section
variable {E : List (Int × Int)} {n : Nat}
theorem MutR.refl (E : List (Int × Int)) (a : Int) : MutR E a a := ⟨.refl, .refl⟩
theorem MutR.symm {a b : Int} (h : MutR E a b) : MutR E b a := ⟨h.2, h.1⟩
theorem MutR.trans {a b c : Int} (h : MutR E a b) (g : MutR E b c) : MutR E a c := ⟨h.1.trans g.1, g.2.trans h.2⟩
structure GrpL (n : Nat) (E : List (Int × Int)) (G : List Int) : Prop where
  len : G.length = n
  at_ : ∀ i : Nat, i < n → ∃ k : Nat, G[i]? = some (k : Int) ∧ k ≤ i ∧ MutR E (k : Int) (i : Int) ∧ ∀ j : Nat, j < k → ¬ MutR E (j : Int) (i : Int)
theorem least_uniq {i k q : Nat} (h1 : MutR E (k : Int) (i : Int)) (h2 : ∀ j : Nat, j < k → ¬ MutR E (j : Int) (i : Int)) (g1 : MutR E (q : Int) (i : Int)) (g2 : ∀ j : Nat, j < q → ¬ MutR E (j : Int) (i : Int)) : k = q := by
  rcases Nat.lt_trichotomy k q with h | h | h
  · exact absurd h1 (g2 k h)
  · exact h
  · exact absurd g1 (h2 q h)
theorem GrpL.uniq {G H : List Int} (h : GrpL n E G) (g : GrpL n E H) : G = H := by
  refine List.ext_getElem? fun i => ?_
  rcases Nat.lt_or_ge i n with hi | hi
  · obtain ⟨k, h1, _, h3, h4⟩ := h.at_ i hi
    obtain ⟨q, g1, _, g3, g4⟩ := g.at_ i hi
    rw [h1, g1, least_uniq h3 h4 g3 g4]
  · rw [List.getElem?_eq_none (by rw [h.len]; exact hi), List.getElem?_eq_none (by rw [g.len]; exact hi)]
structure GrpUp (n : Nat) (E : List (Int × Int)) (k : Nat) (G : List Int) : Prop where
  len : G.length = n
  at_ : ∀ i : Nat, i < n → (∃ j : Nat, j < k ∧ G[i]? = some (j : Int) ∧ MutR E (j : Int) (i : Int) ∧ ∀ q : Nat, q < j → ¬ MutR E (q : Int) (i : Int)) ∨ (G[i]? = some (-1) ∧ ∀ j : Nat, j < k → ¬ MutR E (j : Int) (i : Int))
theorem GrpUp.begin (n : Nat) (E : List (Int × Int)) : GrpUp n E 0 (List.replicate n (-1)) :=
  ⟨List.length_replicate, fun i hi => .inr ⟨by rw [List.getElem?_replicate, if_pos hi], fun j hj => absurd hj (Nat.not_lt_zero _)⟩⟩
theorem GrpUp.done {G : List Int} (h : GrpUp n E n G) : GrpL n E G := ⟨h.len, fun i hi => by
  rcases h.at_ i hi with ⟨j, h1, h2, h3, h4⟩ | ⟨_, h2⟩
  · refine ⟨j, h2, ?_, h3, h4⟩
    rcases Nat.lt_or_ge i j with g | g
    · exact absurd (MutR.refl E (i : Int)) (h4 i g)
    · exact g
  · exact absurd (MutR.refl E (i : Int)) (h2 i hi)⟩
theorem GrpUp.skip {k : Nat} {G : List Int} {v : Int} (h : GrpUp n E k G) (hk : k < n) (hv : G[k]? = some v) (h0 : 0 ≤ v) : GrpUp n E (k + 1) G := by
  refine ⟨h.len, fun i hi => ?_⟩
  rcases h.at_ i hi with ⟨j, h1, h2⟩ | ⟨h1, h2⟩
  · exact .inl ⟨j, by omega, h2⟩
  · refine .inr ⟨h1, fun j hj hm => ?_⟩
    rcases Nat.lt_or_ge j k with g | g
    · exact h2 j g hm
    · obtain rfl : j = k := by omega
      rcases h.at_ j hk with ⟨q, g1, g2, g3, _⟩ | ⟨g1, _⟩
      · exact h2 q g1 (g3.trans hm)
      · rw [g1] at hv
        have := Option.some.inj hv
        omega
structure GrpIn (n : Nat) (E : List (Int × Int)) (k q : Nat) (G : List Int) : Prop where
  len : G.length = n
  lo : ∀ i : Nat, i < n → i < q → (∃ j : Nat, j < k + 1 ∧ G[i]? = some (j : Int) ∧ MutR E (j : Int) (i : Int) ∧ ∀ q : Nat, q < j → ¬ MutR E (q : Int) (i : Int)) ∨ (G[i]? = some (-1) ∧ ∀ j : Nat, j < k + 1 → ¬ MutR E (j : Int) (i : Int))
  hi : ∀ i : Nat, i < n → q ≤ i → (∃ j : Nat, j < k ∧ G[i]? = some (j : Int) ∧ MutR E (j : Int) (i : Int) ∧ ∀ q : Nat, q < j → ¬ MutR E (q : Int) (i : Int)) ∨ (G[i]? = some (-1) ∧ ∀ j : Nat, j < k → ¬ MutR E (j : Int) (i : Int))
theorem GrpUp.into {k : Nat} {G : List Int} (h : GrpUp n E k G) : GrpIn n E k 0 G := ⟨h.len, fun _ _ h => absurd h (Nat.not_lt_zero _), fun i hi _ => h.at_ i hi⟩
theorem GrpIn.out {k : Nat} {G : List Int} (h : GrpIn n E k n G) : GrpUp n E (k + 1) G := ⟨h.len, fun i hi => h.lo i hi hi⟩
theorem GrpIn.no {k q : Nat} {G : List Int} (h : GrpIn n E k q G) (hm : ¬ MutR E (k : Int) (q : Int)) : GrpIn n E k (q + 1) G := by
  refine ⟨h.len, fun i hi hiq => ?_, fun i hi hiq => h.hi i hi (by omega)⟩
  rcases Nat.lt_or_ge i q with g | g
  · exact h.lo i hi g
  · obtain rfl : i = q := by omega
    rcases h.hi i hi (Nat.le_refl _) with ⟨j, h1, h2⟩ | ⟨h1, h2⟩
    · exact .inl ⟨j, by omega, h2⟩
    · refine .inr ⟨h1, fun j hj hjm => ?_⟩
      rcases Nat.lt_or_ge j k with g2 | g2
      · exact h2 j g2 hjm
      · obtain rfl : j = k := by omega
        exact hm hjm
theorem GrpIn.yes {k q : Nat} {G : List Int} (h : GrpIn n E k q G) (hq : q < n) (hk : ∀ j : Nat, j < k → ¬ MutR E (j : Int) (k : Int)) (hm : MutR E (k : Int) (q : Int)) : GrpIn n E k (q + 1) (G.set q (k : Int)) := by
  have hql : q < G.length := by rw [h.len]; exact hq
  have hs : ∀ i, i ≠ q → (G.set q (k : Int))[i]? = G[i]? := fun i hi => by rw [List.getElem?_set]; rw [if_neg (fun e => hi e.symm)]
  refine ⟨by rw [List.length_set]; exact h.len, fun i hi hiq => ?_, fun i hi hiq => ?_⟩
  · rcases Nat.lt_or_ge i q with g | g
    · rw [hs i (by omega)]
      exact h.lo i hi g
    · obtain rfl : i = q := by omega
      refine .inl ⟨k, by omega, ?_, hm, fun j hj hjm => hk j hj (hjm.trans hm.symm)⟩
      rw [List.getElem?_set, if_pos rfl, if_pos hql]
  · rw [hs i (by omega)]
    exact h.hi i hi (by omega)
theorem GrpUp.new {k : Nat} {G : List Int} {v : Int} (h : GrpUp n E k G) (hk : k < n) (hv : G[k]? = some v) (h0 : v < 0) : ∀ j : Nat, j < k → ¬ MutR E (j : Int) (k : Int) := by
  rcases h.at_ k hk with ⟨j, _, h2, _⟩ | ⟨_, h2⟩
  · rw [h2] at hv
    have := Option.some.inj hv
    omega
  · exact h2
theorem GrpL.same {G : List Int} (h : GrpL n E G) {i j : Nat} (hi : i < n) (hj : j < n) : (G[i]? = G[j]?) ↔ MutR E (i : Int) (j : Int) := by
  obtain ⟨k, h1, _, h3, h4⟩ := h.at_ i hi
  obtain ⟨q, g1, _, g3, g4⟩ := h.at_ j hj
  rw [h1, g1]
  constructor
  · intro e
    have := Option.some.inj e
    have e2 : k = q := by omega
    subst e2
    exact h3.symm.trans g3
  · intro hm
    have := least_uniq (i := j) (h3.trans hm) (fun x hx hxm => h4 x hx (hxm.trans hm.symm)) g3 g4
    rw [this]
theorem GrpL.rep {G : List Int} (h : GrpL n E G) {i k : Nat} (hi : i < n) (hk : G[i]? = some (k : Int)) : k ≤ i ∧ G[k]? = some (k : Int) := by
  obtain ⟨q, h1, h2, h3, h4⟩ := h.at_ i hi
  rw [h1] at hk
  have := Option.some.inj hk
  obtain rfl : q = k := by omega
  refine ⟨h2, ?_⟩
  rw [← h1]
  exact (h.same (by omega) hi).2 h3
end
end Go.Proofs.YtngdpnlgnpdkcaaGreatDoor
namespace Go.Proofs
open Go.Shelf
def Tryz.lays212_ren : Go.Shelf.Ren := ⟨fun | 212 => 112 | 263 => 144 | 264 => 145 | n => n, fun | 46 => 167 | 51 => 205 | 146 => 209 | 53 => 207 | 148 => 211 | n => n, fun | n => n⟩
theorem Tryz.lays212 : Go.Proofs.Lays.n212 Tryz.prog Tryz.lays212_ren := {
  mixed := by kernel_rfl
  f212 := Tryz.func112.trans (congrArg some (by kernel_rfl))
  f263 := Tryz.func144.trans (congrArg some (by kernel_rfl))
  f264 := Tryz.func145.trans (congrArg some (by kernel_rfl))
  t46 := Tryz.underlying167
  a46 := Tryz.isAgg167
  z46 := Tryz.sizeOf167
  v46 := Tryz.zeroValue167
  t51 := Tryz.underlying205
  a51 := Tryz.isAgg205
  z51 := Tryz.sizeOf205
  v51 := Tryz.zeroValue205
  t53 := Tryz.underlying207
  a53 := Tryz.isAgg207
  z53 := Tryz.sizeOf207
  v53 := Tryz.zeroValue207
  t146 := Tryz.underlying209
  a146 := Tryz.isAgg209
  z146 := Tryz.sizeOf209
  v146 := Tryz.zeroValue209
  t148 := Tryz.underlying211
  a148 := Tryz.isAgg211
  z148 := Tryz.sizeOf211
  v148 := Tryz.zeroValue211 }
open Go.RowKit Go.Lib in
theorem Tryz.bits_Mul (x y : Nat) (hx : x < 18446744073709551616) (hy : y < 18446744073709551616) (w : World) :
    Calls Tryz.prog 112 #[.int .u64 x, .int .u64 y] w fun e w' => e = .returned (.tuple #[.int .u64 ((x * y / 18446744073709551616 : Nat) : Int), .int .u64 ((x * y % 18446744073709551616 : Nat) : Int)]) ∧ w' = w := Any.bits_Mul Tryz.lays212 x y hx hy w
def Tryz.laysNm223_ren : Go.Shelf.Ren := ⟨fun | 23 => 68 | n => n, fun | 22 => 43 | 3 => 3 | 4 => 4 | 0 => 0 | n => n, fun | n => n⟩
theorem Tryz.laysNm223 : Go.Proofs.Lays2.n23 Tryz.prog Tryz.laysNm223_ren := {
  mixed := by kernel_rfl
  f23 := Tryz.func68.trans (congrArg some (by kernel_rfl))
  t0 := Tryz.underlying0
  a0 := Tryz.isAgg0
  z0 := Tryz.sizeOf0
  v0 := Tryz.zeroValue0
  t3 := Tryz.underlying3
  a3 := Tryz.isAgg3
  z3 := Tryz.sizeOf3
  v3 := Tryz.zeroValue3
  t4 := Tryz.underlying4
  a4 := Tryz.isAgg4
  z4 := Tryz.sizeOf4
  v4 := Tryz.zeroValue4
  t22 := Tryz.underlying43
  a22 := Tryz.isAgg43
  z22 := Tryz.sizeOf43
  v22 := Tryz.zeroValue43
  i3 := by kernel_rfl }
open Go.RowKit Go.Lib Go.Sort in
theorem Tryz.slices_Delete_int (blk off cap i j : Nat) (zs : List Int) (w : World) (hH : Holds (Value.int .i64) w blk off zs.toArray) (hcap : zs.length ≤ cap) (hm : cap ≤ 9223372036854775807) (hij : i ≤ j) (hj : j ≤ zs.length) :
    Calls Tryz.prog 68 #[.slice (some ⟨blk, off, none⟩) zs.length cap, .int .i64 i, .int .i64 j] w fun e w' => e = .returned (.slice (some ⟨blk, off, none⟩) (zs.length - (j - i)) cap) ∧ ∃ q, w' = putRow (Value.int .i64) (Sort.ahead w q) blk off (zs.take i ++ zs.drop j ++ List.replicate (j - i) 0).toArray := Any.slices_Delete_int Tryz.laysNm223 blk off cap i j zs w hH hcap hm hij hj
end Go.Proofs
namespace Go.Proofs.YtngdpnlgnpdkcaaGreatDoor
open Go Go.RowKit
theorem mul_oneI (n : Nat) (h : n ≤ 1000) (w : World) : Calls Tryz.prog 112 #[.int .u64 1, .int .u64 (n : Int)] w fun e w' => e = .returned (.tuple #[.int .u64 0, .int .u64 (n : Int)]) ∧ w = w' :=
  (Tryz.bits_Mul 1 n (by decide) (by omega) w).mono fun e w' ⟨h1, h2⟩ => ⟨by
    rw [h1, Nat.one_mul, Nat.div_eq_of_lt (by omega), Nat.mod_eq_of_lt (by omega)]; rfl, h2.symm⟩
def filledI (n k : Nat) : List Value := List.replicate k (.int .i64 (-1)) ++ List.replicate (n - k) (.int .i64 0)
theorem filledI_len {n k : Nat} (h : k ≤ n) : (filledI n k).length = n := by simp [filledI]; omega
theorem filledI_more {n k m : Nat} (h : k + m ≤ n) : (filledI n k).take k ++ List.replicate m (Value.int .i64 (-1)) ++ (filledI n k).drop (k + m) = filledI n (k + m) := by
  unfold filledI
  rw [List.take_left' (by simp)]
  have : (List.replicate k (Value.int .i64 (-1)) ++ List.replicate (n - k) (Value.int .i64 0)).drop (k + m) = List.replicate (n - (k + m)) (.int .i64 0) := by
    rw [List.drop_append, List.drop_of_length_le (by simp), List.length_replicate, List.drop_replicate]
    simp only [List.nil_append]
    congr 1
    omega
  rw [this, List.replicate_append_replicate]
set_option maxRecDepth 100000 in
set_option maxHeartbeats 3200000 in
theorem repeati_pos (n b : Nat) (h1 : 1 ≤ n) (h2 : n ≤ 1000) (w : World) (hb : Blk w b #[.int .i64 (-1)] 3) :
    Calls Tryz.prog 73 #[.slice (some ⟨b, 0, none⟩) 1 1, .int .i64 (n : Int)] w fun e w' => ∃ b2, e = .returned (.slice (some ⟨b2, 0, none⟩) n n) ∧ Blk w' b2 (filledI n n).toArray 3 ∧ Ext w w' ∧ w.heap.size ≤ b2 := by
  obtain ⟨ti, hi, hz0, hz1, hz2⟩ := info_parts int_info1
  have hblt := hb.lt
  have hmk := run_make (P := Tryz.prog) w 43 3 ti (.int .i64 0) Tryz.underlying43 hi hz0 .i64 .i64 (n : Int) (n : Int) (by omega) (by omega) (by rw [hz2]; omega) (by omega)
  have hmc : madeCells (Value.int .i64 0).cells ((n : Int).toNat * ti.size) = (filledI n 0).toArray := by
    rw [hz1, Int.toNat_natCast, Nat.mul_one]
    apply Array.ext'
    rw [show (Value.int .i64 0).cells = #[.int .i64 0] from rfl, toList_madeCells_one]
    simp [filledI]
  rw [hmc, Int.toNat_natCast] at hmk
  have hb' := hb.alloc (.cells (filledI n 0).toArray 3)
  have hnew := Blk.new w (filledI n 0).toArray 3
  have hx := (Ext.refl w).alloc (.cells (filledI n 0).toArray 3)
  obtain ⟨N, hN⟩ : ∃ N, N = w.heap.size := ⟨_, rfl⟩
  rw [← hN] at hmk hnew
  clear hmc
  have hsz1 : (Tryz.prog.info? 3).map (·.size) = some 1 := by rw [hi]; simp [hz1]
  have hcp := fun ty => run_copy_row Tryz.prog (w.alloc (.cells (filledI n 0).toArray 3)) 43 43 ty 3 N 0 n n ⟨b, 0, none⟩ 1 1 (filledI n 0).toArray 3 [.int .i64 (-1)] Tryz.underlying43 hsz1 hnew (by show 1 = Nat.min 1 n; exact (Nat.min_eq_left (by omega)).symm)
    (fun j v hj => by
      cases j with
      | zero => simp at hj; subst hj; exact hb'.cell 0
      | succ j => simp at hj) (by simp [filledI_len]; omega) (by simp [Value.oneCell'])
  have hrow : ((filledI n 0).toArray.toList.take 0 ++ [Value.int .i64 (-1)] ++ (filledI n 0).toArray.toList.drop (0 + [Value.int .i64 (-1)].length)) = filledI n 1 := by
    have := filledI_more (n := n) (k := 0) (m := 1) (by omega)
    simpa using this
  rw [hrow] at hcp
  have hset := setRow_blk hnew (filledI n 1).toArray
  have hkeep := setRow_keep (w.alloc (.cells (filledI n 0).toArray 3)) N (filledI n 1).toArray
  have hx1 : Ext w ((w.alloc (.cells (filledI n 0).toArray 3)).setRow N (filledI n 1).toArray) := Keep.new hx hkeep fun k hk => by rw [hk, hN]; exact Nat.le_refl _
  have HN := hid hN
  have hgo : goInt 1 = .int .i64 1 := rfl
  generalize hW1 : (w.alloc (.cells (filledI n 0).toArray 3)).setRow N (filledI n 1).toArray = W1 at *
  generalize hW0 : w.alloc (.cells (filledI n 0).toArray 3) = W0 at *
  clear hrow hkeep hx hW1 hW0 hN hnew hb'
  go_enter Tryz.func73, Tryz.ntmps73
  go_wp2_with (go_at_call 112; refine (mul_oneI n h2 _).mono ?_; rintro e w' ⟨rfl, rfl⟩)
  clear hmk hcp
  go_loopw [8] (fun t8 wr => ∃ k : Nat, t8 = .int .i64 (k : Int) ∧ 1 ≤ k ∧ k ≤ n ∧ Ext w wr ∧ Blk wr N (filledI n k).toArray 3) (fun t8 _ => n - (intOf t8).toNat)
  case atStart => exact ⟨1, rfl, by omega, by omega, hx1, hset⟩
  case round =>
    obtain ⟨k, rfl, hk1, hk2, hxr, hbr⟩ := hrel
    clear hset hx1
    by_cases hlt : k < n
    · have hnk : (n = k) = False := by simp; omega
      go_wp2
      refine wp_flowT (fun g => g = N) (by kernel_rfl) (by kernel_rfl) ?_
      repeat (apply FlowT.d; (intro w1 hk; unfold does; go_simp; (try go_ints); (first | exact DetR.mk | (simp only [↓IntWalk.iteOmega, Oper.doesUpon_value]; exact DetR.mk) | (simp only [↓IntWalk.iteOmega]; go_simp; (try go_ints); exact DetR.mk))); simp only [Act.put, qS0, qS1, qS2])
      obtain ⟨m, hm⟩ : ∃ m, m = min k (n - k) := ⟨_, rfl⟩
      have hm1 : 1 ≤ m ∧ k + m ≤ n := by omega
      have Hm := hid hm
      clear hm
      refine FlowT.v (.int .i64 (m : Int)) (fun w' => Keep (fun g => g = N) wr w' ∧ Blk w' N (filledI n (k + m)).toArray 3) 7 rfl (by kernel_rfl) (fun _ _ h x => ⟨h.1.ext_r x, h.2.ext x⟩) (fun w1 hC hkk => ?_) ?_
      · have hb1 := hbr.ext hC
        refine does_copy rfl (.tmp 41) (.tmp 44) 43 43 rfl 3 Tryz.underlying43 hsz1 N k (n - k) (n - k) (filledI n k).toArray 3 hb1 rfl ⟨N, 0, none⟩ k n (List.replicate m (.int .i64 (-1))) rfl (by rw [List.length_replicate, Hm.out]) (fun j v hj => ?_) (by simp [filledI_len hk2, hm1.2]) (by simp [Value.oneCell']) ?_
        · rw [List.getElem?_replicate] at hj
          split at hj
          · rename_i hjm
            simp only [Option.some.injEq] at hj
            subst hj
            have hjk : j < k := by have := Hm.out; omega
            have := hb1.cell j
            rw [show (⟨N, 0, none⟩ : Addr).add j = ⟨N, j, none⟩ from by by_cases h0 : j = 0 <;> simp [Addr.add, h0], this]
            unfold filledI
            rw [List.getElem?_toArray, List.getElem?_append_left (by simpa using hjk), List.getElem?_replicate, if_pos hjk]
          · cases hj
        · have hkw := (hC.keep (fun g => g = N)).trans (setRow_keep w1 N ((filledI n k).toArray.toList.take k ++ List.replicate m (Value.int .i64 (-1)) ++ (filledI n k).toArray.toList.drop (k + (List.replicate m (Value.int .i64 (-1))).length)).toArray)
          refine ⟨hkw, by simp [goInt], hkw, ?_⟩
          have e : ((filledI n k).toArray.toList.take k ++ List.replicate m (Value.int .i64 (-1)) ++ (filledI n k).toArray.toList.drop (k + (List.replicate m (Value.int .i64 (-1))).length)) = filledI n (k + m) := by rw [List.length_replicate]; exact filledI_more hm1.2
          rw [e]
          have := setRow_blk hb1 (filledI n (k + m)).toArray
          exact this
      simp only [Act.put, qS0, qS1, qS2]
      repeat (apply FlowT.d; (intro w1 hk; unfold does; go_simp; (try go_ints); (first | exact DetR.mk | (simp only [↓IntWalk.iteOmega, Oper.doesUpon_value]; exact DetR.mk) | (simp only [↓IntWalk.iteOmega]; go_simp; (try go_ints); exact DetR.mk))); simp only [Act.put, qS0, qS1, qS2])
      refine FlowT.fin fun w1 hC hkk => ?_
      go_wp2
      go_roundw
      case rel => exact ⟨k + m, by go_num, by omega, by omega, Keep.new hxr hC.1 (fun g hg => by rw [hg, HN.out]; exact Nat.le_refl _), hC.2⟩
      case measure => simp [intOf]; omega
    · obtain rfl : k = n := by omega
      go_wp2
      go_ret
      exact ⟨N, rfl, hbr, hxr, by rw [HN.out]; exact Nat.le_refl _⟩
theorem filledI_all (n : Nat) : filledI n n = icells (List.replicate n (-1)) := by
  unfold filledI icells
  rw [Nat.sub_self, List.replicate_zero, List.append_nil, List.map_replicate]
set_option maxRecDepth 100000 in
set_option maxHeartbeats 1600000 in
theorem repeati_zero (b : Nat) (w : World) (hb : Blk w b #[.int .i64 (-1)] 3) :
    Calls Tryz.prog 73 #[.slice (some ⟨b, 0, none⟩) 1 1, .int .i64 0] w fun e w' => ∃ b2, e = .returned (.slice (some ⟨b2, 0, none⟩) 0 0) ∧ Blk w' b2 #[] 3 ∧ Ext w w' ∧ w.heap.size ≤ b2 := by
  obtain ⟨ti, hi, hz0, hz1, hz2⟩ := info_parts int_info1
  have hmk := run_make (P := Tryz.prog) w 43 3 ti (.int .i64 0) Tryz.underlying43 hi hz0 .i64 .i64 0 0 (by omega) (by omega) (by rw [hz2]; omega) (by omega)
  have hmc : madeCells (Value.int .i64 0).cells ((0 : Int).toNat * ti.size) = #[] := by
    rw [hz1]; simp [madeCells]
  rw [hmc] at hmk
  have hnew := Blk.new w #[] 3
  have hx := (Ext.refl w).alloc (.cells #[] 3)
  have hsz1 : (Tryz.prog.info? 3).map (·.size) = some 1 := by rw [hi]; simp [hz1]
  have hcp := fun ty => run_copy_row Tryz.prog (w.alloc (.cells #[] 3)) 43 43 ty 3 w.heap.size 0 0 0 ⟨b, 0, none⟩ 1 1 #[] 3 [] Tryz.underlying43 hsz1 hnew rfl (fun j v hj => by simp at hj) (by simp) (by simp)
  have hset := setRow_blk hnew #[]
  have hkeep := setRow_keep (w.alloc (.cells #[] 3)) w.heap.size #[]
  have hx1 : Ext w ((w.alloc (.cells #[] 3)).setRow w.heap.size #[]) := Keep.new hx hkeep fun k hk => by rw [hk]; exact Nat.le_refl _
  have hm := mul_oneI 0 (by omega)
  simp only [List.length_nil, Nat.add_zero, List.take_zero, List.nil_append, List.append_nil, List.drop_nil, Array.toList_empty] at hcp
  have HX1 := hid hx1
  have HSet := hid hset
  obtain ⟨W1, hW1⟩ : ∃ W1, W1 = (w.alloc (.cells #[] 3)).setRow w.heap.size #[] := ⟨_, rfl⟩
  rw [← hW1] at HX1 HSet
  clear hx hkeep hx1 hset hnew hmc
  go_enter Tryz.func73, Tryz.ntmps73
  go_wp2_with (go_at_call 112; refine (hm _).mono ?_; rintro e w' ⟨rfl, rfl⟩)
  rw [← hW1]
  clear hW1 hmk hcp hm
  go_loopw [8] (fun t8 wr => t8 = .int .i64 0 ∧ wr = W1) (fun _ _ => 0)
  case atStart => exact ⟨rfl, rfl⟩
  case round =>
    obtain ⟨rfl, hw⟩ := hrel
    have Hw := hid hw
    clear hw
    go_wp2
    go_ret
    exact ⟨_, rfl, by rw [Hw.out]; exact HSet.out, by rw [Hw.out]; exact HX1.out, Nat.le_refl _⟩
theorem repeati_any (n b : Nat) (h2 : n ≤ 1000) (w : World) (hb : Blk w b #[.int .i64 (-1)] 3) :
    Calls Tryz.prog 73 #[.slice (some ⟨b, 0, none⟩) 1 1, .int .i64 (n : Int)] w fun e w' => ∃ g, e = .returned (.slice (some ⟨g, 0, none⟩) n n) ∧ w'.ownsRow w.heap.size 3 1 (.slice (some ⟨g, 0, none⟩) n n) n (icells (List.replicate n (-1))) ∧ Ext w w' := by
  by_cases h0 : n = 0
  · subst h0
    exact (repeati_zero b w hb).mono fun e w' ⟨g, h1, h2, h3, h4⟩ => ⟨g, h1, own_of_blk h2 h4 (Nat.le_refl _) (by unfold maxLen; omega) rfl rfl, h3⟩
  · exact (repeati_pos n b (by omega) h2 w hb).mono fun e w' ⟨g, h1, hb2, h3, h4⟩ => ⟨g, h1, own_of_blk hb2 h4 (Nat.le_refl _) (by unfold maxLen; omega) (by rw [List.size_toArray, filledI_len (Nat.le_refl _), Nat.mul_one]) (by
      rw [List.toList_toArray, filledI_all, List.take_of_length_le (by unfold icells; rw [List.length_map, List.length_replicate]; omega)]), h3⟩
theorem hB1_len {n : Nat} {E : List (Int × Int)} {a : Int} {B : List Bool} (h : RchB n E a B) : B.length = n := h.len
theorem NextAt.keep {w w' : World} {base m : Nat} {E : List (Int × Int)} {X : Nat → Prop} (h : NextAt w base m E) (k : Keep X w w') (hX : ∀ b, X b → b < base) : NextAt w' base m E := by
  obtain ⟨f, h⟩ := h
  exact ⟨f, h.map.keep k (fun hb => by have := hX m hb; have := h.low; omega), h.low, fun q => row_keep (h.row q) k fun b hb hx => by
    have := (World.ownsRow.lt (h.row q) b hb).1
    have := hX b hx
    omega, h.apart⟩
theorem icells_at {l : List Int} {i : Nat} {v : Int} (h : l[i]? = some v) : (icells l)[i]? = some (.int .i64 v) := by
  unfold icells
  rw [List.getElem?_map, h]; rfl
set_option maxRecDepth 100000 in
set_option maxHeartbeats 12800000 in
theorem cyclegroups_yes (n : Nat) (v : Value) (E : List (Int × Int)) (w : World) (n0 : Nat) (ad : Nat → Addr) (he2 : w.cell? ⟨3, 0, none⟩ = some (evOf ad 2)) (hr : EsR w n0 v E) (hl : E.length ≤ 100000) (hn : n ≤ 1000) (hin : einAll (n : Int) E E.length) (hn0 : n0 ≤ w.heap.size) :
    Calls Tryz.prog 28 #[.int .i64 (n : Int), v] w fun e w' => ∃ g G, e = .returned (.tuple #[.slice (some ⟨g, 0, none⟩) n n, .nilIface]) ∧ GrpL n E G ∧ w'.ownsRow w.heap.size 3 1 (.slice (some ⟨g, 0, none⟩) n n) n (icells G) ∧ Ext w w' := by
  obtain ⟨al, cl, rfl⟩ := hr.form2
  have hE := hin.ein
  have HE := hid hE
  have HER := hid hE.rev
  have HR0 := hid hr
  have hrl : (revE E).length = E.length := by unfold revE; rw [List.length_map]
  have Hrl := hid hrl
  have HCk := hid (cyclecheck_any (n : Int) (.slice al E.length cl) E w n0 ad he2 hr)
  have Hin := hid hin
  clear hE he2 hr hrl hin
  go_enter Tryz.func28, Tryz.ntmps28
  go_wp2_with fail
  refine HCk.out.mono ?_
  intro e w1 hx
  obtain ⟨v1, rfl, hee, hx1⟩ := hx
  obtain rfl : v1 = .nilIface := by
    rcases hee with ⟨h1, _⟩ | ⟨_, _, h3⟩ | ⟨_, i, e, b, h2, _, h4, _⟩
    · omega
    · exact h3
    · rw [Hin.out i e (List.getElem?_eq_some_iff.1 h2).1 h2] at h4; cases h4
  have Hx1 := hid hx1
  obtain ⟨W2, hW2⟩ : ∃ W2, W2 = w1.alloc (.cells #[.int .i64 (-1)] 3) := ⟨_, rfl⟩
  have hx2 : Ext w1 W2 := by rw [hW2]; exact (Ext.refl _).alloc _
  have Hx2 := hid (hx1.trans hx2)
  have HRe := hid (repeati_any n w1.heap.size hn W2 (by rw [hW2]; exact Blk.new _ _ _))
  have HW2 := hid hW2
  clear HCk hee hx1 hx2 hW2
  go_wp2_with fail
  rw [← HW2.out]
  refine HRe.out.mono ?_
  intro e w3 hx
  obtain ⟨g, rfl, hrow, hx3⟩ := hx
  have Hrow := hid hrow
  have Hx3 := hid (Hx2.out.trans hx3)
  have HNe := hid (cyclenexts_any (.slice al E.length cl) E w3 n0 n (HR0.out.ext (Hx2.out.trans hx3)) hl HE.out hn)
  clear HRe hrow hx3
  go_wp2_with fail
  refine HNe.out.mono ?_
  intro e w4 hx
  obtain ⟨m1, rfl, hN1, hx4⟩ := hx
  have HN1 := hid hN1
  have Hy4 := hid hx4
  have Hx4 := hid (Hx3.out.trans hx4)
  have HTu := hid (cycleturned_any (.slice al E.length cl) E w4 n0 (HR0.out.ext (Hx3.out.trans hx4)) hl)
  clear HNe hN1 hx4
  go_wp2_with fail
  refine HTu.out.mono ?_
  intro e w5 hx
  obtain ⟨v5, rfl, hr5, hx5⟩ := hx
  have Hx5 := hid (Hx4.out.trans hx5)
  have Hy5 := hid (Hy4.out.trans hx5)
  have Hz5 := hid hx5
  have HNe := hid (cyclenexts_any v5 (revE E) w5 w5.heap.size n (EsR.own hr5 (Nat.le_refl _)) (by rw [Hrl.out]; exact hl) HER.out hn)
  clear HTu hr5 hx5
  go_wp2_with fail
  refine HNe.out.mono ?_
  intro e w6 hx
  obtain ⟨m2, rfl, hN2, hx6⟩ := hx
  have HN1' := hid (HN1.out.ext (Hz5.out.trans hx6))
  have HN2 := hid hN2
  have Hx6 := hid (Hx5.out.trans hx6)
  have Hrow6 := hid (own_ext Hrow.out (Hy5.out.trans hx6))
  have hgl := (World.ownsRow.lt Hrow.out g rfl)
  have Hgl := hid hgl
  have Hs5 : Hid (w3.heap.size ≤ w5.heap.size) := hid Hy5.out.size
  clear HNe hN2 hx6 HN1 hgl
  go_wp2
  go_loopw [29] (fun t29 wr => ∃ (k : Nat) (G : List Int), t29 = .int .i64 (k : Int) ∧ k ≤ n ∧ GrpUp n E k G ∧ wr.ownsRow W2.heap.size 3 1 (.slice (some ⟨g, 0, none⟩) n n) n (icells G) ∧ Keep (fun q => q = g) w6 wr) (fun t29 _ => n - (intOf t29).toNat)
  case atStart => exact ⟨0, _, rfl, Nat.zero_le _, GrpUp.begin n E, Hrow6.out, Keep.refl _ _⟩
  case round =>
    obtain ⟨k, G, rfl, hk, hG, hR, hK⟩ := hrel
    have HG := hid hG
    have HR := hid hR
    have HK := hid hK
    clear hG hR hK
    by_cases hlt : k < n
    · obtain ⟨x, hx⟩ : ∃ x, G[k]? = some x := ⟨_, List.getElem?_eq_getElem (by rw [HG.out.len]; exact hlt)⟩
      have q0 := own_get HR.out k (icells_at hx)
      have Hx := hid hx
      clear hx
      by_cases h0 : 0 ≤ x
      · have HGn := hid (HG.out.skip hlt Hx.out h0)
        go_wp2
        go_roundw
        case rel => exact ⟨k + 1, G, by go_num, by omega, HGn.out, HR.out, HK.out⟩
        case measure => simp [intOf]; omega
      · have Hnew := hid (HG.out.new hlt Hx.out (by omega))
        have HA := hid (cyclereach_any n m1 E k wr w3.heap.size (HN1'.out.keep HK.out fun b hb => by rw [hb]; exact Hgl.out.2) HE.out hlt hn hl)
        obtain ⟨wO, hwO⟩ : ∃ x, x = wr := ⟨_, rfl⟩
        subst hwO
        go_wp2_with fail
        refine HA.out.mono ?_
        intro e w7 hx
        obtain ⟨g1, B1, rfl, hB1, hr1, hx7⟩ := hx
        have HB1 := hid hB1
        have Hr1 := hid hr1
        have Hx7 := hid hx7
        have HB := hid (cyclereach_any n m2 (revE E) k w7 w5.heap.size ((HN2.out.keep HK.out fun b hb => by rw [hb]; have := Hgl.out.2; have := Hs5.out; omega).ext hx7) HER.out hlt hn (by rw [Hrl.out]; exact hl))
        clear HA hB1 hr1 hx7 q0
        go_wp2_with fail
        refine HB.out.mono ?_
        intro e w8 hx
        obtain ⟨g2, B2, rfl, hB2, hr2, hx8⟩ := hx
        have HB2 := hid hB2
        have Hr2 := hid hr2
        have Hr1' := hid (own_ext Hr1.out hx8)
        have Hx8 := hid (Hx7.out.trans hx8)
        have HR8 := hid (own_ext HR.out (Hx7.out.trans hx8))
        have hl1 := hB1_len HB1.out
        have hl2 := hB1_len hB2
        clear HB hB2 hr2 hx8
        go_wp2
        go_loopw [46] (fun t46 wr => ∃ (i : Nat) (H : List Int), t46 = .int .i64 (i : Int) ∧ i ≤ n ∧ GrpIn n E k i H ∧ wr.ownsRow W2.heap.size 3 1 (.slice (some ⟨g, 0, none⟩) n n) n (icells H) ∧ Keep (fun q => q = g) w8 wr) (fun t46 _ => n - (intOf t46).toNat)
        case atStart => exact ⟨0, G, rfl, Nat.zero_le _, HG.out.into, HR8.out, Keep.refl _ _⟩
        case round =>
          obtain ⟨i, H, rfl, hi, hH, hRi, hKi⟩ := hrel
          have HH := hid hH
          have HRi := hid hRi
          have HKi := hid hKi
          clear hH hRi hKi
          by_cases hil : i < n
          · have hrow1 : wr.ownsRow 0 4 1 (.slice (some ⟨g1, 0, none⟩) n n) n (trCells B1) := by
              have := Hr1'.out
              unfold TrRow at this
              rw [hl1] at this
              refine own_low (row_keep this HKi.out fun b hb e => ?_) (Nat.zero_le _)
              obtain ⟨c, hc⟩ := own_ty this hb
              obtain ⟨c', hc'⟩ := own_ty HR8.out (k := g) rfl
              rw [e] at hc
              exact off_of hc (by decide) ⟨_, hc'⟩
            have hrow2 : wr.ownsRow 0 4 1 (.slice (some ⟨g2, 0, none⟩) n n) n (trCells B2) := by
              have := Hr2.out
              unfold TrRow at this
              rw [hl2] at this
              refine own_low (row_keep this HKi.out fun b hb e => ?_) (Nat.zero_le _)
              obtain ⟨c, hc⟩ := own_ty this hb
              obtain ⟨c', hc'⟩ := own_ty HR8.out (k := g) rfl
              rw [e] at hc
              exact off_of hc (by decide) ⟨_, hc'⟩
            have b1 := own_get hrow1 i (trCells_at (by omega))
            have b2 := own_get hrow2 i (trCells_at (by omega))
            have hm1 := HB1.out.iff i hil
            have hm2 := (HB2.out.iff i hil).trans rch_rev
            have Hmu : Hid (MutR E (k : Int) (i : Int) ↔ B1.getD i false = true ∧ B2.getD i false = true) := hid ⟨fun h => ⟨hm1.2 h.1, hm2.2 h.2⟩, fun h => ⟨hm1.1 h.1, hm2.1 h.2⟩⟩
            clear hm1 hm2 hrow1 hrow2
            cases hc1 : B1.getD i false with
            | false =>
              rw [hc1] at b1
              have HHn := hid (HH.out.no fun h => by rw [hc1] at Hmu; have := (Hmu.out.1 h).1; cases this)
              clear hc1 b2
              go_wp2
              go_roundw
              case rel => exact ⟨i + 1, H, by go_num, by omega, HHn.out, HRi.out, HKi.out⟩
              case measure => simp [intOf]; omega
            | true =>
              rw [hc1] at b1
              cases hc2 : B2.getD i false with
              | false =>
                rw [hc2] at b2
                have HHn := hid (HH.out.no fun h => by rw [hc2] at Hmu; have := (Hmu.out.1 h).2; cases this)
                clear hc1 hc2
                go_wp2
                go_roundw
                case rel => exact ⟨i + 1, H, by go_num, by omega, HHn.out, HRi.out, HKi.out⟩
                case measure => simp [intOf]; omega
              | true =>
                rw [hc2] at b2
                have HHn := hid (HH.out.yes hil Hnew.out (Hmu.out.2 ⟨hc1, hc2⟩))
                have hHl := HH.out.len
                obtain ⟨z, hz⟩ : ∃ z, H[i]? = some z := ⟨_, List.getElem?_eq_getElem (by rw [hHl]; exact hil)⟩
                have b3 := own_get HRi.out i (icells_at hz)
                have fr := (show ∃ c, Blk wr g c 3 from own_ty HRi.out (k := g) rfl).elim fun c hc => hc.free i
                have HRn : Hid ((wr.setCell ⟨g, i, none⟩ (.int .i64 (k : Int))).ownsRow W2.heap.size 3 1 (.slice (some ⟨g, 0, none⟩) n n) n (icells (H.set i (k : Int)))) := hid (by
                  have := own_set HRi.out i (by unfold icells; rw [List.length_map, hHl]; exact hil) (.int .i64 (k : Int))
                  rw [show (icells H).set i (.int .i64 (k : Int)) = icells (H.set i (k : Int)) by unfold icells; rw [List.map_set]] at this
                  exact this)
                have HKn : Hid (Keep (fun q => q = g) w8 (wr.setCell ⟨g, i, none⟩ (.int .i64 (k : Int)))) := hid (HKi.out.set rfl _)
                clear hc1 hc2 hz hHl
                go_wp2
                go_roundw
                case rel => exact ⟨i + 1, _, by go_num, by omega, HHn.out, HRn.out, HKn.out⟩
                case measure => simp [intOf]; omega
          · obtain rfl : i = n := by omega
            have HHo := hid HH.out.out
            have HKo := hid ((HK.out.trans (Hx8.out.keep _)).trans HKi.out)
            go_wp2
            go_roundw
            case rel => exact ⟨k + 1, H, by go_num, by omega, HHo.out, HRi.out, HKo.out⟩
            case measure => simp [intOf]; omega
    · obtain rfl : k = n := by omega
      have HGd := hid HG.out.done
      have HXz : Hid (Ext w wr) := hid (Keep.new Hx6.out HK.out fun b hb => by rw [hb]; exact Nat.le_trans Hx2.out.size Hgl.out.1)
      have HRz := hid (own_low HR.out Hx2.out.size)
      go_wp2
      go_ret2
      exact ⟨g, G, rfl, HGd.out, HRz.out, HXz.out⟩
end Go.Proofs.YtngdpnlgnpdkcaaGreatDoor
namespace Go.Proofs
open Go.Shelf
def Tryz.appseq_ren : Go.Shelf.Ren := ⟨fun | 11 => 121 | n => n, fun | 24 => 43 | 26 => 3 | 28 => 106 | 0 => 0 | 33 => 123 | 4 => 4 | n => n, fun | n => n⟩
theorem Tryz.appseq : Go.Proofs.SlLaysZI.n11 Tryz.prog Tryz.appseq_ren := {
  mixed := by kernel_rfl
  f11 := ⟨Tryz.f121.name, by decide, Tryz.func121.trans (congrArg some (by kernel_rfl))⟩
  t0 := Tryz.underlying0
  a0 := Tryz.isAgg0
  z0 := Tryz.sizeOf0
  v0 := Tryz.zeroValue0
  t24 := Tryz.underlying43
  a24 := Tryz.isAgg43
  z24 := Tryz.sizeOf43
  v24 := Tryz.zeroValue43
  t26 := Tryz.underlying3
  a26 := Tryz.isAgg3
  z26 := Tryz.sizeOf3
  v26 := Tryz.zeroValue3
  t28 := Tryz.underlying106
  a28 := Tryz.isAgg106
  z28 := Tryz.sizeOf106
  v28 := Tryz.zeroValue106
  i26 := by kernel_rfl }
end Go.Proofs
namespace Go.Proofs.YtngdpnlgnpdkcaaGreatDoor
open Go Go.RowKit Go.Shelf Go.Maps Go.Sort
set_option maxRecDepth 100000 in
set_option maxHeartbeats 2000000 in
theorem values1_in (n : Nat) (hn : 1 ≤ n) (l Bs n0 b off cap : Nat) (zs : List Int) (hreach : zs.length ≤ 1000) (hb : b < n0) (J : List Int → World → Prop) (W0 : World)
    (hJb : ∀ s V, J s V → Below n0 W0 V)
    (hY : ∀ pre x V, J pre V → pre.length < zs.length → YieldAt Fence.wide (n - 1) Tryz.prog l #[.int .i64 x] V fun e V' => e = .returned (.bool true) ∧ J (pre ++ [x]) V' ∧ KeepsWalks V V')
    (W : World) (hBs : W.cell? ⟨Bs, 0, none⟩ = some (.slice (some ⟨b, off, none⟩) zs.length cap)) (hc : ∀ j, j < zs.length → W0.cell? ⟨b, off + j, none⟩ = some (.int .i64 (zs[j]?.getD 0))) (h0 : J [] W) :
    CallsIn Fence.wide n Tryz.prog 92 #[.func (.yield l) #[] #[], .pointer (some ⟨Bs, 0, none⟩)] W fun e W' => (∃ v, e = .returned v) ∧ J zs W' := by
  have hro : Fence.wide.round = none := rfl
  refine callsIn_of_wp Tryz.func92 rfl trivial ?_ hro
  simp only [Tryz.ntmps92, List.size_toArray, List.length_cons, List.length_nil, Nat.reduceAdd, Nat.reduceSub, Array.replicate_succ, Array.replicate_zero, List.push_toArray, List.append_toArray, List.nil_append, List.cons_append]
  gi_wp2
  gi_loopw [7] (fun i wr => ∃ k : Nat, k ≤ zs.length ∧ i = .int .i64 k ∧ J (zs.take k) wr)
    (fun i _ => zs.length - (intOf i).toNat)
  case atStart => exact ⟨0, Nat.zero_le _, rfl, by simpa using h0⟩
  case round =>
    obtain ⟨k, hk, rfl, hJs⟩ := hrel
    by_cases hlt : k < zs.length
    · obtain ⟨x, hx⟩ : ∃ x, zs[k]? = some x := ⟨_, List.getElem?_eq_getElem hlt⟩
      obtain ⟨fn, tmps, assign, body, hy, hR⟩ := hY _ x wr hJs (by rw [List.length_take]; omega)
      have hcx' : wr.cell? ⟨b, off + k, none⟩ = some (.int .i64 x) := ((hJb _ _ hJs).cell (p := ⟨b, off + k, none⟩) hb).trans (by rw [hc k hlt, hx]; rfl)
      have hX := hid hx
      clear hx
      gi_wp2
      refine hR.mono ?_
      rintro e W3 ⟨rfl, hJ3, hk3⟩
      gi_wp2
      go_roundw
      case rel => exact ⟨k + 1, by omega, by simp, by rw [List.take_add_one, hX.out]; exact hJ3⟩
      case measure => simp [intOf]; omega
    · obtain rfl : k = zs.length := by omega
      gi_wp2
      go_end0
      exact ⟨⟨_, rfl⟩, by simpa using hJs⟩
set_option maxRecDepth 100000 in
set_option maxHeartbeats 2000000 in
theorem appendvals (w : World) (b off cap Bs : Nat) (zs : List Int) (hreach : zs.length ≤ 1000) (hb : b < w.heap.size) (hB0 : w.heap[Bs]? = some (.cells #[.slice (some ⟨b, off, none⟩) zs.length cap] 43 (0, 0)))
    (hc : ∀ j, j < zs.length → w.cell? ⟨b, off + j, none⟩ = some (.int .i64 (zs[j]?.getD 0))) :
    Calls Tryz.prog 121 #[.slice none 0 0, .func (.func 92) #[] #[.pointer (some ⟨Bs, 0, none⟩)]] w fun e w' => ∃ u, e = .returned u ∧ w'.ownsRow w.heap.size 3 1 u zs.length (icells zs) ∧ Ext w w' := by
  refine (callsIn_wide (n := 3)).1 ?_
  have hro : Fence.wide.round = none := rfl
  have L := Tryz.appseq
  have hBlt : Bs < w.heap.size := (Array.getElem?_eq_some_iff.1 hB0).1
  have eg : ∀ args w, (callFunc 92 args).run Tryz.prog w = .ok (.enter 92 args) w := enters_of Tryz.func92 (by kernel_rfl) rfl
  have hne : (43 : TypeId) ≠ 3 := by decide
  refine callsIn_of_wp_marks Tryz.func121 rfl trivial ?_ hro
  simp only [Tryz.ntmps121, List.size_toArray, List.length_cons, List.length_nil, Nat.reduceAdd, Nat.reduceSub, Array.replicate_succ, Array.replicate_zero, List.push_toArray, List.append_toArray, List.nil_append, List.cons_append]
  gi_wp2
  refine wpIn_rangeFunc ?_
  intro fn hfn
  rw [hro]
  obtain ⟨W0, hW0⟩ : ∃ W0, w.alloc (.cells #[.slice none 0 0] 43) = W0 := ⟨_, rfl⟩
  have hs0 : W0.heap.size = w.heap.size + 1 := by rw [← hW0]; simp
  have hv0 : W0.heap[w.heap.size]? = some (.cells #[.slice none 0 0] 43 (0, 0)) := by rw [← hW0]; exact World.alloc_heap_new w _
  have hb0 : Below w.heap.size w W0 := by rw [← hW0]; exact (Below.refl _ w).alloc (Nat.le_refl _) _
  rw [hW0]
  obtain ⟨sv, hsv⟩ : ∃ sv : Value, sv = .func (.func 92) #[] #[.pointer (some ⟨Bs, 0, none⟩)] := ⟨_, rfl⟩
  obtain ⟨W1, hW1⟩ : ∃ W1, (W0.alloc (.deferred (some []))).alloc (.loop (Go.Proofs.AnyZI.apRec Tryz.appseq_ren fn (.func (.func 92) #[] #[.pointer (some ⟨Bs, 0, none⟩)]) w.heap.size W0.heap.size .ready none)) = W1 := ⟨_, rfl⟩
  have hold : ∀ k, k < W0.heap.size → W1.heap[k]? = W0.heap[k]? := fun k hk => by
    rw [← hW1]; exact (Below.heap_alloc _ _ k (by simp; omega)).trans (Below.heap_alloc _ _ k hk)
  have hb1 : Below w.heap.size w W1 := by rw [← hW1]; exact (hb0.alloc hb0.size _).alloc (by have := hb0.size; simp; omega) _
  have hM : Go.Proofs.AnyZI.ApAt Tryz.appseq_ren w fn (.func (.func 92) #[] #[.pointer (some ⟨Bs, 0, none⟩)]) w.heap.size (W0.heap.size + 1) W0.heap.size [] W1 :=
    ⟨⟨_, (hold w.heap.size (by omega)).trans hv0, ⟨rfl, .inl ⟨rfl, rfl⟩⟩, by simp⟩,
     by rw [← hW1]; have := World.alloc_heap_new (W0.alloc (.deferred (some []))) (.loop (Go.Proofs.AnyZI.apRec Tryz.appseq_ren fn (.func (.func 92) #[] #[.pointer (some ⟨Bs, 0, none⟩)]) w.heap.size W0.heap.size .ready none)); rwa [World.size_alloc] at this,
     by rw [← hW1]; exact (Below.heap_alloc _ _ _ (by simp)).trans (World.alloc_heap_new W0 _), hb1⟩
  refine ⟨W0.heap.size + 1, [{ target := .collected W0.heap.size, args := #[] }], W1, { target := .fn (.func 92) #[.pointer (some ⟨Bs, 0, none⟩)], args := #[.func (.yield (W0.heap.size + 1)) #[] #[]] }, W1, 92,
    #[.func (.yield (W0.heap.size + 1)) #[] #[], .pointer (some ⟨Bs, 0, none⟩)], W1, ?_, ?_, ?_, ?_, fun _ => by omega, ?_⟩
  · rw [← hW1]; exact run_enterLoop_outer _ _ _ _ _
  · simp [resolve, go_sem]
  · intro f' hf'; trivial
  · simp [invoke, go_sem, eg]
  · refine (values1_in (3 - 1) (by omega) (W0.heap.size + 1) Bs w.heap.size b off cap zs hreach hb (Go.Proofs.AnyZI.ApAt Tryz.appseq_ren w fn (.func (.func 92) #[] #[.pointer (some ⟨Bs, 0, none⟩)]) w.heap.size (W0.heap.size + 1) W0.heap.size) w (fun s V h => h.below)
      (fun pre x W hJ hl => Go.Proofs.AnyZI.apYield L Fence.wide (3 - 1 - 1) w fn hfn _ w.heap.size (W0.heap.size + 1) W0.heap.size (by omega) (by omega) (by omega) (Nat.le_refl _) (by omega) zs.length (by simp [maxLen]; omega) (by omega) pre x W hJ hl)
      W1 ?_ hc hM).mono ?_
    · exact (hb1.cell (p := ⟨Bs, 0, none⟩) hBlt).trans (Go.Proofs.cell_of_box_a hB0).1
    rintro e W2 ⟨⟨v0, rfl⟩, h2⟩
    obtain ⟨v, hv, hrow, hnil⟩ := h2.box
    have hend := run_endLoop (P := Tryz.prog) h2.L (by simp [Go.Proofs.AnyZI.apRec])
    obtain ⟨W3, hW3⟩ : ∃ W3, W2.putObj (W0.heap.size + 1) (.loop { Go.Proofs.AnyZI.apRec Tryz.appseq_ren fn (.func (.func 92) #[] #[.pointer (some ⟨Bs, 0, none⟩)]) w.heap.size W0.heap.size .ready none with state := .exhausted }) = W3 := ⟨_, rfl⟩
    rw [hW3] at hend
    have hg3 : W2.grownBy W3 (some (W0.heap.size + 1)) := by rw [← hW3]; exact Go.Proofs.grownBy_putObj_a _ _ _
    have hv3 : W3.heap[w.heap.size]? = some (.cells #[v] 43 (0, 0)) := by rw [← hW3]; exact (World.putObj_heap_other (by omega)).trans hv
    have hK3 : W3.heap[W0.heap.size]? = some (.deferred (some [])) := by rw [← hW3]; exact (World.putObj_heap_other (by omega)).trans h2.K
    have hrow3 := hrow.kept hg3 (Go.Proofs.ownsRow_ne_a hrow h2.L (fun cur e => by first | cases e | exact hne (Obj.cells.inj e).2.1))
    have hb3 : Below w.heap.size w W3 := h2.below.grown hg3 h2.below.size (fun k e => by cases e; omega)
    obtain ⟨hc3, hf3⟩ := Go.Proofs.cell_of_box_a hv3
    clear hW3
    refine ⟨none, W3, hend, ?_⟩
    gi_wp2
    rw [← hs0]
    refine ⟨by simp, .inl ⟨_, _, rfl, run_takeDeferred hK3, ?_⟩⟩
    exact ⟨_, results_tmp rfl _ _ _, v, rfl, hrow3.kept (Go.Proofs.grownBy_putObj_a _ _ _) (Go.Proofs.ownsRow_ne_a hrow3 hK3 (fun cur e => by first | cases e | exact hne (Obj.cells.inj e).2.1)), hb3.grown (Go.Proofs.grownBy_putObj_a _ _ _) hb3.size (fun k e => by cases e; omega)⟩
set_option maxRecDepth 100000 in
set_option maxHeartbeats 1000000 in
theorem valuesi_any (b off len cap : Nat) (w : World) :
    Calls Tryz.prog 52 #[.slice (some ⟨b, off, none⟩) len cap] w fun e w' => e = .returned (.func (.func 92) #[] #[.pointer (some ⟨w.heap.size, 0, none⟩)]) ∧ w' = w.alloc (.cells #[.slice (some ⟨b, off, none⟩) len cap] 43) := by
  go_enter Tryz.func52, Tryz.ntmps52
  go_wp2
  exact bodyPost_ret (results_tmp rfl _ _ _) rfl ⟨rfl, rfl⟩
set_option maxRecDepth 100000 in
set_option maxHeartbeats 1000000 in
theorem collecti_vals (w : World) (b off cap Bs : Nat) (zs : List Int) (hreach : zs.length ≤ 1000) (hb : b < w.heap.size) (hB0 : w.heap[Bs]? = some (.cells #[.slice (some ⟨b, off, none⟩) zs.length cap] 43 (0, 0)))
    (hc : ∀ j, j < zs.length → w.cell? ⟨b, off + j, none⟩ = some (.int .i64 (zs[j]?.getD 0))) :
    Calls Tryz.prog 90 #[.func (.func 92) #[] #[.pointer (some ⟨Bs, 0, none⟩)]] w fun e w' => ∃ u, e = .returned u ∧ IRow w.heap.size w' u zs ∧ Ext w w' := by
  have cA := hid (appendvals w b off cap Bs zs hreach hb hB0 hc)
  clear hc hB0
  go_enter Tryz.func90, Tryz.ntmps90
  go_wp2_with (go_at_call 121; refine cA.out.mono ?_; rintro e w' ⟨u, rfl, hu, hx⟩)
  go_ret
  exact ⟨_, rfl, hu, hx⟩
set_option maxRecDepth 100000 in
set_option maxHeartbeats 1000000 in
theorem sortedi_vals (w : World) (b off cap Bs : Nat) (zs : List Int) (hreach : zs.length ≤ 1000) (hb : b < w.heap.size) (hB0 : w.heap[Bs]? = some (.cells #[.slice (some ⟨b, off, none⟩) zs.length cap] 43 (0, 0)))
    (hc : ∀ j, j < zs.length → w.cell? ⟨b, off + j, none⟩ = some (.int .i64 (zs[j]?.getD 0))) :
    Calls Tryz.prog 51 #[.func (.func 92) #[] #[.pointer (some ⟨Bs, 0, none⟩)]] w fun e w' => ∃ u, e = .returned u ∧ IRow w.heap.size w' u (zs.mergeSort fun x y => decide (x ≤ y)) ∧ Ext w w' := by
  have cA := hid (collecti_vals w b off cap Bs zs hreach hb hB0 hc)
  clear hc hB0
  go_enter Tryz.func51, Tryz.ntmps51
  go_wp2_with (first
    | (go_at_call 90; refine cA.out.mono ?_; rintro e w1 ⟨u, rfl, hu, hx⟩)
    | (go_at_call 91; refine (sort_row u zs w1 _ hu (by omega)).mono ?_; rintro e w2 ⟨rfl, hs, hk⟩))
  go_ret
  exact ⟨_, rfl, hs, Keep.fresh hx hu (Nat.le_refl _) hk⟩
theorem row_cells {base g n cap : Nat} {w : World} {l : List Int} (h : IRow base w (.slice (some ⟨g, 0, none⟩) n cap) l) : ∀ j, j < l.length → w.cell? ⟨g, 0 + j, none⟩ = some (.int .i64 (l[j]?.getD 0)) := by
  obtain ⟨rfl, _⟩ := h.cur
  intro j hj
  rw [Nat.zero_add, own_get h j (u := .int .i64 l[j]) (by unfold icells; rw [List.getElem?_map, List.getElem?_eq_getElem hj]; rfl), List.getElem?_eq_getElem hj]
  rfl
end Go.Proofs.YtngdpnlgnpdkcaaGreatDoor
namespace Go.Proofs.YtngdpnlgnpdkcaaGreatDoor
open Go Go.RowKit
def aheadB (E : List (Int × Int)) (G : List Int) (b a : Int) : Bool := (E.any fun e => decide (G.getD e.1.toNat (-1) = a) && decide (G.getD e.2.toNat (-1) = b)) && !decide (a = b)
def freeB (E : List (Int × Int)) (G : List Int) (L : List Int) (b : Int) : Bool := !(L.any fun a => aheadB E G b a)
def ordRun (E : List (Int × Int)) (G : List Int) : Nat → List Int → List Int
  | 0, _ => []
  | k + 1, L => match L.findIdx? (freeB E G L) with
    | none => []
    | some i => L.getD i 0 :: ordRun E G k (L.take i ++ L.drop (i + 1))
theorem aheadB_iff {E : List (Int × Int)} {G : List Int} {b a : Int} : aheadB E G b a = true ↔ a ≠ b ∧ ∃ e ∈ E, G.getD e.1.toNat (-1) = a ∧ G.getD e.2.toNat (-1) = b := by
  unfold aheadB
  simp only [Bool.and_eq_true, Bool.not_eq_true', decide_eq_false_iff_not, List.any_eq_true, decide_eq_true_eq]
  exact ⟨fun h => ⟨h.2, h.1⟩, fun h => ⟨h.2, h.1⟩⟩
theorem freeB_iff {E : List (Int × Int)} {G L : List Int} {b : Int} : freeB E G L b = true ↔ ∀ a ∈ L, aheadB E G b a = false := by
  unfold freeB
  rw [Bool.not_eq_true', List.any_eq_false]
  exact ⟨fun h a ha => by have := h a ha; simpa using this, fun h a ha => by rw [h a ha]; simp⟩
section
variable {E : List (Int × Int)} {n : Nat} {G : List Int}
structure Reps (n : Nat) (G : List Int) (L : List Int) : Prop where
  srt : Srt L
  rep : ∀ b ∈ L, ∃ k : Nat, b = (k : Int) ∧ k < n ∧ G[k]? = some (k : Int)
theorem Reps.cut {L : List Int} (h : Reps n G L) (i : Nat) : Reps n G (L.take i ++ L.drop (i + 1)) := by
  refine ⟨?_, fun b hb => h.rep b ?_⟩
  · have hs : List.Pairwise (· < ·) L := h.srt
    exact List.Pairwise.sublist (by
      rw [← List.eraseIdx_eq_take_drop_succ]
      exact List.eraseIdx_sublist L i) hs
  · rcases List.mem_append.1 hb with g | g
    · exact List.mem_of_mem_take g
    · exact List.mem_of_mem_drop g
theorem cut_mem {L : List Int} (hs : Srt L) {i : Nat} {x : Int} (hx : L[i]? = some x) (y : Int) : y ∈ L.take i ++ L.drop (i + 1) ↔ y ∈ L ∧ y ≠ x := by
  obtain ⟨hi, hxe⟩ := List.getElem?_eq_some_iff.1 hx
  have hsplit : L = L.take i ++ x :: L.drop (i + 1) := by
    rw [← hxe, ← List.drop_eq_getElem_cons hi, List.take_append_drop]
  have hp : List.Pairwise (· < ·) (L.take i ++ x :: L.drop (i + 1)) := by rw [← hsplit]; exact hs
  rw [List.pairwise_append, List.pairwise_cons] at hp
  obtain ⟨_, ⟨h2, _⟩, h3⟩ := hp
  constructor
  · intro hy
    rcases List.mem_append.1 hy with g | g
    · exact ⟨List.mem_of_mem_take g, fun e => by have := h3 y g x List.mem_cons_self; omega⟩
    · exact ⟨List.mem_of_mem_drop g, fun e => by have := h2 y g; omega⟩
  · rintro ⟨hy, hne⟩
    rw [hsplit] at hy
    rcases List.mem_append.1 hy with g | g
    · exact List.mem_append_left _ g
    · rcases List.mem_cons.1 g with g | g
      · exact absurd g hne
      · exact List.mem_append_right _ g
theorem cut_len {L : List Int} {i : Nat} (hi : i < L.length) : (L.take i ++ L.drop (i + 1)).length + 1 = L.length := by
  rw [List.length_append, List.length_take, List.length_drop]
  omega
theorem ahead_rch (hE : EIn n E) (hG : GrpL n E G) {b a : Int} (h : aheadB E G b a = true) : a ≠ b ∧ Rch E a b := by
  obtain ⟨hne, e, he, h1, h2⟩ := aheadB_iff.1 h
  obtain ⟨⟨e1, e2⟩, e3, e4⟩ := hE e he
  obtain ⟨x, hx⟩ := Int.eq_ofNat_of_zero_le e1
  obtain ⟨y, hy⟩ := Int.eq_ofNat_of_zero_le e3
  obtain ⟨k, k1, _, k3, _⟩ := hG.at_ x (by omega)
  obtain ⟨q, q1, _, q3, _⟩ := hG.at_ y (by omega)
  rw [hx, Int.toNat_natCast, List.getD_eq_getElem?_getD, k1] at h1
  rw [hy, Int.toNat_natCast, List.getD_eq_getElem?_getD, q1] at h2
  simp only [Option.getD_some] at h1 h2
  refine ⟨hne, ?_⟩
  rw [← h1, ← h2]
  refine (k3.1.step ?_).trans q3.2
  rw [← hx, ← hy]
  exact he
open Classical in
noncomputable def cnt (n : Nat) (E : List (Int × Int)) (b : Int) : Nat := ((List.range n).filter fun i : Nat => decide (Rch E (i : Int) b)).length
theorem cnt_lt {a b : Int} (ha : 0 ≤ b ∧ b < n) (h : Rch E a b) (hn : ¬ Rch E b a) : cnt n E a < cnt n E b := by
  unfold cnt
  obtain ⟨k, hk⟩ := Int.eq_ofNat_of_zero_le ha.1
  have key : ∀ (l : List Nat), (l.filter fun i : Nat => @decide (Rch E (i : Int) a) (Classical.propDecidable _)).length ≤ (l.filter fun i : Nat => @decide (Rch E (i : Int) b) (Classical.propDecidable _)).length ∧ (k ∈ l → (l.filter fun i : Nat => @decide (Rch E (i : Int) a) (Classical.propDecidable _)).length < (l.filter fun i : Nat => @decide (Rch E (i : Int) b) (Classical.propDecidable _)).length) := by
    intro l
    induction l with
    | nil => exact ⟨Nat.le_refl _, fun h => by cases h⟩
    | cons i l ih =>
      rw [List.filter_cons, List.filter_cons]
      by_cases h1 : Rch E (i : Int) a
      · have h2 : Rch E (i : Int) b := h1.trans h
        rw [if_pos (by simpa using h1), if_pos (by simpa using h2), List.length_cons, List.length_cons]
        refine ⟨by omega, fun hm => ?_⟩
        rcases List.mem_cons.1 hm with g | g
        · subst g
          rw [← hk] at h1
          exact absurd h1 hn
        · have := ih.2 g; omega
      · rw [if_neg (by simpa using h1)]
        by_cases h2 : Rch E (i : Int) b
        · rw [if_pos (by simpa using h2), List.length_cons]
          exact ⟨by omega, fun _ => by omega⟩
        · rw [if_neg (by simpa using h2)]
          refine ⟨ih.1, fun hm => ?_⟩
          rcases List.mem_cons.1 hm with g | g
          · subst g
            rw [← hk] at h2
            exact absurd Rch.refl h2
          · exact ih.2 g
  exact (key (List.range n)).2 (List.mem_range.2 (by omega))
theorem least_of (f : Int → Nat) : ∀ (L : List Int), L ≠ [] → ∃ b ∈ L, ∀ a ∈ L, f b ≤ f a
  | [], h => absurd rfl h
  | [x], _ => ⟨x, List.mem_cons_self, fun a ha => by rw [List.mem_singleton.1 ha]; exact Nat.le_refl _⟩
  | x :: y :: L, _ => by
    obtain ⟨b, hb, h⟩ := least_of f (y :: L) (by simp)
    by_cases g : f x ≤ f b
    · refine ⟨x, List.mem_cons_self, fun a ha => ?_⟩
      rcases List.mem_cons.1 ha with e | e
      · rw [e]; exact Nat.le_refl _
      · exact Nat.le_trans g (h a e)
    · refine ⟨b, List.mem_cons_of_mem _ hb, fun a ha => ?_⟩
      rcases List.mem_cons.1 ha with e | e
      · rw [e]; omega
      · exact h a e
theorem free_one (hE : EIn n E) (hG : GrpL n E G) {L : List Int} (hL : Reps n G L) (hne : L ≠ []) : ∃ b ∈ L, freeB E G L b = true := by
  obtain ⟨b, hb, hmin⟩ := least_of (cnt n E) L hne
  refine ⟨b, hb, freeB_iff.2 fun a ha => ?_⟩
  cases h : aheadB E G b a with
  | false => rfl
  | true =>
    exfalso
    obtain ⟨h1, h2⟩ := ahead_rch hE hG h
    obtain ⟨k, rfl, hk, hgk⟩ := hL.rep b hb
    obtain ⟨q, rfl, hq, hgq⟩ := hL.rep a ha
    have hn : ¬ Rch E (k : Int) (q : Int) := fun hr => by
      have hm : MutR E (q : Int) (k : Int) := ⟨h2, hr⟩
      have := (hG.same hq hk).2 hm
      rw [hgk, hgq] at this
      exact h1 (Option.some.inj this)
    have := cnt_lt (n := n) (by omega) h2 hn
    have := hmin _ ha
    omega
theorem free_idx (hE : EIn n E) (hG : GrpL n E G) {L : List Int} (hL : Reps n G L) (hne : L ≠ []) : ∃ i, L.findIdx? (freeB E G L) = some i ∧ i < L.length := by
  obtain ⟨b, hb, h⟩ := free_one hE hG hL hne
  cases hf : L.findIdx? (freeB E G L) with
  | none => rw [List.findIdx?_eq_none_iff] at hf; rw [hf b hb] at h; cases h
  | some i =>
    obtain ⟨h1, _⟩ := List.findIdx?_eq_some_iff_getElem.1 hf
    exact ⟨i, rfl, h1⟩
theorem ord_mem (hE : EIn n E) (hG : GrpL n E G) : ∀ (k : Nat) {L : List Int}, Reps n G L → L.length ≤ k → (∀ x, x ∈ ordRun E G k L ↔ x ∈ L) ∧ (ordRun E G k L).Nodup ∧ (ordRun E G k L).length = L.length
  | 0, L, _, hk => by
    obtain rfl := List.eq_nil_of_length_eq_zero (show L.length = 0 by omega)
    exact ⟨fun x => Iff.rfl, List.nodup_nil, rfl⟩
  | k + 1, L, hL, hk => by
    unfold ordRun
    by_cases hne : L = []
    · subst hne
      exact ⟨fun x => Iff.rfl, List.nodup_nil, rfl⟩
    · obtain ⟨i, hi, hil⟩ := free_idx hE hG hL hne
      rw [hi]
      simp only
      have hx : L[i]? = some (L.getD i 0) := by rw [List.getD_eq_getElem?_getD, List.getElem?_eq_getElem hil]; rfl
      have hc := cut_len hil
      obtain ⟨h1, h2, h3⟩ := ord_mem hE hG k (hL.cut i) (by omega)
      refine ⟨fun x => ?_, ?_, ?_⟩
      · rw [List.mem_cons, h1, cut_mem hL.srt hx]
        constructor
        · rintro (g | g)
          · rw [g]; exact List.mem_of_getElem? hx
          · exact g.1
        · intro g
          by_cases e : x = L.getD i 0
          · exact .inl e
          · exact .inr ⟨g, e⟩
      · rw [List.nodup_cons]
        refine ⟨fun hm => ?_, h2⟩
        rw [h1, cut_mem hL.srt hx] at hm
        exact hm.2 rfl
      · rw [List.length_cons, h3]; omega
theorem ord_before (hE : EIn n E) (hG : GrpL n E G) : ∀ (k : Nat) {L : List Int}, Reps n G L → L.length ≤ k → ∀ {a b : Int}, a ∈ L → b ∈ L → aheadB E G b a = true → ∃ i j : Nat, i < j ∧ (ordRun E G k L)[i]? = some a ∧ (ordRun E G k L)[j]? = some b
  | 0, L, _, hk, a, _, ha, _, _ => by
    obtain rfl := List.eq_nil_of_length_eq_zero (show L.length = 0 by omega)
    cases ha
  | k + 1, L, hL, hk, a, b, ha, hb, hab => by
    have hne : L ≠ [] := fun e => by rw [e] at ha; cases ha
    obtain ⟨i, hi, hil⟩ := free_idx hE hG hL hne
    have hx : L[i]? = some (L.getD i 0) := by rw [List.getD_eq_getElem?_getD, List.getElem?_eq_getElem hil]; rfl
    have hc := cut_len hil
    have hfr : freeB E G L (L.getD i 0) = true := by
      obtain ⟨h1, h2, _⟩ := List.findIdx?_eq_some_iff_getElem.1 hi
      rw [List.getD_eq_getElem?_getD, List.getElem?_eq_getElem hil]
      exact h2
    obtain ⟨hne2, _⟩ := aheadB_iff.1 hab
    have hbx : b ≠ L.getD i 0 := fun e => by
      rw [← e] at hfr
      rw [freeB_iff.1 hfr a ha] at hab
      cases hab
    unfold ordRun
    rw [hi]
    simp only
    have hb2 := (cut_mem hL.srt hx b).2 ⟨hb, hbx⟩
    by_cases hax : a = L.getD i 0
    · obtain ⟨h1, _, _⟩ := ord_mem hE hG k (hL.cut i) (by omega)
      obtain ⟨j, hj⟩ := List.getElem?_of_mem ((h1 b).2 hb2)
      exact ⟨0, j + 1, by omega, by rw [hax]; rfl, by rw [List.getElem?_cons_succ]; exact hj⟩
    · obtain ⟨p, q, h1, h2, h3⟩ := ord_before hE hG k (hL.cut i) (by omega) ((cut_mem hL.srt hx a).2 ⟨ha, hax⟩) hb2 hab
      exact ⟨p + 1, q + 1, by omega, by rw [List.getElem?_cons_succ]; exact h2, by rw [List.getElem?_cons_succ]; exact h3⟩
theorem ord_step {L : List Int} {i : Nat} (hi : L.findIdx? (freeB E G L) = some i) (hil : i < L.length) : ordRun E G L.length L = L.getD i 0 :: ordRun E G (L.take i ++ L.drop (i + 1)).length (L.take i ++ L.drop (i + 1)) := by
  have hc := cut_len hil
  rw [← hc]
  conv => lhs; unfold ordRun
  rw [hi]
end
structure AheadM (w : World) (base m : Nat) (E : List (Int × Int)) (G : List Int) (f : Int → Option Value) : Prop where
  map : KMap Tryz.prog 3 (Value.int .i64) w m f
  low : base ≤ m
  val : ∀ b, (f b = none ∧ ∀ a, aheadB E G b a = false) ∨ ∃ q h, f b = some (.map (some q)) ∧ base ≤ q ∧ q ≠ m ∧ KMap Tryz.prog 3 (Value.int .i64) w q h ∧ ∀ a, h a = if aheadB E G b a = true then some (.bool true) else none
  apart : ∀ b c q, b ≠ c → f b = some (.map (some q)) → f c ≠ some (.map (some q))
section
variable {w w' : World} {base m : Nat} {E : List (Int × Int)} {G : List Int} {f : Int → Option Value}
theorem AheadM.ext (h : AheadM w base m E G f) (x : Ext w w') : AheadM w' base m E G f :=
  ⟨h.map.ext x, h.low, fun b => by
    rcases h.val b with g | ⟨q, k, g1, g2, g3, g4, g5⟩
    · exact .inl g
    · exact .inr ⟨q, k, g1, g2, g3, g4.ext x, g5⟩, h.apart⟩
theorem aheadB_add {e : Int × Int} {b a : Int} : aheadB (E ++ [e]) G b a = (aheadB E G b a || (decide (G.getD e.1.toNat (-1) = a) && decide (G.getD e.2.toNat (-1) = b) && !decide (a = b))) := by
  unfold aheadB
  rw [List.any_append]
  simp only [List.any_cons, List.any_nil, Bool.or_false]
  rw [Bool.and_or_distrib_right]
theorem zero_mmark (w : World) : (zeroValue 120).run Tryz.prog w = .ok (.map none) w := Tryz.zeroValue120 w
theorem AheadM.look1 (h : AheadM w base m E G f) {b : Int} (hb : 0 ≤ b ∧ b < 1000000) : (Instr.lookup 119 (.map (some m)) (.int .i64 b) false).run Tryz.prog w = .ok ((f b).getD (.map none)) w := by
  obtain ⟨k, hk⟩ := key_int hb
  have := run_kmap_lookup int_keyed64 intV_inj Tryz.underlying119 h.map hk (zero_mmark w) false
  rw [this]; rfl
theorem look_nil (w : World) {a : Int} (ha : 0 ≤ a ∧ a < 1000000) : (Instr.lookup 120 (.map none) (.int .i64 a) false).run Tryz.prog w = .ok (.bool false) w := by
  obtain ⟨k, hk⟩ := key_int ha
  unfold Instr.lookup
  simp [run_underlying Tryz.underlying120, int_keyed64.check w _ hk, Instr.findKey, Instr.findNow, zero_bool, Result.andThen]
theorem AheadM.look2 (h : AheadM w base m E G f) {b a : Int} (hb : 0 ≤ b ∧ b < 1000000) (ha : 0 ≤ a ∧ a < 1000000) : ∃ v, (Instr.lookup 119 (.map (some m)) (.int .i64 b) false).run Tryz.prog w = .ok (.map v) w ∧ (Instr.lookup 120 (.map v) (.int .i64 a) false).run Tryz.prog w = .ok (.bool (aheadB E G b a)) w := by
  have h1 := h.look1 hb
  rcases h.val b with ⟨g1, g2⟩ | ⟨q, k, g1, g2, g3, g4, g5⟩
  · rw [g1] at h1
    exact ⟨none, h1, by rw [g2]; exact look_nil w ha⟩
  · rw [g1] at h1
    refine ⟨some q, h1, ?_⟩
    obtain ⟨l, hl⟩ := key_int ha
    have := run_kmap_lookup int_keyed64 intV_inj Tryz.underlying120 g4 hl (zero_bool w) false
    rw [this, g5]
    cases aheadB E G b a <;> rfl
end
set_option maxRecDepth 100000 in
set_option maxHeartbeats 800000 in
theorem indexfi_oc2 (b c0 : Value) (p : Int → Bool) (v : Value) (l : List Int) (w : World) (n0 : Nat) (h : IntsR w n0 v l) (hF : ∀ n ∈ l, ∀ w1, Ext w w1 → Calls Tryz.prog 67 #[.int .i64 n, b, c0] w1 fun e w' => e = .returned (.bool (p n)) ∧ Ext w1 w') :
    Calls Tryz.prog 64 #[v, .func (.func 67) #[] #[b, c0]] w fun e w' => ∃ r : Int, e = .returned (.int .i64 r) ∧ IdxF p l r ∧ Ext w w' := by
  have HS := hid h
  have HF := hid hF
  obtain ⟨a, cap, rfl, h2, h3, h4, _⟩ := h
  have H4 := hid h4
  have hml : (l.length : Int) ≤ 9223372036854775807 := by omega
  clear h2 h3 h4 hF
  go_enter Tryz.func64, Tryz.ntmps64
  go_wp2
  go_loopw [8] (fun t8 wr => ∃ k : Nat, t8 = .int .i64 (k : Int) ∧ k ≤ l.length ∧ (∀ j t, j < k → l[j]? = some t → p t = false) ∧ Ext w wr) (fun t8 _ => l.length - (intOf t8).toNat)
  case atStart => exact ⟨0, rfl, Nat.zero_le _, fun j t h => by omega, Ext.refl _⟩
  case round =>
    obtain ⟨k, rfl, hk, hne, hx⟩ := hrel
    have Hne := hid hne
    clear hne
    by_cases hlt : k < l.length
    · obtain ⟨y, rfl⟩ := H4.out (by omega)
      have hxk : l[k]? = some (l[k]'hlt) := List.getElem?_eq_getElem hlt
      obtain ⟨t, ht⟩ : ∃ t, t = l[k]'hlt := ⟨_, rfl⟩
      rw [← ht] at hxk
      obtain ⟨a', cap', h1, _, _, _, h5⟩ := HS.out.old (hx.old n0)
      obtain ⟨rfl, rfl⟩ : some y = a' ∧ cap = cap' := by simpa using h1
      have hc := (h5 y rfl (by omega)).2 k hlt t hxk
      have HN := hid (HF.out t (List.mem_of_getElem? hxk) wr hx)
      have Hxk := hid hxk
      have Hx := hid hx
      clear hxk ht h1 h5 hx
      go_wp2_with fail
      refine HN.out.mono ?_
      intro e w1 hx1
      obtain ⟨rfl, hx1⟩ := hx1
      have Hx1 := hid (Hx.out.trans hx1)
      clear HN hx1 Hx hc
      cases he : p t with
      | true =>
        have Hin := hid (show IdxF p l (k : Int) from .inr ⟨k, t, rfl, hlt, Hxk.out, he, Hne.out⟩)
        go_wp2
        go_ret
        exact ⟨(k : Int), rfl, Hin.out, Hx1.out⟩
      | false =>
        have Hf := hid he
        clear he
        go_wp2
        go_roundw
        case rel =>
          refine ⟨k + 1, by go_num, by omega, fun j u hj hu => ?_, Hx1.out⟩
          by_cases hjk : j = k
          · subst hjk
            obtain rfl := Option.some.inj (Hxk.out.symm.trans hu)
            exact Hf.out
          · exact Hne.out j u (by omega) hu
        case measure => simp [intOf]; omega
    · obtain rfl : k = l.length := by omega
      have Hx := hid hx
      clear hx
      have Hnot := hid (show IdxF p l (-1) from .inl ⟨rfl, fun x hx => by
        obtain ⟨j, hj, e2⟩ := List.mem_iff_getElem.1 hx
        exact Hne.out j x hj (by rw [List.getElem?_eq_getElem hj, e2])⟩)
      go_wp2
      go_ret
      exact ⟨(-1 : Int), rfl, Hnot.out, Hx.out⟩
set_option maxRecDepth 100000 in
set_option maxHeartbeats 800000 in
theorem containsfi_oc2 (b c0 : Value) (p : Int → Bool) (v : Value) (l : List Int) (w : World) (n0 : Nat) (h : IntsR w n0 v l) (hF : ∀ n ∈ l, ∀ w1, Ext w w1 → Calls Tryz.prog 67 #[.int .i64 n, b, c0] w1 fun e w' => e = .returned (.bool (p n)) ∧ Ext w1 w') :
    Calls Tryz.prog 66 #[v, .func (.func 67) #[] #[b, c0]] w fun e w' => e = .returned (.bool (l.any p)) ∧ Ext w w' := by
  have H := hid (indexfi_oc2 b c0 p v l w n0 h hF)
  obtain ⟨a, cap, rfl, h2, h3, _⟩ := h
  have hml : (l.length : Int) ≤ 9223372036854775807 := by omega
  clear hF
  go_enter Tryz.func66, Tryz.ntmps66
  go_wp2_with fail
  refine H.out.mono ?_
  intro e w1 hx
  obtain ⟨r, rfl, hr, hx⟩ := hx
  clear H
  rcases hr with ⟨rfl, hr⟩ | ⟨i, x, rfl, hi, hxi, hp, _⟩
  · have Hr := hid (show l.any p = false from List.any_eq_false.2 fun x hx => by rw [hr x hx]; simp)
    clear hr
    go_wp2
    go_ret
    exact ⟨by rw [Hr.out]; rfl, hx⟩
  · have Hr := hid (show l.any p = true from List.any_eq_true.2 ⟨x, List.mem_of_getElem? hxi, hp⟩)
    clear hp hxi
    go_wp2
    go_ret
    exact ⟨by rw [Hr.out]; rfl, hx⟩
set_option maxRecDepth 100000 in
set_option maxHeartbeats 800000 in
theorem indexfi_oc1 (b c0 : Value) (p : Int → Bool) (v : Value) (l : List Int) (w : World) (n0 : Nat) (h : IntsR w n0 v l) (hF : ∀ n ∈ l, ∀ w1, Ext w w1 → Calls Tryz.prog 65 #[.int .i64 n, b, c0] w1 fun e w' => e = .returned (.bool (p n)) ∧ Ext w1 w') :
    Calls Tryz.prog 64 #[v, .func (.func 65) #[] #[b, c0]] w fun e w' => ∃ r : Int, e = .returned (.int .i64 r) ∧ IdxF p l r ∧ Ext w w' := by
  have HS := hid h
  have HF := hid hF
  obtain ⟨a, cap, rfl, h2, h3, h4, _⟩ := h
  have H4 := hid h4
  have hml : (l.length : Int) ≤ 9223372036854775807 := by omega
  clear h2 h3 h4 hF
  go_enter Tryz.func64, Tryz.ntmps64
  go_wp2
  go_loopw [8] (fun t8 wr => ∃ k : Nat, t8 = .int .i64 (k : Int) ∧ k ≤ l.length ∧ (∀ j t, j < k → l[j]? = some t → p t = false) ∧ Ext w wr) (fun t8 _ => l.length - (intOf t8).toNat)
  case atStart => exact ⟨0, rfl, Nat.zero_le _, fun j t h => by omega, Ext.refl _⟩
  case round =>
    obtain ⟨k, rfl, hk, hne, hx⟩ := hrel
    have Hne := hid hne
    clear hne
    by_cases hlt : k < l.length
    · obtain ⟨y, rfl⟩ := H4.out (by omega)
      have hxk : l[k]? = some (l[k]'hlt) := List.getElem?_eq_getElem hlt
      obtain ⟨t, ht⟩ : ∃ t, t = l[k]'hlt := ⟨_, rfl⟩
      rw [← ht] at hxk
      obtain ⟨a', cap', h1, _, _, _, h5⟩ := HS.out.old (hx.old n0)
      obtain ⟨rfl, rfl⟩ : some y = a' ∧ cap = cap' := by simpa using h1
      have hc := (h5 y rfl (by omega)).2 k hlt t hxk
      have HN := hid (HF.out t (List.mem_of_getElem? hxk) wr hx)
      have Hxk := hid hxk
      have Hx := hid hx
      clear hxk ht h1 h5 hx
      go_wp2_with fail
      refine HN.out.mono ?_
      intro e w1 hx1
      obtain ⟨rfl, hx1⟩ := hx1
      have Hx1 := hid (Hx.out.trans hx1)
      clear HN hx1 Hx hc
      cases he : p t with
      | true =>
        have Hin := hid (show IdxF p l (k : Int) from .inr ⟨k, t, rfl, hlt, Hxk.out, he, Hne.out⟩)
        go_wp2
        go_ret
        exact ⟨(k : Int), rfl, Hin.out, Hx1.out⟩
      | false =>
        have Hf := hid he
        clear he
        go_wp2
        go_roundw
        case rel =>
          refine ⟨k + 1, by go_num, by omega, fun j u hj hu => ?_, Hx1.out⟩
          by_cases hjk : j = k
          · subst hjk
            obtain rfl := Option.some.inj (Hxk.out.symm.trans hu)
            exact Hf.out
          · exact Hne.out j u (by omega) hu
        case measure => simp [intOf]; omega
    · obtain rfl : k = l.length := by omega
      have Hx := hid hx
      clear hx
      have Hnot := hid (show IdxF p l (-1) from .inl ⟨rfl, fun x hx => by
        obtain ⟨j, hj, e2⟩ := List.mem_iff_getElem.1 hx
        exact Hne.out j x hj (by rw [List.getElem?_eq_getElem hj, e2])⟩)
      go_wp2
      go_ret
      exact ⟨(-1 : Int), rfl, Hnot.out, Hx.out⟩
set_option maxRecDepth 100000 in
set_option maxHeartbeats 800000 in
theorem orderc2_any (gA gb m base : Nat) (E : List (Int × Int)) (G : List Int) (f : Int → Option Value) (a b : Int) (w : World) (hA : Blk w gA #[.map (some m)] 119) (hb : Blk w gb #[.int .i64 b] 3) (hM : AheadM w base m E G f) (hb0 : 0 ≤ b ∧ b < 1000000) (ha0 : 0 ≤ a ∧ a < 1000000) :
    Calls Tryz.prog 67 #[.int .i64 a, .pointer (some ⟨gA, 0, none⟩), .pointer (some ⟨gb, 0, none⟩)] w fun e w' => e = .returned (.bool (aheadB E G b a)) ∧ Ext w w' := by
  obtain ⟨v, q1, q2⟩ := hM.look2 hb0 ha0
  have g0 := hA.av 0 rfl
  have g1 := hb.av 0 rfl
  simp only [qA0, qA1] at g0 g1
  generalize aheadB E G b a = d at *
  clear hA hb hM
  go_enter Tryz.func67, Tryz.ntmps67
  go_wp2
  go_ret
  exact ⟨rfl, Ext.refl _⟩
set_option maxRecDepth 100000 in
set_option maxHeartbeats 800000 in
theorem orderc1_any (gL gA m base : Nat) (E : List (Int × Int)) (G L : List Int) (f : Int → Option Value) (lv : Value) (b : Int) (w : World) (n0 : Nat) (hL : Blk w gL #[lv] 43) (hA : Blk w gA #[.map (some m)] 119) (hM : AheadM w base m E G f) (hv : IntsR w n0 lv L) (hb0 : 0 ≤ b ∧ b < 1000000) (ha0 : ∀ a ∈ L, 0 ≤ a ∧ a < 1000000) :
    Calls Tryz.prog 65 #[.int .i64 b, .pointer (some ⟨gL, 0, none⟩), .pointer (some ⟨gA, 0, none⟩)] w fun e w' => e = .returned (.bool (freeB E G L b)) ∧ Ext w w' := by
  obtain ⟨W, hW⟩ : ∃ W, W = w.alloc (.cells #[.int .i64 b] 3) := ⟨_, rfl⟩
  have hx : Ext w W := by rw [hW]; exact (Ext.refl _).alloc _
  have HX := hid hx
  have hbb : Blk W w.heap.size #[.int .i64 b] 3 := by rw [hW]; exact Blk.new _ _ _
  have HC := hid (containsfi_oc2 (.pointer (some ⟨gA, 0, none⟩)) (.pointer (some ⟨w.heap.size, 0, none⟩)) (fun a => aheadB E G b a) lv L W n0 (hv.old (hx.old n0)) fun a ha w1 x => orderc2_any gA w.heap.size m base E G f a b w1 (hA.ext (hx.trans x)) (hbb.ext x) (hM.ext (hx.trans x)) hb0 (ha0 a ha))
  have g0 := (hL.ext hx).av 0 rfl
  simp only [qA0, qA1] at g0
  rw [hW] at g0
  obtain ⟨al, cl, rfl, _⟩ := hv
  have HW := hid hW
  unfold freeB
  generalize L.any (fun a => aheadB E G b a) = d at *
  clear hL hA hM hbb hx hW ha0
  go_enter Tryz.func65, Tryz.ntmps65
  go_wp2_with fail
  rw [← HW.out]
  refine HC.out.mono ?_
  intro e w1 hx
  obtain ⟨rfl, hx⟩ := hx
  have HX1 := hid (HX.out.trans hx)
  clear HC g0 hx
  go_wp2
  go_ret
  exact ⟨rfl, HX1.out⟩
end Go.Proofs.YtngdpnlgnpdkcaaGreatDoor
