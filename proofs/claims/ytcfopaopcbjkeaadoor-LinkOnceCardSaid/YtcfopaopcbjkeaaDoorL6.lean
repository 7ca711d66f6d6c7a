
/- Links: what is answered is struck, in place. -/
import Derived.Test.YtcfopaopcbjkeaaDoorL5
namespace Go.Proofs.YtcfopaopcbjkeaaDoor
set_option linter.unusedSimpArgs false
set_option linter.unusedVariables false
open Go Go.RowKit

theorem mem_zeroCells {z : Array Value} {n : Nat} {u : Value} (h : u ∈ (Builtin.zeroCells z n).toList) : u ∈ z.toList := by
  obtain ⟨i, hi, e⟩ := List.mem_iff_getElem.1 h
  simp only [Builtin.zeroCells] at e
  rw [← e]
  simp only [Array.getElem_toList, Array.getElem_map, Array.getElem_range]
  have hz : 0 < z.size := by
    rcases Nat.eq_zero_or_pos z.size with h0 | h0
    · rw [Array.length_toList, size_zeroCells, h0] at hi; simp at hi
    · exact h0
  have hlt := Nat.mod_lt i hz
  rw [getElem!_pos z _ hlt]
  simp
/-- clear of n elements in a row of one's own. -/
theorem run_clear_row {P : Program} (w : World) (t ty e : TypeId) (i : TypeInfo) (z : Value) (ht : P.underlying t = some (.slice e)) (hi : P.info? e = some i) (hz : i.zero = some z) (h1 : ∀ u ∈ z.cells.toList, u.oneCell' = true)
    (g off n cap : Nat) (hn : 0 < n) (c : Array Value) (hb : Blk w g c e) (hfit : off + n * z.cells.size ≤ c.size) :
    (Builtin.clear_ #[t] ty #[.slice (some ⟨g, off, none⟩) n cap]).run P w = .ok (.tuple #[]) (w.setRow g (c.toList.take off ++ (Builtin.zeroCells z.cells n).toList ++ c.toList.drop (off + n * z.cells.size)).toArray) := by
  obtain ⟨k, rfl⟩ : ∃ k, n = k + 1 := ⟨n - 1, by omega⟩
  have hl : (Builtin.zeroCells z.cells (k + 1)).toList.length = (k + 1) * z.cells.size := by rw [Array.length_toList, size_zeroCells]
  have hst := run_storeCells_at P g off e (Builtin.zeroCells z.cells (k + 1)).toList 0 c w hb (by rw [hl]; simpa using hfit) (fun u hu => h1 u (mem_zeroCells hu))
  rw [hl] at hst
  simp only [Nat.add_zero] at hst
  simp [Builtin.clear_, run_underlying ht, zeroValue, typeInfo, hi, hz, hst, Result.andThen]

theorem own_ne_lt {w : World} {base g n cap size : Nat} {e : TypeId} {xs : List Value} (h : w.ownsRow base e size (.slice (some ⟨g, 0, none⟩) n cap) n xs) : g < w.heap.size := (World.ownsRow.lt h g rfl).2
theorem take_set_succ {α : Type} (R : List α) (i : Nat) (x : α) (hi : i < R.length) : (R.set i x).take (i + 1) = R.take i ++ [x] := by
  apply List.ext_getElem?
  intro k
  rw [List.getElem?_take, List.getElem?_set]
  by_cases h1 : k < i
  · rw [if_pos (by omega), if_neg (by omega), List.getElem?_append_left (by rw [List.length_take]; omega), List.getElem?_take, if_pos h1]
  · by_cases h2 : k = i
    · subst h2
      rw [if_pos (by omega), if_pos rfl, if_pos hi, List.getElem?_append_right (by rw [List.length_take]; omega), List.length_take, Nat.min_eq_left (by omega)]
      simp
    · rw [if_neg (by omega), List.getElem?_eq_none (by simp; omega)]
def kz : Array Value := #[.int .u8 0, .int .i64 0, .int .i64 0, .int .i64 0, .slice none 0 0, .int .i64 0]
theorem store6_blk {w : World} {b : Nat} {a0 a1 a2 a3 a4 a5 : Value} {e : TypeId} (h : Blk w b #[a0, a1, a2, a3, a4, a5] e) (y : FV × Int) : Blk (store6 w b 0 y) b #[.int .u8 (y.1.f.kind.toNat : Int), .int .i64 y.1.f.fr, .int .i64 y.1.f.to, .int .i64 y.1.f.seq, y.1.v, .int .i64 y.2] e := by
  unfold store6
  have := (((((h.set 0 (.int .u8 (y.1.f.kind.toNat : Int))).set 1 (.int .i64 y.1.f.fr)).set 2 (.int .i64 y.1.f.to)).set 3 (.int .i64 y.1.f.seq)).set 4 y.1.v).set 5 (.int .i64 y.2)
  simpa using this
theorem filter_snoc (ks : List (FV × Int)) (n : Int) (j : Nat) (x : FV × Int) (hx : ks[j]? = some x) : (ks.take (j + 1)).filter (keptB n) = (ks.take j).filter (keptB n) ++ if keptB n x = true then [x] else [] := by
  rw [List.take_add_one, hx, List.filter_append]
  simp only [Option.toList, List.filter_cons, List.filter_nil]

set_option maxRecDepth 100000 in
set_option maxHeartbeats 3200000 in
theorem ldelf_any (lv : Value) (ks : List (FV × Int)) (n : Int) (g : Nat) (w : World) (n0 : Nat) (t : Option Nat) (hl : w.ownsRow n0 113 6 lv ks.length (ks.flatMap kcells)) (hn : ∀ x ∈ ks, x.1.At w n0 t) (hg : w.cell? ⟨g, 0, none⟩ = some (.int .i64 n)) (hgi : IsInt w g) (hb : ks.length ≤ 1000) :
    Calls Tryd.prog 51 #[lv, ackFn g] w fun e w' => ∃ lv', e = .returned lv' ∧ w'.ownsRow n0 113 6 lv' (ks.filter (keptB n)).length ((ks.filter (keptB n)).flatMap kcells) ∧ Keep (fun b => lv.ownBlock = some b) w w' ∧ lv'.ownBlock = lv.ownBlock := by
  have HI := hid (lindf_any lv ks n g w n0 t hl hn hg hb)
  obtain ⟨a, c, hlv⟩ := row_form hl
  have Hl := hid hl
  have Hn := hid hn
  have Hg := hid hg
  have Hgi := hid hgi
  subst hlv
  unfold ackFn at HI ⊢
  clear hl hn hg hgi
  go_enter Tryd.func51, Tryd.ntmps51
  go_wp2_with fail
  refine HI.out.mono ?_
  intro e w1 hx
  obtain ⟨hx1, hx⟩ := hx
  rcases hx with ⟨rfl, hall⟩ | ⟨i0, x0, rfl, hx0, hd0, hlow⟩
  · have hf := hid (List.filter_eq_self.2 hall)
    have hR := hid (row_keep Hl.out (hx1.keep fun _ => False) (fun _ _ h => h))
    clear HI hall
    go_wp2
    go_ret
    exact ⟨_, rfl, by rw [hf.out]; exact hR.out, hx1.keep _, rfl⟩
  · have hi0 : i0 < ks.length := by
      rcases Nat.lt_or_ge i0 ks.length with h | h
      · exact h
      · rw [List.getElem?_eq_none h] at hx0; cases hx0
    obtain ⟨gb, cp, he⟩ := own_some Hl.out (by omega)
    simp only [Value.slice.injEq, true_and] at he
    obtain ⟨rfl, rfl⟩ := he
    obtain ⟨cu, hcu, _, hcap, hmx, hcs, _⟩ := own_blk Hl.out
    have hstart : ks.take i0 = (ks.take (i0 + 1)).filter (keptB n) := by
      rw [List.take_add_one, hx0, List.filter_append]
      simp only [Option.toList, List.filter_cons, hd0, List.filter_nil]
      rw [List.filter_eq_self.2 fun x hx => ?_]
      · simp
      · obtain ⟨j, hj, e⟩ := List.mem_iff_getElem.1 hx
        rw [List.length_take] at hj
        rw [List.getElem_take] at e
        exact hlow j x (by omega) (by rw [List.getElem?_eq_getElem (by omega), e])
    have hr0 := hid (row_keep Hl.out (hx1.keep fun _ => False) (fun _ _ h => h))
    have Hk0 := hid (hx1.keep fun b => (Value.slice (some ⟨gb, 0, none⟩) ks.length c).ownBlock = some b)
    have Hstart := hid hstart
    have Hcap := hid hcap
    have hmx' : (c : Int) ≤ 9223372036854775807 := by unfold maxLen at hmx; omega
    have Hgne : Hid (g ≠ gb) := hid fun e => by subst e; exact IsInt.not hcu (by decide) Hgi.out
    clear HI hx0 hd0 hlow hstart hcu hmx hcs hx1 hcap
    have hcl : (ks.length : Int) ≤ (c : Int) := by have := Hcap.out; omega
    have hi1 : ((i0 : Int) == -1) = false := beq_eq_false_iff_ne.2 (by omega)
    go_wp2
    clear hi1
    go_loopw [5, 6] (fun t5 t6 wr => ∃ (i j : Nat) (R : List (FV × Int)), t5 = .int .i64 (i : Int) ∧ t6 = .int .i64 (j : Int) ∧ i < j ∧ j ≤ ks.length ∧ R.length = ks.length ∧ R.take i = (ks.take j).filter (keptB n) ∧ R.drop j = ks.drop j ∧
      wr.ownsRow n0 113 6 (.slice (some ⟨gb, 0, none⟩) ks.length c) ks.length (R.flatMap kcells) ∧ (∀ x ∈ R, x ∈ ks) ∧ Keep (fun b => (Value.slice (some ⟨gb, 0, none⟩) ks.length c).ownBlock = some b) w wr) (fun _ t6 _ => ks.length - (intOf t6).toNat)
    case atStart => exact ⟨i0, i0 + 1, ks, rfl, rfl, by omega, by omega, rfl, Hstart.out, rfl, hr0.out, fun _ h => h, Hk0.out⟩
    case round =>
      obtain ⟨i, j, R, rfl, rfl, hij, hj, hRl, hT, hD, hrow, hmem, hkp⟩ := hrel
      have HRl := hid hRl
      have HT := hid hT
      have HD := hid hD
      have Hmem := hid hmem
      clear hRl hT hD hmem hr0 Hk0 Hstart
      by_cases hlt : j < ks.length
      · have hxj : R[j]? = some (ks[j]'hlt) := by
          have := congrArg (fun l => l[0]?) HD.out
          simpa [List.getElem?_drop, List.getElem?_eq_getElem hlt] using this
        obtain ⟨x, hxd⟩ : ∃ x, x = ks[j]'hlt := ⟨_, rfl⟩
        rw [← hxd] at hxj
        have hxk : ks[j]? = some x := by rw [hxd]; exact List.getElem?_eq_getElem hlt
        have hm : x ∈ ks := List.mem_of_getElem? hxk
        obtain ⟨c0, c1, c2, c3, c4, c5⟩ := own_k hrow hxj
        obtain ⟨av, cv, _, hv, _⟩ := (Hn.out x hm).form
        have Hv := hid hv
        have hcg : ∀ w1, Ext wr w1 → w1.cell? ⟨g, 0, none⟩ = some (.int .i64 n) := fun w1 x1 => x1.cellx (hkp.cellx Hg.out (fun e => by
          simp only [Value.ownBlock, Option.some.injEq] at e
          exact Hgne.out e.symm))
        have HF := fun w1 (x1 : Ext wr w1) => hid (lackedf_any x n g w1 (hcg w1 x1) ⟨_, _, _, hv⟩)
        have HB : Hid (keptB n x = !decide (x.1.f.seq < n)) := hid (by unfold keptB; by_cases h : n ≤ x.1.f.seq <;> simp [h] <;> omega)
        have hW := hid (Blk.new wr #[.int .u8 (x.1.f.kind.toNat : Int), .int .i64 x.1.f.fr, .int .i64 x.1.f.to, .int .i64 x.1.f.seq, .slice av x.1.f.nums.length cv, .int .i64 x.2] 113)
        have hWx := hid ((Ext.refl wr).alloc (.cells #[.int .u8 (x.1.f.kind.toNat : Int), .int .i64 x.1.f.fr, .int .i64 x.1.f.to, .int .i64 x.1.f.seq, .slice av x.1.f.nums.length cv, .int .i64 x.2] 113))
        have hrlt : Hid (gb < wr.heap.size) := hid (own_ne_lt hrow)
        unfold kval at HF
        have Hrow := hid hrow
        have Hkp := hid hkp
        have Hxk := hid hxk
        have Hxj := hid hxj
        have hji : (i : Int) < (ks.length : Int) := by omega
        rw [hv] at c4 HF
        clear hxd hm hv hcg hrow hkp hxk hxj
        cases hf : decide (x.1.f.seq < n) with
        | true =>
          have Hf := hid (show keptB n x = false by rw [HB.out, hf]; rfl)
          rw [hf] at HF
          clear hf HB
          go_wp2_with fail
          refine (HF _ hWx.out).out.mono ?_
          intro e w2 hx2
          obtain ⟨rfl, hx2⟩ := hx2
          have hx2' := hWx.out.trans hx2
          clear c0 c1 c2 c3 c4 c5 HF hW hWx hx2
          go_wp2
          go_roundw
          case rel => exact ⟨i, j + 1, R, rfl, by go_num, by omega, by omega, HRl.out, by rw [filter_snoc ks n j x Hxk.out, Hf.out, HT.out]; simp, by rw [← List.drop_drop, HD.out, List.drop_drop], row_keep Hrow.out (hx2'.keep fun _ => False) (fun _ _ h => h), Hmem.out, Hkp.out.ext_r hx2'⟩
          case measure => simp [intOf]; omega
        | false =>
          have Hf := hid (show keptB n x = true by rw [HB.out, hf]; rfl)
          rw [hf] at HF
          clear hf HB
          go_wp2_with fail
          refine (HF _ hWx.out).out.mono ?_
          intro e w2 hx2
          obtain ⟨rfl, hx2⟩ := hx2
          have hB2 := hW.out.ext hx2
          have d0 := hB2.av 0 rfl
          have d1 := hB2.av 1 rfl
          have d2 := hB2.av 2 rfl
          have d3 := hB2.av 3 rfl
          have d4 := hB2.av 4 rfl
          have d5 := hB2.av 5 rfl
          have hx2' := hWx.out.trans hx2
          have hrow2 := row_keep Hrow.out (hx2'.keep fun _ => False) (fun _ _ h => h)
          have hiR : i < R.length := by have := HRl.out; omega
          obtain ⟨y0, y1, y2, y3, y4, y5⟩ := own_k hrow2 (List.getElem?_eq_getElem hiR)
          have hfr := own_free hrow2
          have hput := hid (own_put6 hrow2 i hiR x)
          have hkp2 := hid ((Hkp.out.ext_r hx2').trans ((store6_keep w2 gb (i * 6) x).mono (Y := fun b => (Value.slice (some ⟨gb, 0, none⟩) ks.length c).ownBlock = some b) (fun b _ e => by rw [e]; rfl)))
          unfold store6 at hput hkp2
          rw [Hv.out] at hput hkp2
          generalize hyv : R[i] = y at *
          clear hyv c0 c1 c2 c3 c4 c5 HF hW hWx hx2 hB2 hrow2
          go_wp2
          go_roundw
          case rel => exact ⟨i + 1, j + 1, R.set i x, by go_num, by go_num, by omega, by omega, by rw [List.length_set]; exact HRl.out, by rw [take_set_succ R i x hiR, filter_snoc ks n j x Hxk.out, Hf.out, HT.out]; simp, by rw [List.drop_set_of_lt (by omega), ← List.drop_drop, HD.out, List.drop_drop], hput.out, fun y hy => (List.mem_or_eq_of_mem_set hy).elim (Hmem.out y) (fun e => by rw [e]; exact List.mem_of_getElem? Hxk.out), hkp2.out⟩
          case measure => simp [intOf]; omega
      · obtain rfl : j = ks.length := by omega
        have hTf : R.take i = ks.filter (keptB n) := by rw [HT.out, List.take_length]
        have hRi : (ks.filter (keptB n)).length = i := by rw [← hTf, List.length_take, HRl.out]; omega
        obtain ⟨cu, hcu, hb0, hcap, hmx, hcs, htk⟩ := own_blk hrow
        obtain ⟨ti, hi, hz0, hz1, hz2⟩ := info_parts kept_info
        have hsz : i * 6 + (ks.length - i) * 6 ≤ cu.size := by rw [hcs]; omega
        have hclr := fun ty => run_clear_row (P := Tryd.prog) wr 104 ty 113 ti _ Tryd.underlying104 hi hz0 (by simp [Value.cells, Value.oneCell']) gb (i * 6) (ks.length - i) (c - i) (by omega) cu hcu hsz
        obtain ⟨cu', hcu'⟩ : ∃ cu', cu' = (cu.toList.take (i * 6) ++ (Builtin.zeroCells (Value.agg #[.int .u8 0, .int .i64 0, .int .i64 0, .int .i64 0, .slice none 0 0, .int .i64 0]).cells (ks.length - i)).toList ++ cu.toList.drop (i * 6 + (ks.length - i) * (Value.agg #[.int .u8 0, .int .i64 0, .int .i64 0, .int .i64 0, .slice none 0 0, .int .i64 0]).cells.size)).toArray := ⟨_, rfl⟩
        rw [← hcu'] at hclr
        have hsz' : cu'.size = c * 6 := by
          have h6 : (Value.agg #[.int .u8 0, .int .i64 0, .int .i64 0, .int .i64 0, .slice none 0 0, .int .i64 0]).cells.size = 6 := rfl
          rw [hcu', List.size_toArray, List.length_append, List.length_append, List.length_take, List.length_drop, Array.length_toList, Array.length_toList, size_zeroCells, h6, hcs]
          omega
        have htk' : cu'.toList.take (i * 6) = (ks.filter (keptB n)).flatMap kcells := by
          rw [hcu', List.toList_toArray, List.append_assoc, List.take_append_of_le_length (by rw [List.length_take, Array.length_toList]; omega), List.take_take, Nat.min_self, ← hTf, ← fm_take kcells 6 kcells_len, ← htk, List.take_take, Nat.min_eq_left (by omega)]
        have hfin := hid (own_of_blk (setRow_blk hcu cu') hb0 (show i ≤ c by omega) hmx hsz' htk')
        have hkf := hid (hkp.trans ((setRow_keep wr gb cu').mono (Y := fun b => (Value.slice (some ⟨gb, 0, none⟩) ks.length c).ownBlock = some b) (fun b _ e => by rw [e]; rfl)))
        have HRi := hid hRi
        have hci : (i : Int) ≤ (ks.length : Int) := by omega
        clear hTf hRi hcu hb0 hcap hmx hcs htk hi hz0 hz1 hz2 hsz hcu' hsz' htk' hrow hkp HRl HT HD Hmem
        go_wp2
        go_ret
        exact ⟨.slice (some ⟨gb, 0, none⟩) i c, rfl, by rw [HRi.out]; exact hfin.out, hkf.out, rfl⟩
end Go.Proofs.YtcfopaopcbjkeaaDoor
