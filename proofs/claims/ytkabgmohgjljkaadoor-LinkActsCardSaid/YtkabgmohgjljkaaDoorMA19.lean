/- Texts of one proof, put together: KD OF KE. -/
import Derived.Test.YtkabgmohgjljkaaDoorMA04
import Derived.Test.YtkabgmohgjljkaaDoorMA09
import Derived.Test.YtkabgmohgjljkaaDoorMA12
import Derived.Test.YtkabgmohgjljkaaDoorMA13
import Derived.Test.YtkabgmohgjljkaaDoorMA17
import Derived.ProofKit
import Derived.OpenShut
import Derived.Lib.SmallJoins
import Derived.Deep.Slices

/- LinkActs: acts that are too many or too long; ends that are none. -/
namespace Go.Proofs.YtkabgmohgjljkaaDoor
set_option linter.unusedSimpArgs false
set_option linter.unusedVariables false
open Go Go.RowKit

theorem AllErrs.c4 {w : World} {ad : Nat → Addr} (h : AllErrs w ad) : ErrsC w (evOf ad) := ⟨h.at2, h.at3, h.at4, h.at8⟩
theorem endsCode_le (fr to : Int) : endsCode fr to ≤ 11 := by
  unfold endsCode
  split
  · omega
  · split <;> omega
set_option maxRecDepth 100000 in
set_option maxHeartbeats 1600000 in
theorem linkacts_long (fr to : Int) (a : Option Addr) (cap : Nat) (l : List AV) (w : World) (ad : Nat → Addr) (hE : AllErrs w ad) (h : ActsAt w w.heap.size a l) (hml : (l.length : Int) ≤ 9223372036854775807) (hlo : longA l = true) :
    Calls Tryd.prog 3 #[.int .i64 fr, .int .i64 to, .slice a l.length cap] w fun e w' => e = .returned (.bool true) ∧ Ext w w' := by
  have HN := hid (linked_any w (evOf ad) hE.c4 (evOf_iface ad))
  have HA := hid h
  have HLo := hid hlo
  clear hE h hlo
  go_enter Tryd.func3, Tryd.ntmps3
  go_wp2_with fail
  refine HN.out.mono ?_
  intro e w1 hx
  obtain ⟨rfl, hx1⟩ := hx
  clear HN
  have HG := hid (longacts_any a cap l w1 w.heap.size (HA.out.ext hx1) hml)
  rw [HLo.out] at HG
  go_wp2_with fail
  refine HG.out.mono ?_
  intro e w2 hx
  obtain ⟨rfl, rfl⟩ := hx
  clear HG
  go_wp2
  go_ret
  exact ⟨rfl, hx1⟩

set_option maxRecDepth 100000 in
set_option maxHeartbeats 3200000 in
theorem linkacts_bad (fr to : Int) (a : Option Addr) (cap : Nat) (l : List AV) (w : World) (ad : Nat → Addr) (hE : AllErrs w ad) (h : ActsAt w w.heap.size a l) (hml : (l.length : Int) ≤ 9223372036854775807) (hlo : longA l = false) (hen : endsCode fr to ≠ 0) :
    Calls Tryd.prog 3 #[.int .i64 fr, .int .i64 to, .slice a l.length cap] w fun e w' => e = .returned (.bool true) ∧ Ext w w' := by
  have HN := hid (linked_any w (evOf ad) hE.c4 (evOf_iface ad))
  have HE := hid hE
  have HA := hid h
  have HLo := hid hlo
  clear hE h hlo
  go_enter Tryd.func3, Tryd.ntmps3
  go_wp2_with fail
  refine HN.out.mono ?_
  intro e w1 hx
  obtain ⟨rfl, hx1⟩ := hx
  clear HN
  have HG := hid (longacts_any a cap l w1 w.heap.size (HA.out.ext hx1) hml)
  rw [HLo.out] at HG
  obtain ⟨c, hc⟩ : ∃ c, c = endsCode fr to := ⟨_, rfl⟩
  have hc11 := endsCode_le fr to
  have hevr : errv (evOf ad) c = evOf ad c := by unfold errv; rw [if_neg (by omega)]
  have HC := hid fun w2 (x : Ext w1 w2) => coded3_any w2 ad (HE.out.ext (hx1.trans x)) c (by omega) c
  rw [hevr] at HC
  have HS := hid (newS_bad fr to w1 (evOf ad) (HE.out.c4.ext hx1) c hc.symm (by omega) (evOf_iface ad c (by omega)))
  have HR := hid (newR_bad fr to w1 (evOf ad) (HE.out.c4.ext hx1) c hc.symm (by omega) (evOf_iface ad c (by omega)))
  have HEn := hid (refends_any fr to w1)
  rw [← hc] at HEn hen hc11
  obtain ⟨t, v, hev⟩ := evOf_iface ad c hen
  rw [hev] at HC HS HR
  simp only [decide_true] at HC
  clear hev hevr hc
  have Hx1 := hid hx1
  clear hx1
  go_wp2_with fail
  refine HG.out.mono ?_
  intro e w2 hx
  obtain ⟨rfl, rfl⟩ := hx
  clear HG
  go_wp2_with fail
  refine HS.out.mono ?_
  intro e w2 hx
  obtain ⟨rfl, rfl⟩ := hx
  clear HS
  go_wp2_with fail
  refine HR.out.mono ?_
  intro e w2 hx
  obtain ⟨rfl, rfl⟩ := hx
  clear HR
  go_wp2_with fail
  refine HEn.out.mono ?_
  intro e w2 hx
  obtain ⟨rfl, rfl⟩ := hx
  clear HEn
  have hcp : ¬ ((c : Int) ≤ 0) := by omega
  go_wp2_with fail
  refine (HC.out w1 (Ext.refl _)).mono ?_
  intro e w2 hx
  obtain ⟨rfl, hx2⟩ := hx
  have Hx2 := hid hx2
  clear hx2
  go_wp2_with fail
  refine (HC.out w2 Hx2.out).mono ?_
  intro e w3 hx
  obtain ⟨rfl, hx3⟩ := hx
  have Hx3 := hid ((Hx1.out.trans Hx2.out).trans hx3)
  clear hx3
  go_wp2
  go_ret
  exact ⟨rfl, Hx3.out⟩
end Go.Proofs.YtkabgmohgjljkaaDoor


/- A struct of five that came in; a frame. -/
namespace Go.Proofs.YtkabgmohgjljkaaDoor
set_option linter.unusedSimpArgs false
set_option linter.unusedVariables false
open Go Go.ChangeShapes Go.WideShapes Go.ChangeAt Go.WideMaps Go.WideElems Go.RowKit Go.Joins Go.Deep

section
variable {H : Type} {enc : TypeId × Value → H} {P : Program} {w : World} {base : Nat} {spare : Nat → Bool} {held : Bool}
set_option maxRecDepth 100000 in
theorem open_agg5 {r : Reach} {b0 : Nat} {t : TypeId} {f0 f1 f2 f3 f4 : Field} {v : Value} {d : DataW H} {p : List MemPlace} (hs : P.underlying t = some (.struct #[f0, f1, f2, f3, f4])) (hone : oneCellFields P #[f0, f1, f2, f3, f4] = true) (hC : P.cellsOf t = 5)
    (hv : Value.okWide P w r b0 t v) (h : DataW.Trod enc P w base spare held t v d p) :
    ∃ (v0 v1 v2 v3 v4 : Value) (y0 y1 y2 y3 y4 : DataW H × List MemPlace) (n : Nat), v = .agg #[v0, v1, v2, v3, v4] ∧
      DataW.trod enc P w base spare held n f0.type [v0] = some y0 ∧ DataW.trod enc P w base spare held n f1.type [v1] = some y1 ∧ DataW.trod enc P w base spare held n f2.type [v2] = some y2 ∧ DataW.trod enc P w base spare held n f3.type [v3] = some y3 ∧ DataW.trod enc P w base spare held n f4.type [v4] = some y4 := by
  obtain ⟨cs, rfl, hsz⟩ := okWide_struct hs hv
  obtain ⟨l⟩ := cs
  match l, hsz.trans hC with
  | [c0, c1, c2, c3, c4], _ =>
    obtain ⟨fuel, hf⟩ := h
    obtain ⟨xs, n, _, hx, _, hlen, hg⟩ := DataW.trod_struct hs hf
    obtain ⟨o0, k0⟩ := hone_of hone 0 f0 rfl
    obtain ⟨o1, k1⟩ := hone_of hone 1 f1 rfl
    obtain ⟨o2, k2⟩ := hone_of hone 2 f2 rfl
    obtain ⟨o3, k3⟩ := hone_of hone 3 f3 rfl
    obtain ⟨o4, k4⟩ := hone_of hone 4 f4 rfl
    match xs, hlen with
    | [y0, y1, y2, y3, y4], _ =>
      exact ⟨c0, c1, c2, c3, c4, y0, y1, y2, y3, y4, n, rfl, by simpa [Value.cells, o0, k0] using hg 0 f0 rfl, by simpa [Value.cells, o1, k1] using hg 1 f1 rfl, by simpa [Value.cells, o2, k2] using hg 2 f2 rfl, by simpa [Value.cells, o3, k3] using hg 3 f3 rfl, by simpa [Value.cells, o4, k4] using hg 4 f4 rfl⟩
end
theorem cells24 : Tryd.prog.cellsOf 45 = 5 := by kernel_rfl

set_option maxRecDepth 100000 in
/-- A frame that came in. -/
theorem frame_of {H : Type} {enc : TypeId × Value → H} {w : World} {base b0 : Nat} {sp : Nat → Bool} {held : Bool} {v : Value} {d : DataW H} {p : List MemPlace} (hv : Value.okWide Tryd.prog w .any b0 45 v) (h : DataW.Trod enc Tryd.prog w base sp held 45 v d p) :
    ∃ (f : Fr) (a : Option Addr) (cap : Nat), v = frv f a cap ∧ Ints w a f.nums.length f.nums ∧ (f.nums.length : Int) ≤ 9223372036854775807 := by
  obtain ⟨v0, v1, v2, v3, v4, y0, y1, y2, y3, y4, n, rfl, h0, h1, h2, h3, h4⟩ := open_agg5 Tryd.underlying45 (by kernel_rfl) cells24 hv h
  obtain ⟨k, e0, _, g0⟩ := DataW.trod_int Tryd.underlying5 h0
  obtain ⟨fr, e1, _, g1⟩ := DataW.trod_int Tryd.underlying3 h1
  obtain ⟨to, e2, _, g2⟩ := DataW.trod_int Tryd.underlying3 h2
  obtain ⟨seq, e3, _, g3⟩ := DataW.trod_int Tryd.underlying3 h3
  obtain ⟨a, len, cap, e4⟩ := slice_form Tryd.underlying43 h4
  simp only [List.cons.injEq, and_true] at e0 e1 e2 e3 e4
  subst e0 e1 e2 e3 e4
  obtain ⟨vs, hi, hl⟩ := ints_of Tryd.underlying43 Tryd.underlying3 (by kernel_rfl) (⟨n, h4⟩ : DataW.Trod enc Tryd.prog w base sp held 43 (Value.slice a len cap) y4.1 y4.2)
  have hb := bounds_u8 g0
  have hln := hi.ln
  refine ⟨⟨UInt8.ofNat k.toNat, fr, to, seq, vs⟩, a, cap, ?_, ?_, ?_⟩
  · have hk : ((UInt8.ofNat k.toNat).toNat : Int) = k := by simp only [UInt8.toNat_ofNat']; omega
    unfold frv
    simp only [hk, hln]
  · simp only [hln]; exact hi
  · simp only [hln]; exact hl

end Go.Proofs.YtkabgmohgjljkaaDoor


/- LinkActs: acts that came in. -/
namespace Go.Proofs.YtkabgmohgjljkaaDoor
set_option linter.unusedSimpArgs false
set_option linter.unusedVariables false
open Go Go.ChangeShapes Go.WideShapes Go.ChangeAt Go.WideMaps Go.WideElems Go.RowKit Go.Joins Go.Deep

theorem list10 {α : Type} {l : List α} (h : l.length = 10) : ∃ c0 c1 c2 c3 c4 c5 c6 c7 c8 c9, l = [c0, c1, c2, c3, c4, c5, c6, c7, c8, c9] := by
  match l, h with
  | [c0, c1, c2, c3, c4, c5, c6, c7, c8, c9], _ => exact ⟨c0, c1, c2, c3, c4, c5, c6, c7, c8, c9, rfl⟩
theorem list6 {α : Type} {l : List α} (h : l.length = 6) : ∃ c0 c1 c2 c3 c4 c5, l = [c0, c1, c2, c3, c4, c5] := by
  match l, h with
  | [c0, c1, c2, c3, c4, c5], _ => exact ⟨c0, c1, c2, c3, c4, c5, rfl⟩
theorem list5 {α : Type} {l : List α} (h : l.length = 5) : ∃ c0 c1 c2 c3 c4, l = [c0, c1, c2, c3, c4] := by
  match l, h with
  | [c0, c1, c2, c3, c4], _ => exact ⟨c0, c1, c2, c3, c4, rfl⟩
theorem cells_act : Tryd.prog.cellsOf 47 = 10 := by kernel_rfl
theorem cells_str : Tryd.prog.cellsOf 9 = 1 := by kernel_rfl
theorem cells_byte : Tryd.prog.cellsOf 5 = 1 := by kernel_rfl
theorem cells_int : Tryd.prog.cellsOf 3 = 1 := by kernel_rfl
theorem cells_ints : Tryd.prog.cellsOf 43 = 1 := by kernel_rfl
theorem cells_bool : Tryd.prog.cellsOf 4 = 1 := by kernel_rfl
theorem Ints.numsAt {w : World} {a : Option Addr} {len cap : Nat} {vs : List Int} (h : Ints w a len vs) : NumsAt w w.heap.size none (.slice a len cap) vs := by
  have hl := h.ln
  subst hl
  exact ⟨a, cap, rfl, h, fun x hx h0 => .inl (h.blt hx h0)⟩
set_option maxRecDepth 100000 in
/-- One act. -/
theorem act_of {H : Type} {enc : TypeId × Value → H} {w : World} {base : Nat} {sp : Nat → Bool} {held : Bool} {n : Nat} {cs : List Value} {y : DataW H × List MemPlace} (h : DataW.trod enc Tryd.prog w base sp held n 47 cs = some y) :
    ∃ x : AV, cs = x.cells ∧ NumsAt w w.heap.size none x.nv x.nums ∧ x.f.At w w.heap.size none := by
  obtain ⟨xs, k, _, _, hl, hxl, hf⟩ := DataW.trod_struct Tryd.underlying47 h
  obtain ⟨c0, c1, c2, c3, c4, c5, c6, c7, c8, c9, rfl⟩ := list10 (hl.trans cells_act)
  obtain ⟨y0, y1, y2, y3, y4, y5, rfl⟩ := list6 hxl
  have g0 : DataW.trod enc Tryd.prog w base sp held k 9 [c0] = some y0 := by simpa [cells_str] using hf 0 _ rfl
  have g1 : DataW.trod enc Tryd.prog w base sp held k 5 [c1] = some y1 := by simpa [cells_byte] using hf 1 _ rfl
  have g2 : DataW.trod enc Tryd.prog w base sp held k 43 [c2] = some y2 := by simpa [cells_ints] using hf 2 _ rfl
  have g3 : DataW.trod enc Tryd.prog w base sp held k 3 [c3] = some y3 := by simpa [cells_int] using hf 3 _ rfl
  have g4 : DataW.trod enc Tryd.prog w base sp held k 45 [c4, c5, c6, c7, c8] = some y4 := by simpa [cells24] using hf 4 _ rfl
  have g5 : DataW.trod enc Tryd.prog w base sp held k 4 [c9] = some y5 := by simpa [cells_bool] using hf 5 _ rfl
  obtain ⟨xs, k2, _, _, _, hxl, hf⟩ := DataW.trod_struct Tryd.underlying45 g4
  obtain ⟨z0, z1, z2, z3, z4, rfl⟩ := list5 hxl
  have k0 : DataW.trod enc Tryd.prog w base sp held k2 5 [c4] = some z0 := by simpa [cells_byte] using hf 0 _ rfl
  have k1 : DataW.trod enc Tryd.prog w base sp held k2 3 [c5] = some z1 := by simpa [cells_int] using hf 1 _ rfl
  have k2' : DataW.trod enc Tryd.prog w base sp held k2 3 [c6] = some z2 := by simpa [cells_int] using hf 2 _ rfl
  have k3 : DataW.trod enc Tryd.prog w base sp held k2 3 [c7] = some z3 := by simpa [cells_int] using hf 3 _ rfl
  have k4 : DataW.trod enc Tryd.prog w base sp held k2 43 [c8] = some z4 := by simpa [cells_ints] using hf 4 _ rfl
  obtain ⟨what, e0, _, _⟩ := DataW.trod_string Tryd.underlying9 g0
  obtain ⟨kd, e1, _, b1⟩ := DataW.trod_int Tryd.underlying5 g1
  obtain ⟨a2, l2, d2, e2⟩ := slice_form Tryd.underlying43 g2
  obtain ⟨nn, e3, _, _⟩ := DataW.trod_int Tryd.underlying3 g3
  obtain ⟨fk, e4, _, b4⟩ := DataW.trod_int Tryd.underlying5 k0
  obtain ⟨fr, e5, _, _⟩ := DataW.trod_int Tryd.underlying3 k1
  obtain ⟨to, e6, _, _⟩ := DataW.trod_int Tryd.underlying3 k2'
  obtain ⟨sq, e7, _, _⟩ := DataW.trod_int Tryd.underlying3 k3
  obtain ⟨a8, l8, d8, e8⟩ := slice_form Tryd.underlying43 k4
  obtain ⟨ow, e9, _⟩ := DataW.trod_bool Tryd.underlying4 g5
  simp only [List.cons.injEq, and_true] at e0 e1 e2 e3 e4 e5 e6 e7 e8 e9
  subst e0 e1 e2 e3 e4 e5 e6 e7 e8 e9
  obtain ⟨v2, hi2, _⟩ := ints_of Tryd.underlying43 Tryd.underlying3 (by kernel_rfl) (⟨k, g2⟩ : DataW.Trod enc Tryd.prog w base sp held 43 (Value.slice a2 l2 d2) y2.1 y2.2)
  obtain ⟨v8, hi8, _⟩ := ints_of Tryd.underlying43 Tryd.underlying3 (by kernel_rfl) (⟨k2, k4⟩ : DataW.Trod enc Tryd.prog w base sp held 43 (Value.slice a8 l8 d8) z4.1 z4.2)
  have h1 := bounds_u8 b1
  have h4 := bounds_u8 b4
  refine ⟨⟨what, UInt8.ofNat kd.toNat, v2, .slice a2 l2 d2, nn, ⟨⟨UInt8.ofNat fk.toNat, fr, to, sq, v8⟩, .slice a8 l8 d8⟩, ow⟩, ?_, hi2.numsAt, hi8.numsAt⟩
  have hk : ((UInt8.ofNat kd.toNat).toNat : Int) = kd := by simp only [UInt8.toNat_ofNat']; omega
  have hf : ((UInt8.ofNat fk.toNat).toNat : Int) = fk := by simp only [UInt8.toNat_ofNat']; omega
  simp only [AV.cells, hk, hf]
set_option maxRecDepth 100000 in
/-- A list of acts. -/
theorem acts_of {H : Type} {enc : TypeId × Value → H} {w : World} {base : Nat} {sp : Nat → Bool} {held : Bool} {a : Option Addr} {len cap : Nat} {d : DataW H} {p : List MemPlace} (h : DataW.Trod enc Tryd.prog w base sp held 22 (.slice a len cap) d p) :
    ∃ l : List AV, l.length = len ∧ ActsAt w w.heap.size a l ∧ (len : Int) ≤ 9223372036854775807 := by
  obtain ⟨fuel, hf⟩ := h
  rcases open_slice Tryd.underlying22 hf with ⟨hcs, _⟩ | ⟨x, l, c, m, n, D, Pl, hcs, _, hl, hm, hmm, _, hx⟩
  · simp [Value.cells] at hcs
    obtain ⟨rfl, rfl, rfl⟩ := hcs
    exact ⟨[], rfl, ⟨fun h => (by cases h), fun y hy => (by cases hy), fun _ h => (by cases h), fun _ h => (by cases h)⟩, by omega⟩
  simp [Value.cells] at hcs
  obtain ⟨rfl, rfl, rfl⟩ := hcs
  have hlm : len ≤ m := by rw [hmm]; split <;> omega
  have hml : maxLen ≤ 9223372036854775807 := by unfold maxLen; decide
  have each : ∀ i, i < len → ∃ z : AV, (∀ (j : Nat) (v : Value), z.cells[j]? = some v → w.cell? ((x.add (i * 10)).add j) = some v) ∧ NumsAt w w.heap.size none z.nv z.nums ∧ z.f.At w w.heap.size none := by
    intro i hi
    obtain ⟨cs', h1, h2⟩ := hx i (by omega)
    rw [cells_act] at h1
    obtain ⟨_, hlen, hcell⟩ := World.cells?_some h1
    obtain ⟨z, rfl, h3, h4⟩ := act_of h2
    refine ⟨z, fun j v hv => ?_, h3, h4⟩
    have hj : j < 10 := by
      have : z.cells.length = 10 := rfl
      rcases Nat.lt_or_ge j 10 with h | h
      · exact h
      · rw [List.getElem?_eq_none (by omega)] at hv; cases hv
    rw [hcell j hj, hv]
  have hinh : Inhabited AV := ⟨⟨⟨#[]⟩, 0, [], .nilIface, 0, ⟨⟨0, 0, 0, 0, []⟩, .nilIface⟩, false⟩⟩
  obtain ⟨Z, hZ⟩ := choose_lt each
  refine ⟨(List.range len).map Z, by simp, ⟨fun _ => ⟨_, rfl⟩, fun y hy i z hz j v hv => ?_, fun z hz => ?_, fun z hz => ?_⟩, by omega⟩
  · obtain rfl := Option.some.inj hy
    have hi : i < len := by
      rcases Nat.lt_or_ge i len with h | h
      · exact h
      · rw [List.getElem?_eq_none (by simp; omega)] at hz; cases hz
    have hzi : z = Z i := by
      rw [List.getElem?_map, List.getElem?_range hi] at hz
      exact (Option.some.inj hz).symm
    subst hzi
    exact (hZ i hi).1 j v hv
  · obtain ⟨i, hi, rfl⟩ := List.mem_map.1 hz
    exact (hZ i (List.mem_range.1 hi)).2.1
  · obtain ⟨i, hi, rfl⟩ := List.mem_map.1 hz
    exact (hZ i (List.mem_range.1 hi)).2.2
end Go.Proofs.YtkabgmohgjljkaaDoor
