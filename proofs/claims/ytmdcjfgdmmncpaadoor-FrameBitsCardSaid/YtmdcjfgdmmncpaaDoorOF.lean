/- A struct of five that came in; a frame. -/
import Derived.Test.YtmdcjfgdmmncpaaDoorFA
import Derived.ProofKit
import Derived.OpenShut
import Derived.Lib.SmallJoins
namespace Go.Proofs.YtmdcjfgdmmncpaaDoor
set_option linter.unusedSimpArgs false
set_option linter.unusedVariables false
open Go Go.ChangeShapes Go.WideShapes Go.ChangeAt Go.WideMaps Go.WideElems Go.RowKit Go.Joins Go.Deep

section
variable {H : Type} {enc : TypeId × Value → H} {P : Program} {w : World} {base : Nat} {spare : Nat → Bool} {held : Bool}
set_option maxRecDepth 100000 in
theorem open_agg5 {r : Reach} {b0 : Nat} {t : TypeId} {f0 f1 f2 f3 f4 : Field} {v : Value} {d : DataW H} {p : List MemPlace} (hs : P.underlying t = some (.struct #[f0, f1, f2, f3, f4])) (hone : oneCellFields P #[f0, f1, f2, f3, f4] = true) (hC : P.cellsOf t = 5)
    (hv : Value.okWide P w r b0 t v) (h : DataW.Trod enc P w base spare held t v d p) :
    ∃ (v0 v1 v2 v3 v4 : Value) (y0 y1 y2 y3 y4 : DataW H × List MemPlace) (n : Nat), v = .agg #[v0, v1, v2, v3, v4] ∧
      DataW.trod enc P w base spare held n f0.type [v0] = some y0 ∧ DataW.trod enc P w base spare held n f1.type [v1] = some y1 ∧ DataW.trod enc P w base spare held n f2.type [v2] = some y2 ∧ DataW.trod enc P w base spare held n f3.type [v3] = some y3 ∧ DataW.trod enc P w base spare held n f4.type [v4] = some y4 := by
  obtain ⟨cs, rfl, hsz⟩ := okWide_struct hs hv
  obtain ⟨l⟩ := cs
  match l, hsz.trans hC with
  | [c0, c1, c2, c3, c4], _ =>
    obtain ⟨fuel, hf⟩ := h
    obtain ⟨xs, n, _, hx, _, hlen, hg⟩ := DataW.trod_struct hs hf
    obtain ⟨o0, k0⟩ := hone_of hone 0 f0 rfl
    obtain ⟨o1, k1⟩ := hone_of hone 1 f1 rfl
    obtain ⟨o2, k2⟩ := hone_of hone 2 f2 rfl
    obtain ⟨o3, k3⟩ := hone_of hone 3 f3 rfl
    obtain ⟨o4, k4⟩ := hone_of hone 4 f4 rfl
    match xs, hlen with
    | [y0, y1, y2, y3, y4], _ =>
      exact ⟨c0, c1, c2, c3, c4, y0, y1, y2, y3, y4, n, rfl, by simpa [Value.cells, o0, k0] using hg 0 f0 rfl, by simpa [Value.cells, o1, k1] using hg 1 f1 rfl, by simpa [Value.cells, o2, k2] using hg 2 f2 rfl, by simpa [Value.cells, o3, k3] using hg 3 f3 rfl, by simpa [Value.cells, o4, k4] using hg 4 f4 rfl⟩
end
theorem cells24 : Tryd.prog.cellsOf 24 = 5 := by kernel_rfl

set_option maxRecDepth 100000 in
/-- A frame that came in. -/
theorem frame_of {H : Type} {enc : TypeId × Value → H} {w : World} {base b0 : Nat} {sp : Nat → Bool} {held : Bool} {v : Value} {d : DataW H} {p : List MemPlace} (hv : Value.okWide Tryd.prog w .any b0 24 v) (h : DataW.Trod enc Tryd.prog w base sp held 24 v d p) :
    ∃ (f : Fr) (a : Option Addr) (cap : Nat), v = frv f a cap ∧ Ints w a f.nums.length f.nums ∧ (f.nums.length : Int) ≤ 9223372036854775807 := by
  obtain ⟨v0, v1, v2, v3, v4, y0, y1, y2, y3, y4, n, rfl, h0, h1, h2, h3, h4⟩ := open_agg5 Tryd.underlying24 (by kernel_rfl) cells24 hv h
  obtain ⟨k, e0, _, g0⟩ := DataW.trod_int Tryd.underlying5 h0
  obtain ⟨fr, e1, _, g1⟩ := DataW.trod_int Tryd.underlying3 h1
  obtain ⟨to, e2, _, g2⟩ := DataW.trod_int Tryd.underlying3 h2
  obtain ⟨seq, e3, _, g3⟩ := DataW.trod_int Tryd.underlying3 h3
  obtain ⟨a, len, cap, e4⟩ := slice_form Tryd.underlying22 h4
  simp only [List.cons.injEq, and_true] at e0 e1 e2 e3 e4
  subst e0 e1 e2 e3 e4
  obtain ⟨vs, hi, hl⟩ := ints_of Tryd.underlying22 Tryd.underlying3 (by kernel_rfl) (⟨n, h4⟩ : DataW.Trod enc Tryd.prog w base sp held 22 (Value.slice a len cap) y4.1 y4.2)
  have hb := bounds_u8 g0
  have hln := hi.ln
  refine ⟨⟨UInt8.ofNat k.toNat, fr, to, seq, vs⟩, a, cap, ?_, ?_, ?_⟩
  · have hk : ((UInt8.ofNat k.toNat).toNat : Int) = k := by simp only [UInt8.toNat_ofNat']; omega
    unfold frv
    simp only [hk, hln]
  · simp only [hln]; exact hi
  · simp only [hln]; exact hl

end Go.Proofs.YtmdcjfgdmmncpaaDoor
