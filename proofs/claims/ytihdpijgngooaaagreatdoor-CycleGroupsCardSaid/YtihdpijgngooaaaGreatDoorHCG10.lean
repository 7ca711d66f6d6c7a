/- Texts of one proof, put together: Y1 Y2 SL S2 Y3 Y4 Y5. -/
import Derived.Test.YtihdpijgngooaaaGreatDoorHCG09
import Derived.Shelf.Strings.Trim
import Derived.Shelf.Small.Utf8
import Derived.Shelf.Small.Bits
import Derived.Shelf.Small.Strs
import Derived.Shelf.Small.Wraps
import Derived.Shelf.Strconv.Itoa0
import Derived.Shelf.Strings.Search1
import Derived.Shelf.Sort.Plain
import Derived.Shelf.Strings.Runes
import Derived.Shelf.Strings.AsciiSet
import Derived.Shelf.Bits.Mul64
import Derived.Shelf.Unicode.DecodeSlow
import Derived.Shelf.Unicode.DecodeAny
import Derived.Shelf.Unicode.DecodeLast
import Derived.Shelf.Slices.Clone
import Derived.Shelf.Slices.CompactI
import Derived.Shelf.Slices.SearchI
import Derived.Shelf.Slices.Delete
import Derived.Shelf.Slices.Cells
import Derived.Shelf.Slices.In.SortNone
import Derived.Shelf.SlicesE.Clone
import Derived.Test.YtihdpijgngooaaaGreatDoorProg
import Derived.Lib.RowBridge
import Derived.Test.YtihdpijgngooaaaGreatDoorHCG01
set_option linter.unusedSimpArgs false
set_option linter.unusedVariables false
namespace Go.Proofs.YtihdpijgngooaaaGreatDoor
open Go Go.RowKit
def SetsR (w : World) (n0 : Nat) (v : Value) (L : List (List Int)) : Prop := ElR n0 v L.length fun i y => ∀ l, L[i]? = some l → ∃ u, w.cell? (y.add i) = some u ∧ IntsR w n0 u l
theorem SetsR.old {w w' : World} {n0 : Nat} {v : Value} {L : List (List Int)} (h : SetsR w n0 v L) (k : Old n0 w w') : SetsR w' n0 v L :=
  ElR.mono h (Nat.le_refl _) fun i y _ hy hE l hl => by
    obtain ⟨u, h1, h2⟩ := hE l hl
    exact ⟨u, k.cellx h1 (by rw [add_block]; exact hy), h2.old k⟩
theorem SetsR.lift {w : World} {n0 n1 : Nat} {v : Value} {L : List (List Int)} (h : SetsR w n0 v L) (hn : n0 ≤ n1) : SetsR w n1 v L :=
  ElR.mono h hn fun i y _ _ hE l hl => by
    obtain ⟨u, h1, h2⟩ := hE l hl
    exact ⟨u, h1, ElR.lift h2 hn⟩
theorem SetsR.ext {w w' : World} {n0 : Nat} {v : Value} {L : List (List Int)} (h : SetsR w n0 v L) (x : Ext w w') : SetsR w' n0 v L := h.old (x.old _)
theorem SetsR.form {w : World} {n0 : Nat} {v : Value} {L : List (List Int)} (h : SetsR w n0 v L) : ∃ a c, v = .slice a L.length c := by
  obtain ⟨a, c, h, _⟩ := h
  exact ⟨a, c, h⟩
theorem SetsR.len {w : World} {n0 : Nat} {v : Value} {L : List (List Int)} (h : SetsR w n0 v L) : (L.length : Int) ≤ 9223372036854775807 := by
  obtain ⟨a, c, _, h2, h3, _⟩ := h
  omega
theorem SetsR.at {w : World} {n0 : Nat} {a : Option Addr} {n cap : Nat} {L : List (List Int)} (h : SetsR w n0 (.slice a n cap) L) {k : Nat} (hk : k < L.length) : ∃ y l b c, a = some y ∧ L[k]? = some l ∧ w.cell? (y.add k) = some (.slice b l.length c) ∧ IntsR w n0 (.slice b l.length c) l := by
  obtain ⟨a', cap', h1, h2, h3, h4, h5⟩ := h
  obtain ⟨rfl, rfl, rfl⟩ : a = a' ∧ n = L.length ∧ cap = cap' := by simpa using h1
  obtain ⟨y, rfl⟩ := h4 (by omega)
  obtain ⟨l, hl⟩ : ∃ l, L[k]? = some l := ⟨_, List.getElem?_eq_getElem hk⟩
  obtain ⟨u, e1, e2⟩ := (h5 y rfl (by omega)).2 k hk l hl
  obtain ⟨b, c, rfl, _⟩ := id e2
  exact ⟨y, l, b, c, rfl, hl, e1, e2⟩
theorem IntsR.len {w : World} {n0 : Nat} {v : Value} {l : List Int} (h : IntsR w n0 v l) : (l.length : Int) ≤ 9223372036854775807 := by
  obtain ⟨a, c, _, h2, h3, _⟩ := h
  omega
section
variable {H : Type} {enc : TypeId × Value → H} {w : World} {base : Nat} {sp : Nat → Bool} {held : Bool} {n : Nat}
end
def fewSets (L : List (List Int)) : Prop := L.length ≤ 50 ∧ ∀ l ∈ L, l.length ≤ 60
theorem rows_info : (Tryz.prog.info? 43).map (fun i => (i.zero, i.size, i.bytes)) = some (some (.slice none 0 0), 1, 24) := by kernel_rfl
def Made (w : World) (vs : List Value) (L : List (List Int)) : Prop := vs.length = L.length ∧ ∀ (i : Nat) v l, vs[i]? = some v → L[i]? = some l → IntsT w v l
theorem Made.keep {X : Nat → Prop} {w w' : World} {vs : List Value} {L : List (List Int)} (h : Made w vs L) (k : Keep X w w') (hX : ∀ b, X b → ¬ IsInt w b) : Made w' vs L :=
  ⟨h.1, fun i v l h1 h2 => (h.2 i v l h1 h2).keep k hX⟩
theorem Made.ext {w w' : World} {vs : List Value} {L : List (List Int)} (h : Made w vs L) (x : Ext w w') : Made w' vs L := ⟨h.1, fun i v l h1 h2 => (h.2 i v l h1 h2).ext x⟩
theorem Made.snoc {w : World} {vs : List Value} {L : List (List Int)} {v : Value} {l : List Int} (h : Made w vs L) (hv : IntsT w v l) : Made w (vs ++ [v]) (L ++ [l]) := by
  refine ⟨by simp [h.1], fun i u m h1 h2 => ?_⟩
  have hlen := h.1
  rcases Nat.lt_trichotomy i L.length with hi | hi | hi
  · rw [List.getElem?_append_left (by omega)] at h1 h2
    exact h.2 i u m h1 h2
  · subst hi
    rw [List.getElem?_append_right (by omega), show L.length - vs.length = 0 by omega] at h1
    rw [List.getElem?_append_right (Nat.le_refl _), Nat.sub_self] at h2
    obtain rfl := Option.some.inj h1
    obtain rfl := Option.some.inj h2
    exact hv
  · rw [List.getElem?_eq_none (by simp; omega)] at h1
    cases h1
theorem SetsR.made {w : World} {base : Nat} {v : Value} {vs : List Value} {L : List (List Int)} (h : w.ownsRow base 43 1 v L.length vs) (hm : Made w vs L) : SetsR w w.heap.size v L := by
  rcases h.2 with ⟨rfl, h0⟩ | ⟨g, cap, cur, rfl, hb, hg, hn, hc, hcs, ht⟩
  · unfold SetsR
    rw [h0]
    exact ⟨none, 0, rfl, Nat.le_refl _, by decide, fun h => absurd h (by omega), fun y hy => by cases hy⟩
  · refine ⟨_, cap, rfl, hn, by unfold maxLen at hc; omega, fun _ => ⟨_, rfl⟩, fun y hy h0 => ?_⟩
    obtain rfl := Option.some.inj hy
    have hB : Blk w g cur 43 := hg
    refine ⟨hB.lt, fun i hi l hl => ?_⟩
    have hi2 : i < vs.length := by rw [hm.1]; exact hi
    obtain ⟨u, hu⟩ : ∃ u, vs[i]? = some u := ⟨_, List.getElem?_eq_getElem hi2⟩
    refine ⟨u, ?_, (hm.2 i u l hu hl).1⟩
    rw [show (⟨g, 0, none⟩ : Addr).add i = ⟨g, i, none⟩ from by by_cases h0 : i = 0 <;> simp [Addr.add, h0]]
    exact own_get h i hu
structure PW (w : World) (n0 : Nat) (ad : Nat → Addr) (a1 a2 a3 : Option Addr) (c1 c2 c3 : Nat) (P : PP) : Prop where
  errs : ErrsP w ad
  prog : ProgR w n0 (.slice a1 P.vars.length c1) (.slice a2 P.funs.length c2) (.slice a3 P.stmts.length c3) P
  z1 : ∀ s ∈ P.vars, s.size ≤ 1000000
  z2 : ∀ s ∈ P.names, s.size ≤ 1000000
  well : P.Well
theorem PW.ext {w w' : World} {n0 : Nat} {ad : Nat → Addr} {a1 a2 a3 : Option Addr} {c1 c2 c3 : Nat} {P : PP} (h : PW w n0 ad a1 a2 a3 c1 c2 c3 P) (x : Ext w w') : PW w' n0 ad a1 a2 a3 c1 c2 c3 P := ⟨h.errs.ext x, h.prog.ext x, h.z1, h.z2, h.well⟩
theorem PW.lift {w : World} {n0 n1 : Nat} {ad : Nat → Addr} {a1 a2 a3 : Option Addr} {c1 c2 c3 : Nat} {P : PP} (h : PW w n0 ad a1 a2 a3 c1 c2 c3 P) (hn : n0 ≤ n1) : PW w n1 ad a1 a2 a3 c1 c2 c3 P := ⟨h.errs, h.prog.lift hn, h.z1, h.z2, h.well⟩
def PP.objectsV (P : PP) : Nat := P.nodesV + P.funs.length
def PP.funV (P : PP) (o : Int) : Int := if 0 ≤ o - P.nodesV ∧ o - P.nodesV < P.funs.length then o - P.nodesV else -1
theorem PP.nodesV_le2 (P : PP) : P.nodesV ≤ P.vars.length + P.stmts.length := by
  unfold PP.nodesV
  have := P.newsN_le P.stmts.length
  omega
set_option maxRecDepth 100000 in
set_option maxHeartbeats 1600000 in
theorem progobjects_any (a1 a2 a3 : Option Addr) (c1 c2 c3 : Nat) (P : PP) (w : World) (n0 : Nat) (ad : Nat → Addr) (h : PW w n0 ad a1 a2 a3 c1 c2 c3 P) :
    Calls Tryz.prog 44 #[pval a1 a2 a3 c1 c2 c3 P] w fun e w' => e = .returned (.int .i64 (P.objectsV : Int)) ∧ Ext w w' := by
  have HM := fun w1 (x : Ext w w1) => hid (prognodes2_any a1 a2 a3 c1 c2 c3 P w1 n0 (h.prog.ext x) (by have := h.well.few; omega) (by have := h.well.few; omega))
  obtain ⟨W, hW⟩ : ∃ W, W = w.alloc (.cells (pcells a1 a2 a3 c1 c2 c3 P) 26) := ⟨_, rfl⟩
  have HX : Hid (Ext w W) := hid (by rw [hW]; exact (Ext.refl _).alloc _)
  have HBx : Hid (Blk W w.heap.size (pcells a1 a2 a3 c1 c2 c3 P) 26) := hid (by rw [hW]; exact Blk.new _ _ _)
  have HWe : Hid (W = w.alloc (.cells #[.slice a1 P.vars.length c1, .slice a2 P.funs.length c2, .slice a3 P.stmts.length c3] 26)) := hid (by rw [hW]; rfl)
  have HPW := hid h
  have HK := fun w1 (x : Ext w w1) => hid (check_well (h.errs.ext x) (h.prog.ext x) h.z1 h.z2 h.well)
  have HN := fun w1 (x : Ext w w1) => hid (prognodes_any a1 a2 a3 c1 c2 c3 P w1 n0 ad (h.errs.ext x) (h.prog.ext x) h.z1 h.z2 h.well)
  obtain ⟨hf1, hf2, hf3⟩ := h.well.few
  have hnl := P.nodesV_le2
  have d0 := HBx.out.av 0 rfl
  have d1 := HBx.out.av 1 rfl
  have d2 := HBx.out.av 2 rfl
  simp only [pcells, qA0, qA1, qA2] at d0 d1 d2
  unfold pval at HK HN ⊢
  clear hW h
  unfold pval at HM
  have Ho : Hid ((P.objectsV : Int) = (P.nodesV : Int) + (P.funs.length : Int)) := hid (by unfold PP.objectsV; omega)
  go_enter Tryz.func44, Tryz.ntmps44
  go_wp2_with fail
  rw [← HWe.out]
  have HK1 := HK W HX.out
  refine HK1.out.mono ?_
  intro e w1 hx
  obtain ⟨rfl, hx1⟩ := hx
  have e0 := (HBx.out.ext hx1).kc (X := fun _ => False) (fun e => e) 0 rfl
  have e1 := (HBx.out.ext hx1).kc (X := fun _ => False) (fun e => e) 1 rfl
  have e2 := (HBx.out.ext hx1).kc (X := fun _ => False) (fun e => e) 2 rfl
  simp only [pcells, qA0, qA1, qA2] at e0 e1 e2
  have Hx1 := hid (HX.out.trans hx1)
  clear HK HK1 HN hx1 d0 d1 d2
  generalize P.nodesV = N at *
  go_wp2
  refine wp_flowT (fun _ => False) (by kernel_rfl) (by kernel_rfl) ?_
  repeat (apply FlowT.d; (intro w1 hk; unfold does; go_simp; (try go_ints); (first | exact DetR.mk | (simp only [↓IntWalk.iteOmega, Oper.doesUpon_value]; exact DetR.mk) | (simp only [↓IntWalk.iteOmega]; go_simp; (try go_ints); exact DetR.mk))); simp only [Act.put, qS0, qS1, qS2])
  apply FlowT.d
  · intro w1 hk
    unfold does
    go_simp
    exact CallR.det ((HM w1 (Hx1.out.trans hk.ext)).out)
  simp only [Act.put, qS0, qS1, qS2]
  repeat (apply FlowT.d; (intro w1 hk; unfold does; go_simp; (try go_ints); (first | exact DetR.mk | (simp only [↓IntWalk.iteOmega, Oper.doesUpon_value]; exact DetR.mk) | (simp only [↓IntWalk.iteOmega]; go_simp; (try go_ints); exact DetR.mk))); simp only [Act.put, qS0, qS1, qS2])
  refine FlowT.fin fun w2 hx2 hk2 => ?_
  have Hx2 := hid (Hx1.out.trans hx2)
  clear hx2 hk2 e0 e1 e2 HM
  go_wp2
  go_ret
  exact ⟨by rw [Ho.out]; rfl, Hx2.out⟩
set_option maxRecDepth 100000 in
set_option maxHeartbeats 1600000 in
theorem progfun_any (a1 a2 a3 : Option Addr) (c1 c2 c3 : Nat) (P : PP) (o : Int) (w : World) (n0 : Nat) (ad : Nat → Addr) (h : PW w n0 ad a1 a2 a3 c1 c2 c3 P) (ho : 0 ≤ o ∧ o < 1000) :
    Calls Tryz.prog 124 #[pval a1 a2 a3 c1 c2 c3 P, .int .i64 o] w fun e w' => e = .returned (.int .i64 (P.funV o)) ∧ Ext w w' := by
  obtain ⟨W, hW⟩ : ∃ W, W = w.alloc (.cells (pcells a1 a2 a3 c1 c2 c3 P) 26) := ⟨_, rfl⟩
  have HX : Hid (Ext w W) := hid (by rw [hW]; exact (Ext.refl _).alloc _)
  have HBx : Hid (Blk W w.heap.size (pcells a1 a2 a3 c1 c2 c3 P) 26) := hid (by rw [hW]; exact Blk.new _ _ _)
  have HWe : Hid (W = w.alloc (.cells #[.slice a1 P.vars.length c1, .slice a2 P.funs.length c2, .slice a3 P.stmts.length c3] 26)) := hid (by rw [hW]; rfl)
  have HPW := hid h
  have HK := fun w1 (x : Ext w w1) => hid (check_well (h.errs.ext x) (h.prog.ext x) h.z1 h.z2 h.well)
  have HN := fun w1 (x : Ext w w1) => hid (prognodes_any a1 a2 a3 c1 c2 c3 P w1 n0 ad (h.errs.ext x) (h.prog.ext x) h.z1 h.z2 h.well)
  obtain ⟨hf1, hf2, hf3⟩ := h.well.few
  have hnl := P.nodesV_le2
  have d0 := HBx.out.av 0 rfl
  have d1 := HBx.out.av 1 rfl
  have d2 := HBx.out.av 2 rfl
  simp only [pcells, qA0, qA1, qA2] at d0 d1 d2
  unfold pval at HK HN ⊢
  clear hW h
  obtain ⟨ho1, ho2⟩ := ho
  obtain ⟨N, hN⟩ : ∃ N, N = P.nodesV := ⟨_, rfl⟩
  have Hf : Hid (P.funV o = if 0 ≤ o - (N : Int) ∧ o - (N : Int) < P.funs.length then o - (N : Int) else -1) := hid (by unfold PP.funV; rw [hN])
  rw [← hN] at hnl HN
  clear hN
  go_enter Tryz.func124, Tryz.ntmps124
  go_wp2_with fail
  rw [← HWe.out]
  have HN1 := HN W HX.out
  refine HN1.out.mono ?_
  intro e w1 hx
  obtain ⟨rfl, hx1⟩ := hx
  have Hx1 := hid hx1
  clear d0 d1 d2
  have d0 := (HBx.out.ext Hx1.out).av 0 rfl
  have d1 := (HBx.out.ext Hx1.out).av 1 rfl
  have d2 := (HBx.out.ext Hx1.out).av 2 rfl
  simp only [pcells, qA0, qA1, qA2] at d0 d1 d2
  have HK1 := HK w1 (HX.out.trans hx1)
  clear HN HN1 HK hx1
  go_wp2_with fail
  refine HK1.out.mono ?_
  intro e w2 hx
  obtain ⟨rfl, hx2⟩ := hx
  have Hx2 := hid (Hx1.out.trans hx2)
  clear d0 d1 d2 HK1 hx2
  have d0 := (HBx.out.ext Hx2.out).av 0 rfl
  have d1 := (HBx.out.ext Hx2.out).av 1 rfl
  have d2 := (HBx.out.ext Hx2.out).av 2 rfl
  simp only [pcells, qA0, qA1, qA2] at d0 d1 d2
  by_cases hlo : o - (N : Int) < 0
  · have Hr : Hid (P.funV o = -1) := hid (by rw [Hf.out, if_neg (by omega)])
    go_wp2
    go_ret
    exact ⟨by rw [Hr.out]; rfl, HX.out.trans Hx2.out⟩
  · by_cases hhi : (P.funs.length : Int) ≤ o - (N : Int)
    · have Hr : Hid (P.funV o = -1) := hid (by rw [Hf.out, if_neg (by omega)])
      go_wp2
      go_ret
      exact ⟨by rw [Hr.out]; rfl, HX.out.trans Hx2.out⟩
    · have Hr : Hid (P.funV o = o - (N : Int)) := hid (by rw [Hf.out, if_pos (by omega)])
      go_wp2
      go_ret
      exact ⟨by rw [Hr.out]; rfl, HX.out.trans Hx2.out⟩
end Go.Proofs.YtihdpijgngooaaaGreatDoor
namespace Go.Proofs
open Go.Shelf
def Tryz.lays189_ren : Go.Shelf.Ren := ⟨fun | 189 => 82 | 125 => 109 | 257 => 108 | 128 => 144 | 129 => 145 | 294 => 135 | 295 => 136 | 296 => 137 | 297 => 138 | 298 => 139 | 299 => 140 | 216 => 141 | 300 => 142 | 301 => 143 | 328 => 163 | 329 => 164 | 330 => 165 | 331 => 166 | 332 => 167 | 215 => 168 | 343 => 182 | n => n, fun | 28 => 43 | 3 => 3 | 46 => 142 | 0 => 0 | 51 => 175 | 53 => 178 | 4 => 4 | 183 => 195 | 182 => 194 | 131 => 200 | 5 => 5 | 9 => 9 | 218 => 229 | 222 => 233 | 228 => 247 | 229 => 100 | n => n, fun | n => n⟩
theorem Tryz.lays189 : Go.Proofs.Lays.n189 Tryz.prog Tryz.lays189_ren := {
  mixed := by kernel_rfl
  f125 := Tryz.func109.trans (congrArg some (by kernel_rfl))
  f128 := Tryz.func144.trans (congrArg some (by kernel_rfl))
  f129 := Tryz.func145.trans (congrArg some (by kernel_rfl))
  f189 := Tryz.func82.trans (congrArg some (by kernel_rfl))
  f215 := Tryz.func168.trans (congrArg some (by kernel_rfl))
  f216 := Tryz.func141.trans (congrArg some (by kernel_rfl))
  f257 := Tryz.func108.trans (congrArg some (by kernel_rfl))
  f294 := Tryz.func135.trans (congrArg some (by kernel_rfl))
  f295 := Tryz.func136.trans (congrArg some (by kernel_rfl))
  f296 := Tryz.func137.trans (congrArg some (by kernel_rfl))
  f297 := Tryz.func138.trans (congrArg some (by kernel_rfl))
  f298 := Tryz.func139.trans (congrArg some (by kernel_rfl))
  f299 := Tryz.func140.trans (congrArg some (by kernel_rfl))
  f300 := Tryz.func142.trans (congrArg some (by kernel_rfl))
  f301 := Tryz.func143.trans (congrArg some (by kernel_rfl))
  f328 := Tryz.func163.trans (congrArg some (by kernel_rfl))
  f329 := Tryz.func164.trans (congrArg some (by kernel_rfl))
  f330 := Tryz.func165.trans (congrArg some (by kernel_rfl))
  f331 := Tryz.func166.trans (congrArg some (by kernel_rfl))
  f332 := Tryz.func167.trans (congrArg some (by kernel_rfl))
  f343 := Tryz.func182.trans (congrArg some (by kernel_rfl))
  t0 := Tryz.underlying0
  a0 := Tryz.isAgg0
  z0 := Tryz.sizeOf0
  v0 := Tryz.zeroValue0
  t3 := Tryz.underlying3
  a3 := Tryz.isAgg3
  z3 := Tryz.sizeOf3
  v3 := Tryz.zeroValue3
  t4 := Tryz.underlying4
  a4 := Tryz.isAgg4
  z4 := Tryz.sizeOf4
  v4 := Tryz.zeroValue4
  t5 := Tryz.underlying5
  a5 := Tryz.isAgg5
  z5 := Tryz.sizeOf5
  v5 := Tryz.zeroValue5
  t9 := Tryz.underlying9
  a9 := Tryz.isAgg9
  z9 := Tryz.sizeOf9
  v9 := Tryz.zeroValue9
  t28 := Tryz.underlying43
  a28 := Tryz.isAgg43
  z28 := Tryz.sizeOf43
  v28 := Tryz.zeroValue43
  t46 := Tryz.underlying142
  a46 := Tryz.isAgg142
  z46 := Tryz.sizeOf142
  v46 := Tryz.zeroValue142
  t51 := Tryz.underlying175
  a51 := Tryz.isAgg175
  z51 := Tryz.sizeOf175
  v51 := Tryz.zeroValue175
  t53 := Tryz.underlying178
  a53 := Tryz.isAgg178
  z53 := Tryz.sizeOf178
  v53 := Tryz.zeroValue178
  t131 := Tryz.underlying200
  a131 := Tryz.isAgg200
  z131 := Tryz.sizeOf200
  v131 := Tryz.zeroValue200
  t182 := Tryz.underlying194
  a182 := Tryz.isAgg194
  z182 := Tryz.sizeOf194
  v182 := Tryz.zeroValue194
  t183 := Tryz.underlying195
  a183 := Tryz.isAgg195
  z183 := Tryz.sizeOf195
  v183 := Tryz.zeroValue195
  t218 := Tryz.underlying229
  a218 := Tryz.isAgg229
  z218 := Tryz.sizeOf229
  v218 := Tryz.zeroValue229
  t222 := Tryz.underlying233
  a222 := Tryz.isAgg233
  z222 := Tryz.sizeOf233
  v222 := Tryz.zeroValue233
  t228 := Tryz.underlying247
  a228 := Tryz.isAgg247
  z228 := Tryz.sizeOf247
  v228 := Tryz.zeroValue247
  t229 := Tryz.underlying100
  a229 := Tryz.isAgg100
  z229 := Tryz.sizeOf100
  v229 := Tryz.zeroValue100 }
open Go.Sort Go.RowKit in
theorem Tryz.slices_Sort_int (blk off cap : Nat) (zs : List Int) (w : World) (hH : Holds (Value.int .i64) w blk off zs.toArray) (hblk : blk < w.heap.size) (hsz : zs.length < 4611686018427387904) :
    Calls Tryz.prog 82 #[.slice (some ⟨blk, off, none⟩) zs.length cap] w fun e w' =>
      e = .returned (.tuple #[]) ∧ ∃ n os, w' = grow (putRow (Value.int .i64) (Sort.ahead w n) blk off (zs.mergeSort fun x y => decide (x ≤ y)).toArray) os := Any.slices_Sort_int Tryz.lays189 blk off cap zs w hH hblk hsz
def Tryz.laysNm220_ren : Go.Shelf.Ren := ⟨fun | 20 => 62 | n => n, fun | 22 => 43 | 3 => 3 | 4 => 4 | 0 => 0 | n => n, fun | n => n⟩
theorem Tryz.laysNm220 : Go.Proofs.Lays2.n20 Tryz.prog Tryz.laysNm220_ren := {
  mixed := by kernel_rfl
  f20 := Tryz.func62.trans (congrArg some (by kernel_rfl))
  t0 := Tryz.underlying0
  a0 := Tryz.isAgg0
  z0 := Tryz.sizeOf0
  v0 := Tryz.zeroValue0
  t3 := Tryz.underlying3
  a3 := Tryz.isAgg3
  z3 := Tryz.sizeOf3
  v3 := Tryz.zeroValue3
  t4 := Tryz.underlying4
  a4 := Tryz.isAgg4
  z4 := Tryz.sizeOf4
  v4 := Tryz.zeroValue4
  t22 := Tryz.underlying43
  a22 := Tryz.isAgg43
  z22 := Tryz.sizeOf43
  v22 := Tryz.zeroValue43
  i3 := by kernel_rfl }
open Go.RowKit Go.Lib Go.Sort in
theorem Tryz.slices_Compact_int (blk off cap : Nat) (zs : List Int) (w : World) (hH : Holds (Value.int .i64) w blk off zs.toArray) (hsz : zs.length ≤ 9223372036854775807) (hcap : zs.length ≤ cap) :
    Calls Tryz.prog 62 #[.slice (some ⟨blk, off, none⟩) zs.length cap] w fun e w' => e = .returned (.slice (some ⟨blk, off, none⟩) (Lib.compact zs).length cap) ∧ ∃ q, w' = putRow (Value.int .i64) (Sort.ahead w q) blk off (Lib.compact zs ++ List.replicate (zs.length - (Lib.compact zs).length) 0).toArray := Any.slices_Compact_int Tryz.laysNm220 blk off cap zs w hH hsz hcap
open Go.RowKit Go.Lib Go.Sort in
theorem Tryz.slices_Compact_int_empty (a : Option Addr) (cap : Nat) (w : World) :
    Calls Tryz.prog 62 #[.slice a 0 cap] w fun e w' => e = .returned (.slice a 0 cap) ∧ w' = w := Any.slices_Compact_int_empty Tryz.laysNm220 a cap w
open Go.RowKit Go.Sort in
theorem Tryz.slices_Sort_int_none (p : Option Addr) (cap : Nat) (w : World) :
    Calls Tryz.prog 82 #[.slice p 0 cap] w fun e w' => e = .returned (.tuple #[]) ∧ w' = w := Any.slices_Sort_int_none Tryz.lays189 p cap w
end Go.Proofs
namespace Go.Proofs.YtihdpijgngooaaaGreatDoor
open Go Go.RowKit
set_option maxRecDepth 100000 in
set_option maxHeartbeats 800000 in
theorem clone_big (v : Value) (l : List Int) (w : World) (n0 : Nat) (h : IntsR w n0 v l) (hl : l.length ≤ 100000) :
    Calls Tryz.prog 45 #[v] w fun e w' => ∃ v', e = .returned v' ∧ Ext w w' ∧ IRow w.heap.size w' v' l := by
  obtain ⟨a, cap, rfl, h2, h3, h4, h5⟩ := id h
  have hl2 : 0 + l.length ≤ 1000000 := by omega
  cases a with
  | none =>
    have h0 : l.length = 0 := by
      rcases Nat.eq_zero_or_pos l.length with e | e
      · exact e
      · obtain ⟨x, hx⟩ := h4 e; cases hx
    obtain rfl : l = [] := List.eq_nil_of_length_eq_zero h0
    have he := Lib.run_eql_slice_nil (P := Tryz.prog) w 43 3 none 0 cap 0 0 Tryz.underlying43
    clear h h2 h3 h4 h5 h0
    go_enter Tryz.func45, Tryz.ntmps45
    go_wp2
    go_ret
    exact ⟨_, rfl, Ext.refl _, IRow.nil _ _⟩
  | some x =>
    have Hs := hid h.src
    have hnil : IRow w.heap.size (w.alloc (.cells #[] 3)) (.slice (some ⟨w.heap.size, 0, none⟩) 0 0) [] := World.ownsRow_made w #[] 0 (Nat.le_refl _) (by unfold maxLen; omega) rfl
    have Hnil := hid hnil
    have hb : w.heap.size ≤ (w.alloc (.cells #[] 3)).heap.size := by simp
    have hx1 : Hid (Ext w (w.alloc (.cells #[] 3))) := hid ((Ext.refl _).alloc _)
    have hs1 : Hid (Src (w.alloc (.cells #[] 3)) (some x) l.length 1 (icells l)) := hid (h.old ((hx1.out).old n0)).src
    have he := Lib.run_eql_slice_nil (P := Tryz.prog) w 43 3 (some x) l.length cap 0 0 Tryz.underlying43
    clear h h2 h3 h4 h5 hnil
    go_enter Tryz.func45, Tryz.ntmps45
    go_wp2_with (at_builtin; refine wpList_append_src w.heap.size hb 43 3 (.int .i64 0) 1 8 Tryz.underlying43 ints_info rfl (by omega) (by omega) rfl _ _ rfl (.slice (some ⟨w.heap.size, 0, none⟩) 0 0) 0 [] rfl Hnil.out (some x) l.length cap (icells l) rfl hs1.out hl2 ?_; intro v' w' h1 h2 h4; have h3 := Keep.new hx1.out h2 (fun k hk => by simp [Value.ownBlock] at hk; omega))
    go_ret
    exact ⟨_, rfl, h3, by unfold IRow; simpa using h1⟩
theorem sort_row (v : Value) (l : List Int) (w : World) (base : Nat) (h : IRow base w v l) (hl : l.length ≤ 100000) :
    Calls Tryz.prog 82 #[v] w fun e w' => e = .returned (.tuple #[]) ∧ IRow base w' v (l.mergeSort fun x y => decide (x ≤ y)) ∧ Keep (fun b => v.ownBlock = some b) w w' := by
  rcases h.case with ⟨rfl, rfl⟩ | ⟨g, cap, rfl⟩
  · refine (Tryz.slices_Sort_int_none none 0 w).mono ?_
    rintro e w' ⟨rfl, rfl⟩
    exact ⟨rfl, by simpa using h, Keep.refl _ _⟩
  · obtain ⟨_, _, _, _, cur, hb, _, _⟩ := h.cur
    refine (Tryz.slices_Sort_int g 0 cap l w h.holds hb.lt (by omega)).mono ?_
    rintro e w' ⟨rfl, q, os, rfl⟩
    obtain ⟨p1, p2⟩ := h.put (q := q) (os := os) (ys := l.mergeSort fun x y => decide (x ≤ y)) (by simp) l.length (by simp)
    refine ⟨rfl, ?_, p2.mono fun b _ e => by simp [Value.ownBlock, e]⟩
    rwa [List.take_of_length_le (by simp)] at p1
theorem compact_row (v : Value) (l : List Int) (w : World) (base : Nat) (h : IRow base w v l) (hl : l.length ≤ 100000) :
    Calls Tryz.prog 62 #[v] w fun e w' => ∃ v', e = .returned v' ∧ IRow base w' v' (Lib.compact l) ∧ Keep (fun b => v.ownBlock = some b) w w' := by
  rcases h.case with ⟨rfl, rfl⟩ | ⟨g, cap, rfl⟩
  · refine (Tryz.slices_Compact_int_empty none 0 w).mono ?_
    rintro e w' ⟨rfl, rfl⟩
    exact ⟨_, rfl, h, Keep.refl _ _⟩
  · obtain ⟨_, _, h2, h3, cur, hb, _, _⟩ := h.cur
    have hcl := Lib.compact_length_le l
    refine (Tryz.slices_Compact_int g 0 cap l w h.holds (by omega) h2).mono ?_
    rintro e w' ⟨rfl, q, rfl⟩
    obtain ⟨p1, p2⟩ := h.put (q := q) (os := #[]) (ys := Lib.compact l ++ List.replicate (l.length - (Lib.compact l).length) 0) (by simp; omega) (Lib.compact l).length (by simp)
    rw [Sort.grow_empty] at p1 p2
    refine ⟨_, rfl, ?_, p2.mono fun b _ e => by simp [Value.ownBlock, e]⟩
    rwa [List.take_left] at p1
theorem Keep.fresh {w w1 w2 : World} {base : Nat} {v : Value} {l : List Int} (hx : Ext w w1) (h : IRow base w1 v l) (hb : w.heap.size ≤ base) (k : Keep (fun b => v.ownBlock = some b) w1 w2) : Ext w w2 :=
  Keep.new hx k fun b hb' => Nat.le_trans hb (h.lt hb').1
def OfR (ad : Nat → Addr) (l : List Int) (n0 : Nat) (w : World) (t : Value) : Prop :=
  (InR l ∧ ∃ v, t = .tuple #[v, .nilIface] ∧ IRow n0 w v (sset l)) ∨ (¬ InR l ∧ t = .tuple #[.slice none 0 0, evOf ad 2])
theorem ofBad {l : List Int} {x : Int} (hx : x ∈ l) (h : x < 0 ∨ 1000 ≤ x) : ¬ InR l := fun g => by
  have := g x hx
  omega
set_option maxRecDepth 100000 in
set_option maxHeartbeats 1600000 in
theorem setof_any (v : Value) (l : List Int) (w : World) (n0 : Nat) (ad : Nat → Addr) (hE : ErrS w ad) (h : IntsR w n0 v l) (hl : l.length ≤ 100000) :
    Calls Tryz.prog 170 #[v] w fun e w' => ∃ t, e = .returned t ∧ OfR ad l w.heap.size w' t ∧ Ext w w' := by
  have HC := fun w1 (x : Ext w w1) => hid (clone_big v l w1 n0 (h.old (x.old n0)) hl)
  obtain ⟨a, cap, rfl, h2, h3, h4, h5⟩ := id h
  have HE := hid hE
  have H4 := hid h4
  have H5 := hid h5
  have g2 := hE.at2
  unfold evOf at g2
  have hml : (l.length : Int) ≤ 9223372036854775807 := by omega
  clear h h2 h3 h4 h5 hE
  go_enter Tryz.func170, Tryz.ntmps170
  go_wp2
  go_loopw [9] (fun t9 wr => ∃ k : Nat, t9 = .int .i64 (k : Int) ∧ k ≤ l.length ∧ (∀ j t, j < k → l[j]? = some t → 0 ≤ t ∧ t < 1000) ∧ Ext w wr) (fun t9 _ => l.length - (intOf t9).toNat)
  case atStart => exact ⟨0, rfl, Nat.zero_le _, fun j t h => by omega, Ext.refl _⟩
  case round =>
    obtain ⟨k, rfl, hk, hp, hx⟩ := hrel
    have Hp := hid hp
    have Hx := hid hx
    have gx2 : ∀ w1, Keep (fun _ => False) wr w1 → w1.cell? ⟨0, 0, none⟩ = some (.iface 262 (.pointer (some (ad 2)))) := fun w1 kk => (hx.trans kk.ext).cellx g2
    clear hp
    by_cases hlt : k < l.length
    · obtain ⟨y, rfl⟩ := H4.out (by omega)
      obtain ⟨q, hq⟩ : ∃ q, l[k]? = some q := ⟨_, List.getElem?_eq_getElem hlt⟩
      have hc := hx.cellx ((H5.out y rfl (by omega)).2 k hlt q hq)
      have Hq := hid hq
      clear hq hx
      by_cases hq0 : q < 0
      · have Hr := hid (ofBad (List.mem_of_getElem? Hq.out) (by omega))
        go_wp2
        refine wp_flowT (fun _ => False) (by kernel_rfl) (by kernel_rfl) ?_
        repeat (apply FlowT.d; (intro w1 hk; unfold does; go_simp; (try go_ints); (first | exact DetR.mk | (simp only [↓IntWalk.iteOmega, Oper.doesUpon_value]; exact DetR.mk) | (simp only [↓IntWalk.iteOmega]; go_simp; (try go_ints); exact DetR.mk))); simp only [Act.put, qS0, qS1, qS2])
        refine FlowT.fin fun w1 hx1 hk1 => ?_
        have Hx1 := hid (Hx.out.trans hx1)
        clear hx1 hk1
        go_wp2
        go_ret2
        exact ⟨_, rfl, .inr ⟨Hr.out, rfl⟩, Hx1.out⟩
      · by_cases hq1 : 1000 ≤ q
        · have Hr := hid (ofBad (List.mem_of_getElem? Hq.out) (by omega))
          go_wp2
          refine wp_flowT (fun _ => False) (by kernel_rfl) (by kernel_rfl) ?_
          repeat (apply FlowT.d; (intro w1 hk; unfold does; go_simp; (try go_ints); (first | exact DetR.mk | (simp only [↓IntWalk.iteOmega, Oper.doesUpon_value]; exact DetR.mk) | (simp only [↓IntWalk.iteOmega]; go_simp; (try go_ints); exact DetR.mk))); simp only [Act.put, qS0, qS1, qS2])
          refine FlowT.fin fun w1 hx1 hk1 => ?_
          have Hx1 := hid (Hx.out.trans hx1)
          clear hx1 hk1
          go_wp2
          go_ret2
          exact ⟨_, rfl, .inr ⟨Hr.out, rfl⟩, Hx1.out⟩
        · have Hb : Hid (0 ≤ q ∧ q < 1000) := hid (by omega)
          clear gx2
          go_wp2
          go_roundw
          case rel =>
            refine ⟨k + 1, by go_num, by omega, fun j t hj ht => ?_, Hx.out⟩
            by_cases hjk : j = k
            · subst hjk
              obtain rfl := Option.some.inj (Hq.out.symm.trans ht)
              exact Hb.out
            · exact Hp.out j t (by omega) ht
          case measure => simp [intOf]; omega
    · obtain rfl : k = l.length := by omega
      have Hin : Hid (InR l) := hid fun t ht => by
        obtain ⟨j, hj, e⟩ := List.mem_iff_getElem.1 ht
        exact Hp.out j t hj (by rw [List.getElem?_eq_getElem hj, e])
      have HC1 := HC wr hx
      clear HC hx gx2
      go_wp2_with fail
      refine HC1.out.mono ?_
      intro e w1 hx
      obtain ⟨v1, rfl, hx1, hr1⟩ := hx
      obtain ⟨a1, p1, rfl⟩ := hr1.form
      have HS := hid (sort_row _ l w1 wr.heap.size hr1 hl)
      have Hr1 := hid hr1
      have Hx1 := hid hx1
      clear HC1 hr1 hx1
      go_wp2_with fail
      refine HS.out.mono ?_
      intro e w2 hx
      obtain ⟨rfl, hr2, hk2⟩ := hx
      have HK := hid (compact_row _ _ w2 wr.heap.size hr2 (by simpa using hl))
      have Hr2 := hid hr2
      have Hk2 := hid (Keep.fresh Hx1.out Hr1.out (Nat.le_refl _) hk2)
      clear HS hr2 hk2
      go_wp2_with fail
      refine HK.out.mono ?_
      intro e w3 hx
      obtain ⟨v3, rfl, hr3, hk3⟩ := hx
      have Hr3 : Hid (IRow w.heap.size w3 v3 (sset l)) := hid (by rw [compact_sort Hin.out] at hr3; exact hr3.base Hx.out.size)
      have Hk3 := hid (Keep.fresh Hk2.out Hr2.out (Nat.le_refl _) hk3)
      obtain ⟨a3, p3, rfl⟩ := Hr3.out.form
      clear HK hr3 hk3
      go_wp2
      go_ret2
      exact ⟨_, rfl, .inl ⟨Hin.out, _, rfl, Hr3.out⟩, Hx.out.trans Hk3.out⟩
structure RV where
  kind : ByteArray
  a : Int
  b : Int
  k : Int
  args : List Int
def RV.val (r : RV) (av : Value) : Value := .agg #[.string r.kind, .int .i64 r.a, .int .i64 r.b, .int .i64 r.k, av]
def bBase : ByteArray := ⟨#[98, 97, 115, 101]⟩
def bCall : ByteArray := ⟨#[99, 97, 108, 108]⟩
def PP.ruleV (P : PP) (k : Nat) (x : PS) : RV :=
  bif x.isK kAddr then ⟨bBase, x.x, x.y, k, []⟩ else
  bif x.isK kNew then ⟨bBase, x.x, P.placeV k, k, []⟩ else
  bif x.isK kFun then ⟨bBase, x.x, (P.nodesV : Int) + x.y, k, []⟩ else
  bif x.isK kCall then ⟨bCall, x.y, x.x, k, x.args⟩ else ⟨x.kind, x.y, x.x, k, []⟩
theorem IntsT.nil (w : World) : IntsT w (.slice none 0 0) [] := ⟨⟨none, 0, rfl, Nat.le_refl _, by decide, fun h => absurd h (by decide), fun y hy => by cases hy⟩, fun b hb => by cases hb⟩
theorem store5_old {w : World} {n : Nat} {v : Value} {l : List Int} {c : Array Value} (h : IntsT w v l) (hB : Blk w n c 90) (b0 b1 b2 b3 b4 : Value) : IntsT (((((w.setCell ⟨n, 0, none⟩ b0).setCell ⟨n, 1, none⟩ b1).setCell ⟨n, 2, none⟩ b2).setCell ⟨n, 3, none⟩ b3).setCell ⟨n, 4, none⟩ b4) v l :=
  h.keep (store5_keep w n b0 b1 b2 b3 b4) fun b e => by subst e; exact IsInt.not hB (by decide)
set_option maxRecDepth 100000 in
set_option maxHeartbeats 6400000 in
theorem consrule_addr (a1 a2 a3 : Option Addr) (c1 c2 c3 : Nat) (P : PP) (k : Nat) (x : PS) (hxk : P.stmts[k]? = some x) (w : World) (n0 : Nat) (ad : Nat → Addr) (h : PW w n0 ad a1 a2 a3 c1 c2 c3 P) (hkx : x.isK kAddr = true) :
    Calls Tryz.prog 78 #[pval a1 a2 a3 c1 c2 c3 P, .int .i64 (k : Int)] w fun e w' => ∃ av, e = .returned ((P.ruleV k x).val av) ∧ IntsT w' av (P.ruleV k x).args ∧ Ext w w' := by
  obtain ⟨W1, hW1⟩ : ∃ W1, W1 = w.alloc (.cells (pcells a1 a2 a3 c1 c2 c3 P) 26) := ⟨_, rfl⟩
  have hx1 : Ext w W1 := by rw [hW1]; exact (Ext.refl _).alloc _
  obtain ⟨W2, hW2⟩ : ∃ W2, W2 = W1.alloc (.cells #[.string ⟨#[]⟩, .int .i64 0, .int .i64 0, .int .i64 0, .slice none 0 0] 90) := ⟨_, rfl⟩
  have hx2 : Ext W1 W2 := by rw [hW2]; exact (Ext.refl _).alloc _
  have hk : k < P.stmts.length := by
    rcases Nat.lt_or_ge k P.stmts.length with h | h
    · exact h
    · rw [List.getElem?_eq_none h] at hxk; cases hxk
  have hml := h.prog.stmts.len
  obtain ⟨y, x', av, cv, rfl, hxk', e0, e1, e2, e3, hI⟩ := (h.prog.ext (hx1.trans hx2)).stmts.at hk
  obtain rfl := Option.some.inj (hxk.symm.trans hxk')
  obtain ⟨W3, hW3⟩ : ∃ W3, W3 = W2.alloc (.cells (scells x av cv) 73) := ⟨_, rfl⟩
  have hx3 : Ext W2 W3 := by rw [hW3]; exact (Ext.refl _).alloc _
  have s1 : W1.heap.size = w.heap.size + 1 := by rw [hW1, heap_size_alloc]
  have s2 : W2.heap.size = w.heap.size + 1 + 1 := by rw [hW2, heap_size_alloc, s1]
  have HX := hid ((hx1.trans hx2).trans hx3)
  have HB0 : Hid (Blk W3 w.heap.size (pcells a1 a2 (some y) c1 c2 c3 P) 26) := hid (by
    have : Blk W1 w.heap.size (pcells a1 a2 (some y) c1 c2 c3 P) 26 := by rw [hW1]; exact Blk.new _ _ _
    exact this.ext (hx2.trans hx3))
  have HB1 : Hid (Blk W3 (w.heap.size + 1) #[.string ⟨#[]⟩, .int .i64 0, .int .i64 0, .int .i64 0, .slice none 0 0] 90) := hid (by
    have : Blk W2 (w.heap.size + 1) #[.string ⟨#[]⟩, .int .i64 0, .int .i64 0, .int .i64 0, .slice none 0 0] 90 := by rw [← s1, hW2]; exact Blk.new _ _ _
    exact this.ext hx3)
  have HB2 : Hid (Blk W3 (w.heap.size + 1 + 1) (scells x av cv) 73) := hid (by rw [← s2, hW3]; exact Blk.new _ _ _)
  have HI := hid (hI.old (hx3.old n0))
  have HPW := hid h
  have Hxk := hid hxk
  rw [hW2, hW1] at e0 e1 e2 e3
  unfold pcells at e0 e1 e2 e3
  have HWe : Hid (W3 = ((w.alloc (.cells #[.slice a1 P.vars.length c1, .slice a2 P.funs.length c2, .slice (some y) P.stmts.length c3] 26)).alloc (.cells #[.string ⟨#[]⟩, .int .i64 0, .int .i64 0, .int .i64 0, .slice none 0 0] 90)).alloc (.cells #[.string x.kind, .int .i64 x.x, .int .i64 x.y, .slice av x.args.length cv] 73)) := hid (by rw [hW3, hW2, hW1]; rfl)
  obtain ⟨hf1, hf2, hf3⟩ := h.well.few
  clear hW1 hW2 hW3 hx1 hx2 hx3 s1 s2 hxk hxk' hI h
  unfold pval
  have Hr : Hid (P.ruleV k x = ⟨bBase, x.x, x.y, k, []⟩) := hid (by unfold PP.ruleV; rw [hkx]; rfl)
  have hkk := hkx
  unfold PS.isK kAddr at hkk
  clear hkx
  clear HWe
  go_enter Tryz.func78, Tryz.ntmps78
  go_wp2
  obtain ⟨V, hV⟩ : ∃ V, V = ((w.alloc (.cells #[.slice a1 P.vars.length c1, .slice a2 P.funs.length c2, .slice (some y) P.stmts.length c3] 26)).alloc (.cells #[.string ⟨#[98, 97, 115, 101]⟩, .int .i64 x.x, .int .i64 x.y, .int .i64 (k : Int), .slice none 0 0] 90)).alloc (.cells #[.string x.kind, .int .i64 x.x, .int .i64 x.y, .slice av x.args.length cv] 73) := ⟨_, rfl⟩
  have hxV : Ext w V := by rw [hV]; exact (((Ext.refl _).alloc _).alloc _).alloc _
  have HB9 : Blk V (w.heap.size + 1) #[.string ⟨#[98, 97, 115, 101]⟩, .int .i64 x.x, .int .i64 x.y, .int .i64 (k : Int), .slice none 0 0] 90 := by
    rw [hV]
    have := (Blk.new (w.alloc (.cells #[.slice a1 P.vars.length c1, .slice a2 P.funs.length c2, .slice (some y) P.stmts.length c3] 26)) #[.string ⟨#[98, 97, 115, 101]⟩, .int .i64 x.x, .int .i64 x.y, .int .i64 (k : Int), .slice none 0 0] 90).alloc (.cells #[.string x.kind, .int .i64 x.x, .int .i64 x.y, .slice av x.args.length cv] 73)
    rwa [heap_size_alloc] at this
  rw [← hV]
  exact bodyPost_ret (v := .agg #[.string ⟨#[98, 97, 115, 101]⟩, .int .i64 x.x, .int .i64 x.y, .int .i64 (k : Int), .slice none 0 0]) (by simp [results, Tryz.results78, go_sem, HB9.av 0 rfl, HB9.av 1 rfl, HB9.av 2 rfl, HB9.av 3 rfl, HB9.av 4 rfl]) rfl ⟨_, by rw [Hr.out]; rfl, by rw [Hr.out]; exact IntsT.nil _, hxV⟩
set_option maxRecDepth 100000 in
set_option maxHeartbeats 6400000 in
theorem consrule_copy (a1 a2 a3 : Option Addr) (c1 c2 c3 : Nat) (P : PP) (k : Nat) (x : PS) (hxk : P.stmts[k]? = some x) (w : World) (n0 : Nat) (ad : Nat → Addr) (h : PW w n0 ad a1 a2 a3 c1 c2 c3 P) (hkx : x.isK kCopy = true) :
    Calls Tryz.prog 78 #[pval a1 a2 a3 c1 c2 c3 P, .int .i64 (k : Int)] w fun e w' => ∃ av, e = .returned ((P.ruleV k x).val av) ∧ IntsT w' av (P.ruleV k x).args ∧ Ext w w' := by
  obtain ⟨W1, hW1⟩ : ∃ W1, W1 = w.alloc (.cells (pcells a1 a2 a3 c1 c2 c3 P) 26) := ⟨_, rfl⟩
  have hx1 : Ext w W1 := by rw [hW1]; exact (Ext.refl _).alloc _
  obtain ⟨W2, hW2⟩ : ∃ W2, W2 = W1.alloc (.cells #[.string ⟨#[]⟩, .int .i64 0, .int .i64 0, .int .i64 0, .slice none 0 0] 90) := ⟨_, rfl⟩
  have hx2 : Ext W1 W2 := by rw [hW2]; exact (Ext.refl _).alloc _
  have hk : k < P.stmts.length := by
    rcases Nat.lt_or_ge k P.stmts.length with h | h
    · exact h
    · rw [List.getElem?_eq_none h] at hxk; cases hxk
  have hml := h.prog.stmts.len
  obtain ⟨y, x', av, cv, rfl, hxk', e0, e1, e2, e3, hI⟩ := (h.prog.ext (hx1.trans hx2)).stmts.at hk
  obtain rfl := Option.some.inj (hxk.symm.trans hxk')
  obtain ⟨W3, hW3⟩ : ∃ W3, W3 = W2.alloc (.cells (scells x av cv) 73) := ⟨_, rfl⟩
  have hx3 : Ext W2 W3 := by rw [hW3]; exact (Ext.refl _).alloc _
  have s1 : W1.heap.size = w.heap.size + 1 := by rw [hW1, heap_size_alloc]
  have s2 : W2.heap.size = w.heap.size + 1 + 1 := by rw [hW2, heap_size_alloc, s1]
  have HX := hid ((hx1.trans hx2).trans hx3)
  have HB0 : Hid (Blk W3 w.heap.size (pcells a1 a2 (some y) c1 c2 c3 P) 26) := hid (by
    have : Blk W1 w.heap.size (pcells a1 a2 (some y) c1 c2 c3 P) 26 := by rw [hW1]; exact Blk.new _ _ _
    exact this.ext (hx2.trans hx3))
  have HB1 : Hid (Blk W3 (w.heap.size + 1) #[.string ⟨#[]⟩, .int .i64 0, .int .i64 0, .int .i64 0, .slice none 0 0] 90) := hid (by
    have : Blk W2 (w.heap.size + 1) #[.string ⟨#[]⟩, .int .i64 0, .int .i64 0, .int .i64 0, .slice none 0 0] 90 := by rw [← s1, hW2]; exact Blk.new _ _ _
    exact this.ext hx3)
  have HB2 : Hid (Blk W3 (w.heap.size + 1 + 1) (scells x av cv) 73) := hid (by rw [← s2, hW3]; exact Blk.new _ _ _)
  have HI := hid (hI.old (hx3.old n0))
  have HPW := hid h
  have Hxk := hid hxk
  rw [hW2, hW1] at e0 e1 e2 e3
  unfold pcells at e0 e1 e2 e3
  have HWe : Hid (W3 = ((w.alloc (.cells #[.slice a1 P.vars.length c1, .slice a2 P.funs.length c2, .slice (some y) P.stmts.length c3] 26)).alloc (.cells #[.string ⟨#[]⟩, .int .i64 0, .int .i64 0, .int .i64 0, .slice none 0 0] 90)).alloc (.cells #[.string x.kind, .int .i64 x.x, .int .i64 x.y, .slice av x.args.length cv] 73)) := hid (by rw [hW3, hW2, hW1]; rfl)
  obtain ⟨hf1, hf2, hf3⟩ := h.well.few
  clear hW1 hW2 hW3 hx1 hx2 hx3 s1 s2 hxk hxk' hI h
  unfold pval
  have h1 : (x.kind.toList == [97, 100, 100, 114]) = false := isK_ne hkx (k' := kAddr) rfl
  have h5 : (x.kind.toList == [110, 101, 119]) = false := isK_ne hkx (k' := kNew) rfl
  have h6 : (x.kind.toList == [102, 117, 110]) = false := isK_ne hkx (k' := kFun) rfl
  have h7 : (x.kind.toList == [99, 97, 108, 108]) = false := isK_ne hkx (k' := kCall) rfl
  have Hr : Hid (P.ruleV k x = ⟨x.kind, x.y, x.x, k, []⟩) := hid (by unfold PP.ruleV; rw [isK_ne hkx (k' := kAddr) rfl, isK_ne hkx (k' := kNew) rfl, isK_ne hkx (k' := kFun) rfl, isK_ne hkx (k' := kCall) rfl]; rfl)
  clear hkx
  clear HWe
  go_enter Tryz.func78, Tryz.ntmps78
  go_wp2
  obtain ⟨V, hV⟩ : ∃ V, V = ((w.alloc (.cells #[.slice a1 P.vars.length c1, .slice a2 P.funs.length c2, .slice (some y) P.stmts.length c3] 26)).alloc (.cells #[.string x.kind, .int .i64 x.y, .int .i64 x.x, .int .i64 (k : Int), .slice none 0 0] 90)).alloc (.cells #[.string x.kind, .int .i64 x.x, .int .i64 x.y, .slice av x.args.length cv] 73) := ⟨_, rfl⟩
  have hxV : Ext w V := by rw [hV]; exact (((Ext.refl _).alloc _).alloc _).alloc _
  have HB9 : Blk V (w.heap.size + 1) #[.string x.kind, .int .i64 x.y, .int .i64 x.x, .int .i64 (k : Int), .slice none 0 0] 90 := by
    rw [hV]
    have := (Blk.new (w.alloc (.cells #[.slice a1 P.vars.length c1, .slice a2 P.funs.length c2, .slice (some y) P.stmts.length c3] 26)) #[.string x.kind, .int .i64 x.y, .int .i64 x.x, .int .i64 (k : Int), .slice none 0 0] 90).alloc (.cells #[.string x.kind, .int .i64 x.x, .int .i64 x.y, .slice av x.args.length cv] 73)
    rwa [heap_size_alloc] at this
  rw [← hV]
  exact bodyPost_ret (v := .agg #[.string x.kind, .int .i64 x.y, .int .i64 x.x, .int .i64 (k : Int), .slice none 0 0]) (by simp [results, Tryz.results78, go_sem, HB9.av 0 rfl, HB9.av 1 rfl, HB9.av 2 rfl, HB9.av 3 rfl, HB9.av 4 rfl]) rfl ⟨_, by rw [Hr.out]; rfl, by rw [Hr.out]; exact IntsT.nil _, hxV⟩
set_option maxRecDepth 100000 in
set_option maxHeartbeats 6400000 in
theorem consrule_load (a1 a2 a3 : Option Addr) (c1 c2 c3 : Nat) (P : PP) (k : Nat) (x : PS) (hxk : P.stmts[k]? = some x) (w : World) (n0 : Nat) (ad : Nat → Addr) (h : PW w n0 ad a1 a2 a3 c1 c2 c3 P) (hkx : x.isK kLoad = true) :
    Calls Tryz.prog 78 #[pval a1 a2 a3 c1 c2 c3 P, .int .i64 (k : Int)] w fun e w' => ∃ av, e = .returned ((P.ruleV k x).val av) ∧ IntsT w' av (P.ruleV k x).args ∧ Ext w w' := by
  obtain ⟨W1, hW1⟩ : ∃ W1, W1 = w.alloc (.cells (pcells a1 a2 a3 c1 c2 c3 P) 26) := ⟨_, rfl⟩
  have hx1 : Ext w W1 := by rw [hW1]; exact (Ext.refl _).alloc _
  obtain ⟨W2, hW2⟩ : ∃ W2, W2 = W1.alloc (.cells #[.string ⟨#[]⟩, .int .i64 0, .int .i64 0, .int .i64 0, .slice none 0 0] 90) := ⟨_, rfl⟩
  have hx2 : Ext W1 W2 := by rw [hW2]; exact (Ext.refl _).alloc _
  have hk : k < P.stmts.length := by
    rcases Nat.lt_or_ge k P.stmts.length with h | h
    · exact h
    · rw [List.getElem?_eq_none h] at hxk; cases hxk
  have hml := h.prog.stmts.len
  obtain ⟨y, x', av, cv, rfl, hxk', e0, e1, e2, e3, hI⟩ := (h.prog.ext (hx1.trans hx2)).stmts.at hk
  obtain rfl := Option.some.inj (hxk.symm.trans hxk')
  obtain ⟨W3, hW3⟩ : ∃ W3, W3 = W2.alloc (.cells (scells x av cv) 73) := ⟨_, rfl⟩
  have hx3 : Ext W2 W3 := by rw [hW3]; exact (Ext.refl _).alloc _
  have s1 : W1.heap.size = w.heap.size + 1 := by rw [hW1, heap_size_alloc]
  have s2 : W2.heap.size = w.heap.size + 1 + 1 := by rw [hW2, heap_size_alloc, s1]
  have HX := hid ((hx1.trans hx2).trans hx3)
  have HB0 : Hid (Blk W3 w.heap.size (pcells a1 a2 (some y) c1 c2 c3 P) 26) := hid (by
    have : Blk W1 w.heap.size (pcells a1 a2 (some y) c1 c2 c3 P) 26 := by rw [hW1]; exact Blk.new _ _ _
    exact this.ext (hx2.trans hx3))
  have HB1 : Hid (Blk W3 (w.heap.size + 1) #[.string ⟨#[]⟩, .int .i64 0, .int .i64 0, .int .i64 0, .slice none 0 0] 90) := hid (by
    have : Blk W2 (w.heap.size + 1) #[.string ⟨#[]⟩, .int .i64 0, .int .i64 0, .int .i64 0, .slice none 0 0] 90 := by rw [← s1, hW2]; exact Blk.new _ _ _
    exact this.ext hx3)
  have HB2 : Hid (Blk W3 (w.heap.size + 1 + 1) (scells x av cv) 73) := hid (by rw [← s2, hW3]; exact Blk.new _ _ _)
  have HI := hid (hI.old (hx3.old n0))
  have HPW := hid h
  have Hxk := hid hxk
  rw [hW2, hW1] at e0 e1 e2 e3
  unfold pcells at e0 e1 e2 e3
  have HWe : Hid (W3 = ((w.alloc (.cells #[.slice a1 P.vars.length c1, .slice a2 P.funs.length c2, .slice (some y) P.stmts.length c3] 26)).alloc (.cells #[.string ⟨#[]⟩, .int .i64 0, .int .i64 0, .int .i64 0, .slice none 0 0] 90)).alloc (.cells #[.string x.kind, .int .i64 x.x, .int .i64 x.y, .slice av x.args.length cv] 73)) := hid (by rw [hW3, hW2, hW1]; rfl)
  obtain ⟨hf1, hf2, hf3⟩ := h.well.few
  clear hW1 hW2 hW3 hx1 hx2 hx3 s1 s2 hxk hxk' hI h
  unfold pval
  have h1 : (x.kind.toList == [97, 100, 100, 114]) = false := isK_ne hkx (k' := kAddr) rfl
  have h5 : (x.kind.toList == [110, 101, 119]) = false := isK_ne hkx (k' := kNew) rfl
  have h6 : (x.kind.toList == [102, 117, 110]) = false := isK_ne hkx (k' := kFun) rfl
  have h7 : (x.kind.toList == [99, 97, 108, 108]) = false := isK_ne hkx (k' := kCall) rfl
  have Hr : Hid (P.ruleV k x = ⟨x.kind, x.y, x.x, k, []⟩) := hid (by unfold PP.ruleV; rw [isK_ne hkx (k' := kAddr) rfl, isK_ne hkx (k' := kNew) rfl, isK_ne hkx (k' := kFun) rfl, isK_ne hkx (k' := kCall) rfl]; rfl)
  clear hkx
  clear HWe
  go_enter Tryz.func78, Tryz.ntmps78
  go_wp2
  obtain ⟨V, hV⟩ : ∃ V, V = ((w.alloc (.cells #[.slice a1 P.vars.length c1, .slice a2 P.funs.length c2, .slice (some y) P.stmts.length c3] 26)).alloc (.cells #[.string x.kind, .int .i64 x.y, .int .i64 x.x, .int .i64 (k : Int), .slice none 0 0] 90)).alloc (.cells #[.string x.kind, .int .i64 x.x, .int .i64 x.y, .slice av x.args.length cv] 73) := ⟨_, rfl⟩
  have hxV : Ext w V := by rw [hV]; exact (((Ext.refl _).alloc _).alloc _).alloc _
  have HB9 : Blk V (w.heap.size + 1) #[.string x.kind, .int .i64 x.y, .int .i64 x.x, .int .i64 (k : Int), .slice none 0 0] 90 := by
    rw [hV]
    have := (Blk.new (w.alloc (.cells #[.slice a1 P.vars.length c1, .slice a2 P.funs.length c2, .slice (some y) P.stmts.length c3] 26)) #[.string x.kind, .int .i64 x.y, .int .i64 x.x, .int .i64 (k : Int), .slice none 0 0] 90).alloc (.cells #[.string x.kind, .int .i64 x.x, .int .i64 x.y, .slice av x.args.length cv] 73)
    rwa [heap_size_alloc] at this
  rw [← hV]
  exact bodyPost_ret (v := .agg #[.string x.kind, .int .i64 x.y, .int .i64 x.x, .int .i64 (k : Int), .slice none 0 0]) (by simp [results, Tryz.results78, go_sem, HB9.av 0 rfl, HB9.av 1 rfl, HB9.av 2 rfl, HB9.av 3 rfl, HB9.av 4 rfl]) rfl ⟨_, by rw [Hr.out]; rfl, by rw [Hr.out]; exact IntsT.nil _, hxV⟩
set_option maxRecDepth 100000 in
set_option maxHeartbeats 6400000 in
theorem consrule_store (a1 a2 a3 : Option Addr) (c1 c2 c3 : Nat) (P : PP) (k : Nat) (x : PS) (hxk : P.stmts[k]? = some x) (w : World) (n0 : Nat) (ad : Nat → Addr) (h : PW w n0 ad a1 a2 a3 c1 c2 c3 P) (hkx : x.isK kStore = true) :
    Calls Tryz.prog 78 #[pval a1 a2 a3 c1 c2 c3 P, .int .i64 (k : Int)] w fun e w' => ∃ av, e = .returned ((P.ruleV k x).val av) ∧ IntsT w' av (P.ruleV k x).args ∧ Ext w w' := by
  obtain ⟨W1, hW1⟩ : ∃ W1, W1 = w.alloc (.cells (pcells a1 a2 a3 c1 c2 c3 P) 26) := ⟨_, rfl⟩
  have hx1 : Ext w W1 := by rw [hW1]; exact (Ext.refl _).alloc _
  obtain ⟨W2, hW2⟩ : ∃ W2, W2 = W1.alloc (.cells #[.string ⟨#[]⟩, .int .i64 0, .int .i64 0, .int .i64 0, .slice none 0 0] 90) := ⟨_, rfl⟩
  have hx2 : Ext W1 W2 := by rw [hW2]; exact (Ext.refl _).alloc _
  have hk : k < P.stmts.length := by
    rcases Nat.lt_or_ge k P.stmts.length with h | h
    · exact h
    · rw [List.getElem?_eq_none h] at hxk; cases hxk
  have hml := h.prog.stmts.len
  obtain ⟨y, x', av, cv, rfl, hxk', e0, e1, e2, e3, hI⟩ := (h.prog.ext (hx1.trans hx2)).stmts.at hk
  obtain rfl := Option.some.inj (hxk.symm.trans hxk')
  obtain ⟨W3, hW3⟩ : ∃ W3, W3 = W2.alloc (.cells (scells x av cv) 73) := ⟨_, rfl⟩
  have hx3 : Ext W2 W3 := by rw [hW3]; exact (Ext.refl _).alloc _
  have s1 : W1.heap.size = w.heap.size + 1 := by rw [hW1, heap_size_alloc]
  have s2 : W2.heap.size = w.heap.size + 1 + 1 := by rw [hW2, heap_size_alloc, s1]
  have HX := hid ((hx1.trans hx2).trans hx3)
  have HB0 : Hid (Blk W3 w.heap.size (pcells a1 a2 (some y) c1 c2 c3 P) 26) := hid (by
    have : Blk W1 w.heap.size (pcells a1 a2 (some y) c1 c2 c3 P) 26 := by rw [hW1]; exact Blk.new _ _ _
    exact this.ext (hx2.trans hx3))
  have HB1 : Hid (Blk W3 (w.heap.size + 1) #[.string ⟨#[]⟩, .int .i64 0, .int .i64 0, .int .i64 0, .slice none 0 0] 90) := hid (by
    have : Blk W2 (w.heap.size + 1) #[.string ⟨#[]⟩, .int .i64 0, .int .i64 0, .int .i64 0, .slice none 0 0] 90 := by rw [← s1, hW2]; exact Blk.new _ _ _
    exact this.ext hx3)
  have HB2 : Hid (Blk W3 (w.heap.size + 1 + 1) (scells x av cv) 73) := hid (by rw [← s2, hW3]; exact Blk.new _ _ _)
  have HI := hid (hI.old (hx3.old n0))
  have HPW := hid h
  have Hxk := hid hxk
  rw [hW2, hW1] at e0 e1 e2 e3
  unfold pcells at e0 e1 e2 e3
  have HWe : Hid (W3 = ((w.alloc (.cells #[.slice a1 P.vars.length c1, .slice a2 P.funs.length c2, .slice (some y) P.stmts.length c3] 26)).alloc (.cells #[.string ⟨#[]⟩, .int .i64 0, .int .i64 0, .int .i64 0, .slice none 0 0] 90)).alloc (.cells #[.string x.kind, .int .i64 x.x, .int .i64 x.y, .slice av x.args.length cv] 73)) := hid (by rw [hW3, hW2, hW1]; rfl)
  obtain ⟨hf1, hf2, hf3⟩ := h.well.few
  clear hW1 hW2 hW3 hx1 hx2 hx3 s1 s2 hxk hxk' hI h
  unfold pval
  have h1 : (x.kind.toList == [97, 100, 100, 114]) = false := isK_ne hkx (k' := kAddr) rfl
  have h5 : (x.kind.toList == [110, 101, 119]) = false := isK_ne hkx (k' := kNew) rfl
  have h6 : (x.kind.toList == [102, 117, 110]) = false := isK_ne hkx (k' := kFun) rfl
  have h7 : (x.kind.toList == [99, 97, 108, 108]) = false := isK_ne hkx (k' := kCall) rfl
  have Hr : Hid (P.ruleV k x = ⟨x.kind, x.y, x.x, k, []⟩) := hid (by unfold PP.ruleV; rw [isK_ne hkx (k' := kAddr) rfl, isK_ne hkx (k' := kNew) rfl, isK_ne hkx (k' := kFun) rfl, isK_ne hkx (k' := kCall) rfl]; rfl)
  clear hkx
  clear HWe
  go_enter Tryz.func78, Tryz.ntmps78
  go_wp2
  obtain ⟨V, hV⟩ : ∃ V, V = ((w.alloc (.cells #[.slice a1 P.vars.length c1, .slice a2 P.funs.length c2, .slice (some y) P.stmts.length c3] 26)).alloc (.cells #[.string x.kind, .int .i64 x.y, .int .i64 x.x, .int .i64 (k : Int), .slice none 0 0] 90)).alloc (.cells #[.string x.kind, .int .i64 x.x, .int .i64 x.y, .slice av x.args.length cv] 73) := ⟨_, rfl⟩
  have hxV : Ext w V := by rw [hV]; exact (((Ext.refl _).alloc _).alloc _).alloc _
  have HB9 : Blk V (w.heap.size + 1) #[.string x.kind, .int .i64 x.y, .int .i64 x.x, .int .i64 (k : Int), .slice none 0 0] 90 := by
    rw [hV]
    have := (Blk.new (w.alloc (.cells #[.slice a1 P.vars.length c1, .slice a2 P.funs.length c2, .slice (some y) P.stmts.length c3] 26)) #[.string x.kind, .int .i64 x.y, .int .i64 x.x, .int .i64 (k : Int), .slice none 0 0] 90).alloc (.cells #[.string x.kind, .int .i64 x.x, .int .i64 x.y, .slice av x.args.length cv] 73)
    rwa [heap_size_alloc] at this
  rw [← hV]
  exact bodyPost_ret (v := .agg #[.string x.kind, .int .i64 x.y, .int .i64 x.x, .int .i64 (k : Int), .slice none 0 0]) (by simp [results, Tryz.results78, go_sem, HB9.av 0 rfl, HB9.av 1 rfl, HB9.av 2 rfl, HB9.av 3 rfl, HB9.av 4 rfl]) rfl ⟨_, by rw [Hr.out]; rfl, by rw [Hr.out]; exact IntsT.nil _, hxV⟩
set_option maxRecDepth 100000 in
set_option maxHeartbeats 6400000 in
theorem consrule_new (a1 a2 a3 : Option Addr) (c1 c2 c3 : Nat) (P : PP) (k : Nat) (x : PS) (hxk : P.stmts[k]? = some x) (w : World) (n0 : Nat) (ad : Nat → Addr) (h : PW w n0 ad a1 a2 a3 c1 c2 c3 P) (hkx : x.isK kNew = true) :
    Calls Tryz.prog 78 #[pval a1 a2 a3 c1 c2 c3 P, .int .i64 (k : Int)] w fun e w' => ∃ av, e = .returned ((P.ruleV k x).val av) ∧ IntsT w' av (P.ruleV k x).args ∧ Ext w w' := by
  have HPl := fun w1 (x : Ext w w1) => hid (progplace_any a1 a2 a3 c1 c2 c3 P (k : Int) w1 n0 ad (h.errs.ext x) (h.prog.ext x) h.z1 h.z2 h.well)
  obtain ⟨W1, hW1⟩ : ∃ W1, W1 = w.alloc (.cells (pcells a1 a2 a3 c1 c2 c3 P) 26) := ⟨_, rfl⟩
  have hx1 : Ext w W1 := by rw [hW1]; exact (Ext.refl _).alloc _
  obtain ⟨W2, hW2⟩ : ∃ W2, W2 = W1.alloc (.cells #[.string ⟨#[]⟩, .int .i64 0, .int .i64 0, .int .i64 0, .slice none 0 0] 90) := ⟨_, rfl⟩
  have hx2 : Ext W1 W2 := by rw [hW2]; exact (Ext.refl _).alloc _
  have hk : k < P.stmts.length := by
    rcases Nat.lt_or_ge k P.stmts.length with h | h
    · exact h
    · rw [List.getElem?_eq_none h] at hxk; cases hxk
  have hml := h.prog.stmts.len
  obtain ⟨y, x', av, cv, rfl, hxk', e0, e1, e2, e3, hI⟩ := (h.prog.ext (hx1.trans hx2)).stmts.at hk
  obtain rfl := Option.some.inj (hxk.symm.trans hxk')
  obtain ⟨W3, hW3⟩ : ∃ W3, W3 = W2.alloc (.cells (scells x av cv) 73) := ⟨_, rfl⟩
  have hx3 : Ext W2 W3 := by rw [hW3]; exact (Ext.refl _).alloc _
  have s1 : W1.heap.size = w.heap.size + 1 := by rw [hW1, heap_size_alloc]
  have s2 : W2.heap.size = w.heap.size + 1 + 1 := by rw [hW2, heap_size_alloc, s1]
  have HX := hid ((hx1.trans hx2).trans hx3)
  have HB0 : Hid (Blk W3 w.heap.size (pcells a1 a2 (some y) c1 c2 c3 P) 26) := hid (by
    have : Blk W1 w.heap.size (pcells a1 a2 (some y) c1 c2 c3 P) 26 := by rw [hW1]; exact Blk.new _ _ _
    exact this.ext (hx2.trans hx3))
  have HB1 : Hid (Blk W3 (w.heap.size + 1) #[.string ⟨#[]⟩, .int .i64 0, .int .i64 0, .int .i64 0, .slice none 0 0] 90) := hid (by
    have : Blk W2 (w.heap.size + 1) #[.string ⟨#[]⟩, .int .i64 0, .int .i64 0, .int .i64 0, .slice none 0 0] 90 := by rw [← s1, hW2]; exact Blk.new _ _ _
    exact this.ext hx3)
  have HB2 : Hid (Blk W3 (w.heap.size + 1 + 1) (scells x av cv) 73) := hid (by rw [← s2, hW3]; exact Blk.new _ _ _)
  have HI := hid (hI.old (hx3.old n0))
  have HPW := hid h
  have Hxk := hid hxk
  rw [hW2, hW1] at e0 e1 e2 e3
  unfold pcells at e0 e1 e2 e3
  have HWe : Hid (W3 = ((w.alloc (.cells #[.slice a1 P.vars.length c1, .slice a2 P.funs.length c2, .slice (some y) P.stmts.length c3] 26)).alloc (.cells #[.string ⟨#[]⟩, .int .i64 0, .int .i64 0, .int .i64 0, .slice none 0 0] 90)).alloc (.cells #[.string x.kind, .int .i64 x.x, .int .i64 x.y, .slice av x.args.length cv] 73)) := hid (by rw [hW3, hW2, hW1]; rfl)
  obtain ⟨hf1, hf2, hf3⟩ := h.well.few
  clear hW1 hW2 hW3 hx1 hx2 hx3 s1 s2 hxk hxk' hI h
  unfold pval
  unfold pval at HPl
  have h1 : (x.kind.toList == [97, 100, 100, 114]) = false := isK_ne hkx (k' := kAddr) rfl
  have hkk := hkx
  unfold PS.isK kNew at hkk
  have Hr : Hid (P.ruleV k x = ⟨bBase, x.x, P.placeV k, k, []⟩) := hid (by unfold PP.ruleV; rw [isK_ne hkx (k' := kAddr) rfl, hkx]; rfl)
  clear hkx
  have x0 := Ext.refl W3
  have m0 := (HB2.out.ext x0).kc (X := fun _ => False) (fun e => e) 0 rfl
  have m1 := (HB2.out.ext x0).kc (X := fun _ => False) (fun e => e) 1 rfl
  have m2 := (HB2.out.ext x0).kc (X := fun _ => False) (fun e => e) 2 rfl
  have m3 := (HB2.out.ext x0).kc (X := fun _ => False) (fun e => e) 3 rfl
  have d0 := (HB0.out.ext x0).kc (X := fun _ => False) (fun e => e) 0 rfl
  have d1 := (HB0.out.ext x0).kc (X := fun _ => False) (fun e => e) 1 rfl
  have d2 := (HB0.out.ext x0).kc (X := fun _ => False) (fun e => e) 2 rfl
  simp only [pcells, scells, qA0, qA1, qA2] at m0 m1 m2 m3 d0 d1 d2
  clear x0
  go_enter Tryz.func78, Tryz.ntmps78
  go_wp2
  rw [← HWe.out]
  refine wp_flowT (fun _ => False) (by kernel_rfl) (by kernel_rfl) ?_
  repeat (apply FlowT.d; (intro w1 hk; unfold does; go_simp; (try go_ints); (first | exact DetR.mk | (simp only [↓IntWalk.iteOmega, Oper.doesUpon_value]; exact DetR.mk) | (simp only [↓IntWalk.iteOmega]; go_simp; (try go_ints); exact DetR.mk))); simp only [Act.put, qS0, qS1, qS2])
  apply FlowT.d
  · intro w1 hk
    unfold does
    go_simp
    exact CallR.det ((HPl w1 (HX.out.trans hk.ext)).out)
  simp only [Act.put, qS0, qS1, qS2]
  repeat (apply FlowT.d; (intro w1 hk; unfold does; go_simp; (try go_ints); (first | exact DetR.mk | (simp only [↓IntWalk.iteOmega, Oper.doesUpon_value]; exact DetR.mk) | (simp only [↓IntWalk.iteOmega]; go_simp; (try go_ints); exact DetR.mk))); simp only [Act.put, qS0, qS1, qS2])
  refine FlowT.last (fun _ w' => Blk w' (w.heap.size + 1) #[.string ⟨#[98, 97, 115, 101]⟩, .int .i64 x.x, .int .i64 (P.placeV k), .int .i64 (k : Int), .slice none 0 0] 90 ∧ IntsT w' (.slice none 0 0) (P.ruleV k x).args ∧ Ext w w') 7 rfl (by kernel_rfl) (by kernel_rfl) (fun w1 hC hk => ?_) (fun _ w2 hR => ?_)
  · have hB := HB1.out.ext hC
    have c0 := hB.av 0 rfl
    have c1 := hB.av 1 rfl
    have c2 := hB.av 2 rfl
    have c3 := hB.av 3 rfl
    have c4 := hB.av 4 rfl
    have f0 := hB.free
    unfold does
    go_simp
    exact ⟨store5 hB, by rw [Hr.out]; exact IntsT.nil _, Keep.new (HX.out.trans hC) (store5_keep _ _ _ _ _ _ _) (fun b hb => by omega)⟩
  obtain ⟨hB, hT, hxw⟩ := hR
  simp only [Act.put]
  have HT := hid hT
  have HBw := hid hB
  clear hT
  go_wp2
  exact bodyPost_ret (v := .agg #[.string ⟨#[98, 97, 115, 101]⟩, .int .i64 x.x, .int .i64 (P.placeV k), .int .i64 (k : Int), .slice none 0 0]) (by simp [results, Tryz.results78, go_sem, hB.av 0 rfl, hB.av 1 rfl, hB.av 2 rfl, hB.av 3 rfl, hB.av 4 rfl]) rfl ⟨_, by rw [Hr.out]; rfl, HT.out, hxw⟩
set_option maxRecDepth 100000 in
set_option maxHeartbeats 6400000 in
theorem consrule_fun (a1 a2 a3 : Option Addr) (c1 c2 c3 : Nat) (P : PP) (k : Nat) (x : PS) (hxk : P.stmts[k]? = some x) (w : World) (n0 : Nat) (ad : Nat → Addr) (h : PW w n0 ad a1 a2 a3 c1 c2 c3 P) (hkx : x.isK kFun = true) :
    Calls Tryz.prog 78 #[pval a1 a2 a3 c1 c2 c3 P, .int .i64 (k : Int)] w fun e w' => ∃ av, e = .returned ((P.ruleV k x).val av) ∧ IntsT w' av (P.ruleV k x).args ∧ Ext w w' := by
  have HNo := fun w1 (x : Ext w w1) => hid (prognodes_any a1 a2 a3 c1 c2 c3 P w1 n0 ad (h.errs.ext x) (h.prog.ext x) h.z1 h.z2 h.well)
  have hg := (PP.good (h.well.2 k x (by
    rcases Nat.lt_or_ge k P.stmts.length with h | h
    · exact h
    · rw [List.getElem?_eq_none h] at hxk; cases hxk) hxk)).yf hkx
  have hnl := P.nodesV_le2
  obtain ⟨W1, hW1⟩ : ∃ W1, W1 = w.alloc (.cells (pcells a1 a2 a3 c1 c2 c3 P) 26) := ⟨_, rfl⟩
  have hx1 : Ext w W1 := by rw [hW1]; exact (Ext.refl _).alloc _
  obtain ⟨W2, hW2⟩ : ∃ W2, W2 = W1.alloc (.cells #[.string ⟨#[]⟩, .int .i64 0, .int .i64 0, .int .i64 0, .slice none 0 0] 90) := ⟨_, rfl⟩
  have hx2 : Ext W1 W2 := by rw [hW2]; exact (Ext.refl _).alloc _
  have hk : k < P.stmts.length := by
    rcases Nat.lt_or_ge k P.stmts.length with h | h
    · exact h
    · rw [List.getElem?_eq_none h] at hxk; cases hxk
  have hml := h.prog.stmts.len
  obtain ⟨y, x', av, cv, rfl, hxk', e0, e1, e2, e3, hI⟩ := (h.prog.ext (hx1.trans hx2)).stmts.at hk
  obtain rfl := Option.some.inj (hxk.symm.trans hxk')
  obtain ⟨W3, hW3⟩ : ∃ W3, W3 = W2.alloc (.cells (scells x av cv) 73) := ⟨_, rfl⟩
  have hx3 : Ext W2 W3 := by rw [hW3]; exact (Ext.refl _).alloc _
  have s1 : W1.heap.size = w.heap.size + 1 := by rw [hW1, heap_size_alloc]
  have s2 : W2.heap.size = w.heap.size + 1 + 1 := by rw [hW2, heap_size_alloc, s1]
  have HX := hid ((hx1.trans hx2).trans hx3)
  have HB0 : Hid (Blk W3 w.heap.size (pcells a1 a2 (some y) c1 c2 c3 P) 26) := hid (by
    have : Blk W1 w.heap.size (pcells a1 a2 (some y) c1 c2 c3 P) 26 := by rw [hW1]; exact Blk.new _ _ _
    exact this.ext (hx2.trans hx3))
  have HB1 : Hid (Blk W3 (w.heap.size + 1) #[.string ⟨#[]⟩, .int .i64 0, .int .i64 0, .int .i64 0, .slice none 0 0] 90) := hid (by
    have : Blk W2 (w.heap.size + 1) #[.string ⟨#[]⟩, .int .i64 0, .int .i64 0, .int .i64 0, .slice none 0 0] 90 := by rw [← s1, hW2]; exact Blk.new _ _ _
    exact this.ext hx3)
  have HB2 : Hid (Blk W3 (w.heap.size + 1 + 1) (scells x av cv) 73) := hid (by rw [← s2, hW3]; exact Blk.new _ _ _)
  have HI := hid (hI.old (hx3.old n0))
  have HPW := hid h
  have Hxk := hid hxk
  rw [hW2, hW1] at e0 e1 e2 e3
  unfold pcells at e0 e1 e2 e3
  have HWe : Hid (W3 = ((w.alloc (.cells #[.slice a1 P.vars.length c1, .slice a2 P.funs.length c2, .slice (some y) P.stmts.length c3] 26)).alloc (.cells #[.string ⟨#[]⟩, .int .i64 0, .int .i64 0, .int .i64 0, .slice none 0 0] 90)).alloc (.cells #[.string x.kind, .int .i64 x.x, .int .i64 x.y, .slice av x.args.length cv] 73)) := hid (by rw [hW3, hW2, hW1]; rfl)
  obtain ⟨hf1, hf2, hf3⟩ := h.well.few
  clear hW1 hW2 hW3 hx1 hx2 hx3 s1 s2 hxk hxk' hI h
  unfold pval
  unfold pval at HNo
  have h1 : (x.kind.toList == [97, 100, 100, 114]) = false := isK_ne hkx (k' := kAddr) rfl
  have h5 : (x.kind.toList == [110, 101, 119]) = false := isK_ne hkx (k' := kNew) rfl
  have hkk := hkx
  unfold PS.isK kFun at hkk
  obtain ⟨N, hN⟩ : ∃ N, N = P.nodesV := ⟨_, rfl⟩
  have Hr : Hid (P.ruleV k x = ⟨bBase, x.x, (N : Int) + x.y, k, []⟩) := hid (by unfold PP.ruleV; rw [isK_ne hkx (k' := kAddr) rfl, isK_ne hkx (k' := kNew) rfl, hkx, hN]; rfl)
  rw [← hN] at HNo hnl
  obtain ⟨hg1, hg2⟩ := hg
  clear hkx hN
  have x0 := Ext.refl W3
  have m0 := (HB2.out.ext x0).kc (X := fun _ => False) (fun e => e) 0 rfl
  have m1 := (HB2.out.ext x0).kc (X := fun _ => False) (fun e => e) 1 rfl
  have m2 := (HB2.out.ext x0).kc (X := fun _ => False) (fun e => e) 2 rfl
  have m3 := (HB2.out.ext x0).kc (X := fun _ => False) (fun e => e) 3 rfl
  have d0 := (HB0.out.ext x0).kc (X := fun _ => False) (fun e => e) 0 rfl
  have d1 := (HB0.out.ext x0).kc (X := fun _ => False) (fun e => e) 1 rfl
  have d2 := (HB0.out.ext x0).kc (X := fun _ => False) (fun e => e) 2 rfl
  simp only [pcells, scells, qA0, qA1, qA2] at m0 m1 m2 m3 d0 d1 d2
  clear x0
  go_enter Tryz.func78, Tryz.ntmps78
  go_wp2
  rw [← HWe.out]
  refine wp_flowT (fun _ => False) (by kernel_rfl) (by kernel_rfl) ?_
  repeat (apply FlowT.d; (intro w1 hk; unfold does; go_simp; (try go_ints); (first | exact DetR.mk | (simp only [↓IntWalk.iteOmega, Oper.doesUpon_value]; exact DetR.mk) | (simp only [↓IntWalk.iteOmega]; go_simp; (try go_ints); exact DetR.mk))); simp only [Act.put, qS0, qS1, qS2])
  apply FlowT.d
  · intro w1 hk
    unfold does
    go_simp
    exact CallR.det ((HNo w1 (HX.out.trans hk.ext)).out)
  simp only [Act.put, qS0, qS1, qS2]
  repeat (apply FlowT.d; (intro w1 hk; unfold does; go_simp; (try go_ints); (first | exact DetR.mk | (simp only [↓IntWalk.iteOmega, Oper.doesUpon_value]; exact DetR.mk) | (simp only [↓IntWalk.iteOmega]; go_simp; (try go_ints); exact DetR.mk))); simp only [Act.put, qS0, qS1, qS2])
  refine FlowT.last (fun _ w' => Blk w' (w.heap.size + 1) #[.string ⟨#[98, 97, 115, 101]⟩, .int .i64 x.x, .int .i64 ((N : Int) + x.y), .int .i64 (k : Int), .slice none 0 0] 90 ∧ IntsT w' (.slice none 0 0) (P.ruleV k x).args ∧ Ext w w') 9 rfl (by kernel_rfl) (by kernel_rfl) (fun w1 hC hk => ?_) (fun _ w2 hR => ?_)
  · have hB := HB1.out.ext hC
    have c0 := hB.av 0 rfl
    have c1 := hB.av 1 rfl
    have c2 := hB.av 2 rfl
    have c3 := hB.av 3 rfl
    have c4 := hB.av 4 rfl
    have f0 := hB.free
    unfold does
    go_simp
    exact ⟨store5 hB, by rw [Hr.out]; exact IntsT.nil _, Keep.new (HX.out.trans hC) (store5_keep _ _ _ _ _ _ _) (fun b hb => by omega)⟩
  obtain ⟨hB, hT, hxw⟩ := hR
  simp only [Act.put]
  have HT := hid hT
  have HBw := hid hB
  clear hT
  go_wp2
  exact bodyPost_ret (v := .agg #[.string ⟨#[98, 97, 115, 101]⟩, .int .i64 x.x, .int .i64 ((N : Int) + x.y), .int .i64 (k : Int), .slice none 0 0]) (by simp [results, Tryz.results78, go_sem, hB.av 0 rfl, hB.av 1 rfl, hB.av 2 rfl, hB.av 3 rfl, hB.av 4 rfl]) rfl ⟨_, by rw [Hr.out]; rfl, HT.out, hxw⟩
theorem call_few {P : PP} {x : PS} (h0 : P.stmtErr x = 0) (h : x.isK kCall = true) : x.args.length ≤ 3 := by
  unfold PP.stmtErr at h0
  cases h1 : memB x.kind kindsS with
  | false => rw [h1] at h0; simp at h0
  | true =>
    cases h2 : P.bound x with
    | false => rw [h1, h2] at h0; simp at h0
    | true =>
      rw [h1, h2, h] at h0
      rcases Nat.lt_or_ge 3 x.args.length with h3 | h3
      · simp [h3] at h0
      · exact h3
set_option maxRecDepth 100000 in
set_option maxHeartbeats 6400000 in
theorem consrule_call (a1 a2 a3 : Option Addr) (c1 c2 c3 : Nat) (P : PP) (k : Nat) (x : PS) (hxk : P.stmts[k]? = some x) (w : World) (n0 : Nat) (ad : Nat → Addr) (h : PW w n0 ad a1 a2 a3 c1 c2 c3 P) (hkx : x.isK kCall = true) :
    Calls Tryz.prog 78 #[pval a1 a2 a3 c1 c2 c3 P, .int .i64 (k : Int)] w fun e w' => ∃ av, e = .returned ((P.ruleV k x).val av) ∧ IntsT w' av (P.ruleV k x).args ∧ Ext w w' := by
  have hfew := call_few (h.well.2 k x (by
    rcases Nat.lt_or_ge k P.stmts.length with h | h
    · exact h
    · rw [List.getElem?_eq_none h] at hxk; cases hxk) hxk) hkx
  obtain ⟨W1, hW1⟩ : ∃ W1, W1 = w.alloc (.cells (pcells a1 a2 a3 c1 c2 c3 P) 26) := ⟨_, rfl⟩
  have hx1 : Ext w W1 := by rw [hW1]; exact (Ext.refl _).alloc _
  obtain ⟨W2, hW2⟩ : ∃ W2, W2 = W1.alloc (.cells #[.string ⟨#[]⟩, .int .i64 0, .int .i64 0, .int .i64 0, .slice none 0 0] 90) := ⟨_, rfl⟩
  have hx2 : Ext W1 W2 := by rw [hW2]; exact (Ext.refl _).alloc _
  have hk : k < P.stmts.length := by
    rcases Nat.lt_or_ge k P.stmts.length with h | h
    · exact h
    · rw [List.getElem?_eq_none h] at hxk; cases hxk
  have hml := h.prog.stmts.len
  obtain ⟨y, x', av, cv, rfl, hxk', e0, e1, e2, e3, hI⟩ := (h.prog.ext (hx1.trans hx2)).stmts.at hk
  obtain rfl := Option.some.inj (hxk.symm.trans hxk')
  obtain ⟨W3, hW3⟩ : ∃ W3, W3 = W2.alloc (.cells (scells x av cv) 73) := ⟨_, rfl⟩
  have hx3 : Ext W2 W3 := by rw [hW3]; exact (Ext.refl _).alloc _
  have s1 : W1.heap.size = w.heap.size + 1 := by rw [hW1, heap_size_alloc]
  have s2 : W2.heap.size = w.heap.size + 1 + 1 := by rw [hW2, heap_size_alloc, s1]
  have HX := hid ((hx1.trans hx2).trans hx3)
  have HB0 : Hid (Blk W3 w.heap.size (pcells a1 a2 (some y) c1 c2 c3 P) 26) := hid (by
    have : Blk W1 w.heap.size (pcells a1 a2 (some y) c1 c2 c3 P) 26 := by rw [hW1]; exact Blk.new _ _ _
    exact this.ext (hx2.trans hx3))
  have HB1 : Hid (Blk W3 (w.heap.size + 1) #[.string ⟨#[]⟩, .int .i64 0, .int .i64 0, .int .i64 0, .slice none 0 0] 90) := hid (by
    have : Blk W2 (w.heap.size + 1) #[.string ⟨#[]⟩, .int .i64 0, .int .i64 0, .int .i64 0, .slice none 0 0] 90 := by rw [← s1, hW2]; exact Blk.new _ _ _
    exact this.ext hx3)
  have HB2 : Hid (Blk W3 (w.heap.size + 1 + 1) (scells x av cv) 73) := hid (by rw [← s2, hW3]; exact Blk.new _ _ _)
  have HI := hid (hI.old (hx3.old n0))
  have HPW := hid h
  have Hxk := hid hxk
  rw [hW2, hW1] at e0 e1 e2 e3
  unfold pcells at e0 e1 e2 e3
  have HWe : Hid (W3 = ((w.alloc (.cells #[.slice a1 P.vars.length c1, .slice a2 P.funs.length c2, .slice (some y) P.stmts.length c3] 26)).alloc (.cells #[.string ⟨#[]⟩, .int .i64 0, .int .i64 0, .int .i64 0, .slice none 0 0] 90)).alloc (.cells #[.string x.kind, .int .i64 x.x, .int .i64 x.y, .slice av x.args.length cv] 73)) := hid (by rw [hW3, hW2, hW1]; rfl)
  obtain ⟨hf1, hf2, hf3⟩ := h.well.few
  clear hW1 hW2 hW3 hx1 hx2 hx3 s1 s2 hxk hxk' hI h
  unfold pval
  have HCl := fun w1 (y : Ext W3 w1) => hid (clone_big (.slice av x.args.length cv) x.args w1 n0 (HI.out.old (y.old n0)) (by omega))
  have h1 : (x.kind.toList == [97, 100, 100, 114]) = false := isK_ne hkx (k' := kAddr) rfl
  have h5 : (x.kind.toList == [110, 101, 119]) = false := isK_ne hkx (k' := kNew) rfl
  have h6 : (x.kind.toList == [102, 117, 110]) = false := isK_ne hkx (k' := kFun) rfl
  have hkk := hkx
  unfold PS.isK kCall at hkk
  have Hr : Hid (P.ruleV k x = ⟨bCall, x.y, x.x, k, x.args⟩) := hid (by unfold PP.ruleV; rw [isK_ne hkx (k' := kAddr) rfl, isK_ne hkx (k' := kNew) rfl, isK_ne hkx (k' := kFun) rfl, hkx]; rfl)
  clear hkx
  have x0 := Ext.refl W3
  have m0 := (HB2.out.ext x0).kc (X := fun _ => False) (fun e => e) 0 rfl
  have m1 := (HB2.out.ext x0).kc (X := fun _ => False) (fun e => e) 1 rfl
  have m2 := (HB2.out.ext x0).kc (X := fun _ => False) (fun e => e) 2 rfl
  have m3 := (HB2.out.ext x0).kc (X := fun _ => False) (fun e => e) 3 rfl
  have d0 := (HB0.out.ext x0).kc (X := fun _ => False) (fun e => e) 0 rfl
  have d1 := (HB0.out.ext x0).kc (X := fun _ => False) (fun e => e) 1 rfl
  have d2 := (HB0.out.ext x0).kc (X := fun _ => False) (fun e => e) 2 rfl
  simp only [pcells, scells, qA0, qA1, qA2] at m0 m1 m2 m3 d0 d1 d2
  clear x0
  go_enter Tryz.func78, Tryz.ntmps78
  go_wp2
  rw [← HWe.out]
  refine wp_flowT (fun _ => False) (by kernel_rfl) (by kernel_rfl) ?_
  repeat (apply FlowT.d; (intro w1 hk; unfold does; go_simp; (try go_ints); (first | exact DetR.mk | (simp only [↓IntWalk.iteOmega, Oper.doesUpon_value]; exact DetR.mk) | (simp only [↓IntWalk.iteOmega]; go_simp; (try go_ints); exact DetR.mk))); simp only [Act.put, qS0, qS1, qS2])
  refine FlowT.s (fun v w' => (∃ a c, v = .slice a x.args.length c) ∧ IntsT w' v x.args ∧ Ext W3 w') 7 rfl (by kernel_rfl) (fun _ _ _ ⟨h1, h2, h3⟩ y => ⟨h1, h2.ext y, h3.trans y⟩) (fun w1 hC hk => ?_) ?_
  · unfold does
    go_simp
    refine CallR.act ((HCl w1 hC).out.mono ?_)
    rintro e w2 ⟨v, rfl, hx, hr⟩
    exact ⟨v, rfl, (hC.trans hx).keep _, hr.form, IntsT.of_row hr, hC.trans hx⟩
  rintro _ ⟨_, ⟨a9, c9, rfl⟩, _, _⟩
  simp only [Act.put, qS0, qS1, qS2]
  repeat (apply FlowT.d; (intro w1 hk; unfold does; go_simp; (try go_ints); (first | exact DetR.mk | (simp only [↓IntWalk.iteOmega, Oper.doesUpon_value]; exact DetR.mk) | (simp only [↓IntWalk.iteOmega]; go_simp; (try go_ints); exact DetR.mk))); simp only [Act.put, qS0, qS1, qS2])
  refine FlowT.last (fun _ w' => Blk w' (w.heap.size + 1) #[.string ⟨#[99, 97, 108, 108]⟩, .int .i64 x.y, .int .i64 x.x, .int .i64 (k : Int), .slice a9 x.args.length c9] 90 ∧ IntsT w' (.slice a9 x.args.length c9) (P.ruleV k x).args ∧ Ext w w') 9 rfl (by kernel_rfl) (by kernel_rfl) (fun w1 hC hk => ?_) (fun _ w2 hR => ?_)
  · obtain ⟨_, hT, hC⟩ := hC
    have hB := HB1.out.ext hC
    have c0 := hB.av 0 rfl
    have c1 := hB.av 1 rfl
    have c2 := hB.av 2 rfl
    have c3 := hB.av 3 rfl
    have c4 := hB.av 4 rfl
    have f0 := hB.free
    unfold does
    go_simp
    exact ⟨store5 hB, by rw [Hr.out]; exact store5_old hT hB _ _ _ _ _, Keep.new (HX.out.trans hC) (store5_keep _ _ _ _ _ _ _) (fun b hb => by omega)⟩
  obtain ⟨hB, hT, hxw⟩ := hR
  simp only [Act.put]
  have HT := hid hT
  have HBw := hid hB
  clear hT
  go_wp2
  exact bodyPost_ret (v := .agg #[.string ⟨#[99, 97, 108, 108]⟩, .int .i64 x.y, .int .i64 x.x, .int .i64 (k : Int), .slice a9 x.args.length c9]) (by simp [results, Tryz.results78, go_sem, hB.av 0 rfl, hB.av 1 rfl, hB.av 2 rfl, hB.av 3 rfl, hB.av 4 rfl]) rfl ⟨_, by rw [Hr.out]; rfl, HT.out, hxw⟩
theorem consrule_any (a1 a2 a3 : Option Addr) (c1 c2 c3 : Nat) (P : PP) (k : Nat) (x : PS) (hxk : P.stmts[k]? = some x) (w : World) (n0 : Nat) (ad : Nat → Addr) (h : PW w n0 ad a1 a2 a3 c1 c2 c3 P) :
    Calls Tryz.prog 78 #[pval a1 a2 a3 c1 c2 c3 P, .int .i64 (k : Int)] w fun e w' => ∃ av, e = .returned ((P.ruleV k x).val av) ∧ IntsT w' av (P.ruleV k x).args ∧ Ext w w' := by
  have hk : k < P.stmts.length := by
    rcases Nat.lt_or_ge k P.stmts.length with h | h
    · exact h
    · rw [List.getElem?_eq_none h] at hxk; cases hxk
  rcases kind_cases (h.well.2 k x hk hxk) with g | g | g | g | g | g | g
  · exact consrule_addr a1 a2 a3 c1 c2 c3 P k x hxk w n0 ad h g
  · exact consrule_copy a1 a2 a3 c1 c2 c3 P k x hxk w n0 ad h g
  · exact consrule_load a1 a2 a3 c1 c2 c3 P k x hxk w n0 ad h g
  · exact consrule_store a1 a2 a3 c1 c2 c3 P k x hxk w n0 ad h g
  · exact consrule_new a1 a2 a3 c1 c2 c3 P k x hxk w n0 ad h g
  · exact consrule_fun a1 a2 a3 c1 c2 c3 P k x hxk w n0 ad h g
  · exact consrule_call a1 a2 a3 c1 c2 c3 P k x hxk w n0 ad h g
structure R2 where
  r : RV
  v : Value
def R2.cells (x : R2) : List Value := [.string x.r.kind, .int .i64 x.r.a, .int .i64 x.r.b, .int .i64 x.r.k, x.v]
theorem R2.cells_len (x : R2) : x.cells.length = 5 := rfl
structure RulesT (w : World) (base : Nat) (v : Value) (L : List RV) (rs : List R2) : Prop where
  eq : rs.map R2.r = L
  row : w.ownsRow base 90 5 v L.length (rs.flatMap R2.cells)
  args : ∀ x ∈ rs, IntsT w x.v x.r.args
theorem RulesT.ext {w w' : World} {base : Nat} {v : Value} {L : List RV} {rs : List R2} (h : RulesT w base v L rs) (x : Ext w w') : RulesT w' base v L rs := ⟨h.eq, own_ext h.row x, fun y hy => (h.args y hy).ext x⟩
theorem RulesT.low {w : World} {base b2 : Nat} {v : Value} {L : List RV} {rs : List R2} (h : RulesT w base v L rs) (hb : b2 ≤ base) : RulesT w b2 v L rs := ⟨h.eq, own_low h.row hb, h.args⟩
def PP.stAt (P : PP) (k : Nat) : PS := P.stmts.getD k ⟨⟨#[]⟩, 0, 0, []⟩
def PP.rulesUp (P : PP) (n : Nat) : List RV := (List.range n).map fun k => P.ruleV k (P.stAt k)
def PP.rulesV (P : PP) : List RV := P.rulesUp P.stmts.length
theorem PP.rulesUp_succ (P : PP) (n : Nat) : P.rulesUp (n + 1) = P.rulesUp n ++ [P.ruleV n (P.stAt n)] := by
  unfold PP.rulesUp; rw [List.range_succ, List.map_append]; rfl
theorem PP.rulesUp_len (P : PP) (n : Nat) : (P.rulesUp n).length = n := by simp [PP.rulesUp]
theorem stAt_some {P : PP} {k : Nat} (h : k < P.stmts.length) : P.stmts[k]? = some (P.stAt k) := by
  unfold PP.stAt
  rw [List.getD_eq_getElem?_getD, List.getElem?_eq_getElem h]; rfl
theorem rule_info : (Tryz.prog.info? 90).map (fun i => (i.zero, i.size, i.bytes)) = some (some (.agg #[.string ⟨#[]⟩, .int .i64 0, .int .i64 0, .int .i64 0, .slice none 0 0]), 5, 64) := by kernel_rfl
set_option maxRecDepth 100000 in
set_option maxHeartbeats 3200000 in
theorem consof_yes (a1 a2 a3 : Option Addr) (c1 c2 c3 : Nat) (P : PP) (w : World) (n0 : Nat) (ad : Nat → Addr) (h : PW w n0 ad a1 a2 a3 c1 c2 c3 P) :
    Calls Tryz.prog 42 #[pval a1 a2 a3 c1 c2 c3 P] w fun e w' => ∃ v rs, e = .returned (.tuple #[v, .nilIface]) ∧ RulesT w' w.heap.size v P.rulesV rs ∧ Ext w w' := by
  have HRu := fun k (hk : k < P.stmts.length) w1 (x : Ext w w1) => hid (consrule_any a1 a2 a3 c1 c2 c3 P k _ (stAt_some hk) w1 n0 ad (h.ext x))
  obtain ⟨W, hW⟩ : ∃ W, W = w.alloc (.cells (pcells a1 a2 a3 c1 c2 c3 P) 26) := ⟨_, rfl⟩
  have HX : Hid (Ext w W) := hid (by rw [hW]; exact (Ext.refl _).alloc _)
  have HBx : Hid (Blk W w.heap.size (pcells a1 a2 a3 c1 c2 c3 P) 26) := hid (by rw [hW]; exact Blk.new _ _ _)
  have HWe : Hid (W = w.alloc (.cells #[.slice a1 P.vars.length c1, .slice a2 P.funs.length c2, .slice a3 P.stmts.length c3] 26)) := hid (by rw [hW]; rfl)
  have HK := hid (check_well (h.errs.ext HX.out) (h.prog.ext HX.out) h.z1 h.z2 h.well)
  obtain ⟨hf1, hf2, hf3⟩ := h.well.few
  have d0 := HBx.out.av 0 rfl
  have d1 := HBx.out.av 1 rfl
  have d2 := HBx.out.av 2 rfl
  simp only [pcells, qA0, qA1, qA2] at d0 d1 d2
  unfold pval at HK HRu ⊢
  clear hW h
  go_enter Tryz.func42, Tryz.ntmps42
  go_wp2_with fail
  rw [← HWe.out]
  refine HK.out.mono ?_
  intro e w1 hx
  obtain ⟨rfl, hx1⟩ := hx
  have Hx1 := hid hx1
  clear HK hx1 d0 d1 d2
  have d2 := (HBx.out.ext Hx1.out).av 2 rfl
  simp only [pcells, qA0, qA1, qA2] at d2
  go_wp2
  go_loopw [5, 15] (fun t5 t15 wr => ∃ (k : Nat) (rs : List R2), t15 = .int .i64 (k : Int) ∧ k ≤ P.stmts.length ∧ rs.map R2.r = P.rulesUp k ∧ wr.ownsRow W.heap.size 90 5 t5 k (rs.flatMap R2.cells) ∧ (∀ x ∈ rs, IntsT wr x.v x.r.args) ∧ Ext W wr) (fun _ t15 _ => P.stmts.length - (intOf t15).toNat)
  case atStart => exact ⟨0, [], rfl, Nat.zero_le _, rfl, World.ownsRow_nil _ _ _ _, (fun x h => by cases h), Hx1.out⟩
  case round =>
    obtain ⟨k, rs, rfl, hk, he, hr, ha, hx⟩ := hrel
    obtain ⟨a5, c5, rfl⟩ := row_form hr
    have He := hid he
    have Hr := hid hr
    have Ha := hid ha
    have Hx := hid hx
    clear he hr ha hx d2
    by_cases hlt : k < P.stmts.length
    · have HC := HRu k hlt wr (HX.out.trans Hx.out)
      obtain ⟨r, hr⟩ : ∃ r, r = P.ruleV k (P.stAt k) := ⟨_, rfl⟩
      rw [← hr] at HC
      have Hrr := hid hr
      have d0 := (HBx.out.ext Hx.out).av 0 rfl
      have d1 := (HBx.out.ext Hx.out).av 1 rfl
      have d2 := (HBx.out.ext Hx.out).av 2 rfl
      simp only [pcells, qA0, qA1, qA2] at d0 d1 d2
      clear HRu hr
      go_wp2_with fail
      refine HC.out.mono ?_
      intro e w2 hx
      obtain ⟨av, rfl, hT, hx2⟩ := hx
      obtain ⟨aa, ca, rfl⟩ := hT.form
      unfold RV.val
      have hxa : Hid (Ext w (w2.alloc (.cells #[.string r.kind, .int .i64 r.a, .int .i64 r.b, .int .i64 r.k, .slice aa r.args.length ca] 90))) := hid (((HX.out.trans Hx.out).trans hx2).alloc _)
      have hra : Ext wr (w2.alloc (.cells #[.string r.kind, .int .i64 r.a, .int .i64 r.b, .int .i64 r.k, .slice aa r.args.length ca] 90)) := hx2.alloc _
      have Hra := hid (own_ext Hr.out hra)
      have Hxr := hid ((Hx.out.trans hra))
      have Haa : Hid (∀ x ∈ rs ++ [⟨r, .slice aa r.args.length ca⟩], IntsT (w2.alloc (.cells #[.string r.kind, .int .i64 r.a, .int .i64 r.b, .int .i64 r.k, .slice aa r.args.length ca] 90)) x.v x.r.args) := hid fun x hx => by
        rcases List.mem_append.1 hx with hx | hx
        · exact (Ha.out x hx).ext hra
        · obtain rfl := List.mem_singleton.1 hx
          exact hT.ext ((Ext.refl _).alloc _)
      clear HC hT hx2 hra d0 d1 d2
      go_wp2_with (at_builtin; refine wpList_append_el W.heap.size Hxr.out.size 83 90 (.agg #[.string ⟨#[]⟩, .int .i64 0, .int .i64 0, .int .i64 0, .slice none 0 0]) 5 64 Tryz.underlying83 rule_info rfl (by omega) (by omega) rfl _ _ rfl (.slice a5 k c5) k (rs.flatMap R2.cells) rfl Hra.out w2.heap.size [.string r.kind, .int .i64 r.a, .int .i64 r.b, .int .i64 r.k, .slice aa r.args.length ca] rfl (by simp [Value.oneCell']) rfl (Blk.new _ _ _) (by omega) ?_; intro v' w' h1 h2 h4; obtain ⟨a', c', rfl⟩ := row_form h1; have h3 := hid (Keep.new Hxr.out h2 (fun k hk => (World.ownsRow.lt Hra.out k hk).1)); have ha5 := hid (fun x hx => (Haa.out x hx).keep h2 (fun b e => by obtain ⟨c, hc⟩ := own_ty Hra.out e; exact IsInt.not hc (by decide))); have h1 := hid h1; clear h2 h4)
      go_roundw
      case rel =>
        refine ⟨k + 1, rs ++ [⟨r, .slice aa r.args.length ca⟩], by go_num, by omega, ?_, ?_, ha5.out, h3.out⟩
        · rw [List.map_append, He.out, PP.rulesUp_succ, ← Hrr.out]; rfl
        · rw [List.flatMap_append]; simpa [R2.cells] using h1.out
      case measure => simp [intOf]; omega
    · obtain rfl : k = P.stmts.length := by omega
      clear HRu
      go_wp2
      go_ret2
      exact ⟨_, rs, rfl, ⟨He.out, by rw [show P.rulesV.length = P.stmts.length from P.rulesUp_len _]; exact own_low Hr.out HX.out.size, Ha.out⟩, HX.out.trans Hx.out⟩
def calledV (f : PF) (r : RV) : List (Int × Int) := if f.params.length = r.args.length then (f.ret, r.b) :: r.args.zip f.params else []
def eCells (e : Int × Int) : List Value := [.int .i64 e.1, .int .i64 e.2]
theorem eCells_len (e : Int × Int) : (eCells e).length = 2 := rfl
theorem edge_info : (Tryz.prog.info? 95).map (fun i => (i.zero, i.size, i.bytes)) = some (some (.agg #[.int .i64 0, .int .i64 0]), 2, 16) := by kernel_rfl
theorem zip_take {l m : List Int} {k : Nat} {q p : Int} (h1 : l[k]? = some q) (h2 : m[k]? = some p) : (l.zip m).take (k + 1) = (l.zip m).take k ++ [(q, p)] := by
  rw [List.take_add_one]
  congr 1
  have : (l.zip m)[k]? = some (q, p) := List.getElem?_zip_eq_some.2 ⟨h1, h2⟩
  rw [this]; rfl
def ERow (base : Nat) (w : World) (v : Value) (l : List (Int × Int)) : Prop := w.ownsRow base 95 2 v l.length (l.flatMap eCells)
theorem ERow.ext {base : Nat} {w w' : World} {v : Value} {l : List (Int × Int)} (h : ERow base w v l) (x : Ext w w') : ERow base w' v l := own_ext h x
theorem ERow.low {base b2 : Nat} {w : World} {v : Value} {l : List (Int × Int)} (h : ERow base w v l) (hb : b2 ≤ base) : ERow b2 w v l := own_low h hb
theorem ERow.nil (base : Nat) (w : World) : ERow base w (.slice none 0 0) [] := World.ownsRow_nil _ _ _ _
set_option maxRecDepth 100000 in
set_option maxHeartbeats 3200000 in
theorem conscalled_any (f : PF) (r : RV) (pv av : Value) (w : World) (n0 : Nat) (hp : IntsR w n0 pv f.params) (ha : IntsR w n0 av r.args) (hfew : f.params.length ≤ 100) :
    Calls Tryz.prog 125 #[.agg #[.string f.name, pv, .int .i64 f.ret], r.val av] w fun e w' => ∃ v, e = .returned v ∧ ERow w.heap.size w' v (calledV f r) ∧ Ext w w' := by
  obtain ⟨ap, cp, rfl, _⟩ := id hp
  obtain ⟨aa, ca, rfl, _⟩ := id ha
  have hpl := hp.len
  have hal := ha.len
  obtain ⟨W1, hW1⟩ : ∃ W1, W1 = w.alloc (.cells #[.string f.name, .slice ap f.params.length cp, .int .i64 f.ret] 75) := ⟨_, rfl⟩
  have hx1 : Ext w W1 := by rw [hW1]; exact (Ext.refl _).alloc _
  obtain ⟨W2, hW2⟩ : ∃ W2, W2 = W1.alloc (.cells #[.string r.kind, .int .i64 r.a, .int .i64 r.b, .int .i64 r.k, .slice aa r.args.length ca] 90) := ⟨_, rfl⟩
  have hx2 : Ext W1 W2 := by rw [hW2]; exact (Ext.refl _).alloc _
  have s1 : W1.heap.size = w.heap.size + 1 := by rw [hW1, heap_size_alloc]
  have HX := hid (hx1.trans hx2)
  have Hs2 : Hid (W2.heap.size = w.heap.size + 1 + 1) := hid (by rw [hW2, heap_size_alloc, s1])
  have HB0 : Hid (Blk W2 w.heap.size #[.string f.name, .slice ap f.params.length cp, .int .i64 f.ret] 75) := hid (by
    have : Blk W1 w.heap.size #[.string f.name, .slice ap f.params.length cp, .int .i64 f.ret] 75 := by rw [hW1]; exact Blk.new _ _ _
    exact this.ext hx2)
  have HB1 : Hid (Blk W2 (w.heap.size + 1) #[.string r.kind, .int .i64 r.a, .int .i64 r.b, .int .i64 r.k, .slice aa r.args.length ca] 90) := hid (by rw [← s1, hW2]; exact Blk.new _ _ _)
  have HWe : Hid (W2 = (w.alloc (.cells #[.string f.name, .slice ap f.params.length cp, .int .i64 f.ret] 75)).alloc (.cells #[.string r.kind, .int .i64 r.a, .int .i64 r.b, .int .i64 r.k, .slice aa r.args.length ca] 90)) := hid (by rw [hW2, hW1])
  have HP := hid hp
  have HA := hid ha
  unfold RV.val
  clear hp ha hW1 hW2 hx1 hx2 s1
  by_cases hl : f.params.length = r.args.length
  · have Hr : Hid (calledV f r = (f.ret, r.b) :: r.args.zip f.params) := hid (by unfold calledV; rw [if_pos hl])
    have Hl := hid hl
    have e0 : ((f.params.length : Int) != (r.args.length : Int)) = false := by rw [hl]; simp
    clear hl
    go_enter Tryz.func125, Tryz.ntmps125
    go_wp2
    rw [← HWe.out]
    obtain ⟨W3, hW3⟩ : ∃ W3, W3 = W2.alloc (.cells #[.int .i64 f.ret, .int .i64 r.b] 95) := ⟨_, rfl⟩
    have hx3 : Ext W2 W3 := by rw [hW3]; exact (Ext.refl _).alloc _
    have Hx3 := hid hx3
    have Hr0 : Hid (W3.ownsRow W2.heap.size 95 2 (.slice (some ⟨w.heap.size + 1 + 1, 0, none⟩) 1 1) 1 (eCells (f.ret, r.b))) := hid
      ⟨rfl, .inr ⟨w.heap.size + 1 + 1, 1, #[.int .i64 f.ret, .int .i64 r.b], rfl, by rw [Hs2.out]; exact Nat.le_refl _, by rw [hW3, ← Hs2.out]; exact Blk.new _ _ _, Nat.le_refl _, by unfold maxLen; omega, rfl, rfl⟩⟩
    rw [← hW3]
    clear hW3 hx3 e0
    go_loopw [5, 24] (fun t5 t24 wr => ∃ k : Nat, t24 = .int .i64 (k : Int) ∧ k ≤ f.params.length ∧ wr.ownsRow W2.heap.size 95 2 t5 (k + 1) (((f.ret, r.b) :: (r.args.zip f.params).take k).flatMap eCells) ∧ Ext W2 wr) (fun _ t24 _ => f.params.length - (intOf t24).toNat)
    case atStart => exact ⟨0, rfl, Nat.zero_le _, Hr0.out, Hx3.out⟩
    case round =>
      obtain ⟨k, rfl, hk, hr, hx⟩ := hrel
      obtain ⟨a5, c5, rfl⟩ := row_form hr
      have Hrow := hid hr
      have Hx := hid hx
      clear hr hx
      by_cases hlt : k < f.params.length
      · have hkr : k < r.args.length := by have := Hl.out; omega
        obtain ⟨y, p, hy, hpk, hcp⟩ := (HP.out.old ((HX.out.trans Hx.out).old n0)).at hlt
        obtain ⟨z, q, hz, hqk, hcq⟩ := (HA.out.old ((HX.out.trans Hx.out).old n0)).at hkr
        subst hy hz
        have Hzip := hid (zip_take hqk hpk)
        have d1 := (HB1.out.ext Hx.out).av 4 rfl
        simp only [qA0, qA1, qA2] at d1
        have hxa : Hid (Ext W2 (wr.alloc (.cells #[.int .i64 q, .int .i64 p] 95))) := hid (Hx.out.alloc _)
        have Hra := hid (own_ext Hrow.out ((Ext.refl wr).alloc (.cells #[.int .i64 q, .int .i64 p] 95)))
        clear hpk hqk
        go_wp2_with (at_builtin; refine wpList_append_el W2.heap.size hxa.out.size 64 95 (.agg #[.int .i64 0, .int .i64 0]) 2 16 Tryz.underlying64 edge_info rfl (by omega) (by omega) rfl _ _ rfl (.slice a5 (k + 1) c5) (k + 1) (((f.ret, r.b) :: (r.args.zip f.params).take k).flatMap eCells) rfl Hra.out wr.heap.size [.int .i64 q, .int .i64 p] rfl (by simp [Value.oneCell']) rfl (Blk.new _ _ _) (by omega) ?_; intro v' w' h1 h2 h4; obtain ⟨a', c', rfl⟩ := row_form h1; have h3 := hid (Keep.new hxa.out h2 (fun k hk => (World.ownsRow.lt Hra.out k hk).1)); have h1 := hid h1; clear h2 h4)
        go_roundw
        case rel =>
          refine ⟨k + 1, by go_num, by omega, ?_, h3.out⟩
          have e := h1.out
          rw [Hzip.out, ← List.cons_append, List.flatMap_append]
          simpa [eCells] using e
        case measure => simp [intOf]; omega
      · obtain rfl : k = f.params.length := by omega
        have Hz : Hid ((r.args.zip f.params).take f.params.length = r.args.zip f.params) := hid (List.take_of_length_le (by rw [List.length_zip]; omega))
        have Hln : Hid ((calledV f r).length = f.params.length + 1) := hid (by rw [Hr.out, List.length_cons, List.length_zip]; have := Hl.out; omega)
        go_wp2
        go_ret
        exact ⟨_, rfl, by unfold ERow; rw [Hln.out, Hr.out]; have := own_low Hrow.out HX.out.size; rw [Hz.out] at this; exact this, HX.out.trans Hx.out⟩
  · have Hr : Hid (calledV f r = []) := hid (by unfold calledV; rw [if_neg hl])
    have e0 : ((f.params.length : Int) != (r.args.length : Int)) = true := bne_iff_ne.2 (by omega)
    clear hl
    go_enter Tryz.func125, Tryz.ntmps125
    go_wp2
    go_ret
    exact ⟨_, rfl, by rw [Hr.out]; exact ERow.nil _ _, ((Ext.refl w).alloc _).alloc _⟩
end Go.Proofs.YtihdpijgngooaaaGreatDoor
