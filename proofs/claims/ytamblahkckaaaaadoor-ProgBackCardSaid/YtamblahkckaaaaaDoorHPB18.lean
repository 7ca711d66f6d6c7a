/- Texts of one proof, put together: ZZZZH ZZZZI ZZZZJ ZZZZK ZZZZM HS. -/
import Derived.Test.YtamblahkckaaaaaDoorHPB05
import Derived.Test.YtamblahkckaaaaaDoorHPB07
import Derived.Test.YtamblahkckaaaaaDoorHPB08
import Derived.Test.YtamblahkckaaaaaDoorHPB17
import Derived.Test.YtamblahkckaaaaaDoorProg
import Derived.HandedShaped
import Derived.Handed
import Derived.Shelf.Vars
import Derived.ProofKit
import Derived.KernelRfl
import Derived.Test.YtamblahkckaaaaaDoorHPB01
set_option linter.unusedSimpArgs false
set_option linter.unusedVariables false
namespace Go.Proofs.YtamblahkckaaaaaDoor
open Go
theorem namesErr_no {l : List ByteArray} (h : namesErr l = 0) : anyBad l = false ∧ dupS l = false := by
  unfold namesErr at h
  cases h1 : anyBad l with
  | true => rw [h1] at h; simp at h
  | false =>
    cases h2 : dupS l with
    | true => rw [h1, h2] at h; simp at h
    | false => exact ⟨rfl, rfl⟩
theorem well_names {P : PP} (hw : P.Well) : namesErr P.vars = 0 ∧ namesErr P.names = 0 := by
  have h1 := hw.1
  unfold PP.err1 at h1
  cases hb : P.big with
  | true => rw [hb] at h1; simp at h1
  | false =>
    rw [hb] at h1
    simp only [cond_false] at h1
    split at h1
    · cases h1
    · rename_i h5
      split at h1
      · cases h1
      · rename_i h7
        have c1 := namesErr_cases P.vars
        have c2 := namesErr_cases P.names
        omega
theorem ixB_self {l : List ByteArray} (h : dupS l = false) {k : Nat} {t : ByteArray} (hk : l[k]? = some t) : ixB l t = (k : Int) := by
  refine ixB_at hk (by unfold eqB; exact beq_self_eq_true _) fun j u hj hu => ?_
  have hkl : k < l.length := (List.getElem?_eq_some_iff.1 hk).1
  have h1 := List.any_eq_false.1 h k (List.mem_range.2 hkl)
  rw [List.getD_eq_getElem?_getD, hk] at h1
  cases he : eqB t u with
  | false => rfl
  | true =>
    exact absurd (List.any_eq_true.2 ⟨u, List.mem_of_getElem? (show (l.take k)[j]? = some u by rw [List.getElem?_take, if_pos hj]; exact hu), he⟩) h1
theorem vN_at {P : PP} {n : Int} (h : 0 ≤ n ∧ n < P.vars.length) : P.vars[n.toNat]? = some (P.vN n) := by
  have hl : n.toNat < P.vars.length := by omega
  unfold PP.vN
  rw [List.getD_eq_getElem?_getD, List.getElem?_eq_getElem hl]
  rfl
theorem fN_at {P : PP} {n : Int} (h : 0 ≤ n ∧ n < P.funs.length) : (P.funs.map PF.name)[n.toNat]? = some (P.fN n) := by
  have hl : n.toNat < P.funs.length := by omega
  unfold PP.fN
  rw [List.getElem?_map, List.getElem?_eq_getElem hl]
  rfl
theorem vN_ok {P : PP} (hw : P.Well) {n : Int} (h : 0 ≤ n ∧ n < P.vars.length) : nameOk (P.vN n) = true := anyBad_ok (namesErr_no (well_names hw).1).1 _ (List.mem_of_getElem? (vN_at h))
theorem fN_ok {P : PP} (hw : P.Well) {n : Int} (h : 0 ≤ n ∧ n < P.funs.length) : nameOk (P.fN n) = true := anyBad_ok (namesErr_no (well_names hw).2).1 _ (List.mem_of_getElem? (fN_at h))
theorem vN_ix {P : PP} (hw : P.Well) {n : Int} (h : 0 ≤ n ∧ n < P.vars.length) : ixB P.vars (P.vN n) = n := by
  rw [ixB_self (namesErr_no (well_names hw).1).2 (vN_at h)]
  omega
theorem fN_ix {P : PP} (hw : P.Well) {n : Int} (h : 0 ≤ n ∧ n < P.funs.length) : ixB (P.funs.map PF.name) (P.fN n) = n := by
  rw [ixB_self (l := P.funs.map PF.name) (namesErr_no (well_names hw).2).2 (fN_at h)]
  omega
theorem anyBad_nm {l : List ByteArray} (h : ∀ s ∈ l, nameOk s = true) : anyBad l = false := by
  cases hb : anyBad l with
  | false => rfl
  | true =>
    obtain ⟨s, hs, e⟩ := List.any_eq_true.1 hb
    rw [h s hs] at e
    cases e
theorem varsR_of {P : PP} (hw : P.Well) {l : List Int} (h : ∀ n ∈ l, 0 ≤ n ∧ n < P.vars.length) : P.varsR (l.map P.vN) = (l, 0) := by
  unfold PP.varsR
  rw [anyBad_nm (fun s hs => by
    obtain ⟨n, hn, rfl⟩ := List.mem_map.1 hs
    exact vN_ok hw (h n hn)), if_neg (by decide), if_neg]
  · rw [List.map_map]
    congr 1
    conv => rhs; rw [← List.map_id l]
    exact List.map_congr_left fun n hn => vN_ix hw (h n hn)
  · intro hany
    obtain ⟨s, hs, e⟩ := List.any_eq_true.1 hany
    obtain ⟨n, hn, rfl⟩ := List.mem_map.1 hs
    have := vN_ix hw (h n hn)
    have := h n hn
    have := of_decide_eq_true e
    omega
theorem varR_of {P : PP} (hw : P.Well) {n : Int} (h : 0 ≤ n ∧ n < P.vars.length) : P.varR (P.vN n) = (n, 0) := by
  unfold PP.varR
  rw [if_pos (vN_ok hw h), vN_ix hw h, if_neg (by omega)]
theorem stmt_shape {P : PP} {x : PS} (h : P.stmtErr x = 0) : (x.isK kCall = false → x.args = []) ∧ (x.isK kNew = true → x.y = 0) := by
  unfold PP.stmtErr at h
  cases h1 : memB x.kind kindsS with
  | false => rw [h1] at h; simp at h
  | true =>
  cases h2 : P.bound x with
  | false => rw [h1, h2] at h; simp at h
  | true =>
  rw [h1, h2] at h
  simp only [Bool.not_true, cond_false] at h
  cases hc : x.isK kCall with
  | true =>
    refine ⟨fun e => (by cases e), fun e => ?_⟩
    have := isK_ne hc (k' := kNew) rfl
    rw [this] at e
    cases e
  | false =>
    rw [hc] at h
    simp only [Bool.false_and, cond_false, Bool.not_false, Bool.true_and] at h
    cases hn : x.isK kNew with
    | true =>
      rw [hn] at h
      simp only [Bool.true_and] at h
      cases ha : decide (0 < x.args.length) with
      | true => rw [ha] at h; simp at h
      | false =>
        cases hy : decide (x.y = 0) with
        | false => rw [ha, hy] at h; simp at h
        | true => exact ⟨fun _ => List.eq_nil_of_length_eq_zero (by have := of_decide_eq_false ha; omega), fun _ => of_decide_eq_true hy⟩
    | false =>
      rw [hn] at h
      simp only [Bool.false_and, Bool.or_false] at h
      cases ha : decide (0 < x.args.length) with
      | true => rw [ha] at h; simp at h
      | false => exact ⟨fun _ => List.eq_nil_of_length_eq_zero (by have := of_decide_eq_false ha; omega), fun e => by cases e⟩
theorem kind_of {x : PS} {k : List UInt8} (h : x.isK k = true) : x.kind = ⟨k.toArray⟩ := bs_ext (by
  unfold PS.isK at h
  have := eq_of_beq h
  rw [Lib.toList_data] at this
  exact this)
theorem stmtR_eq (Q : PP) (s x y : ByteArray) (h : cutB s ⟨#[32, 61, 32]⟩ = (x, y, true)) : Q.stmtR s =
      if (cpB x ⟨#[42]⟩).2 = true then Q.twoR ⟨#[115, 116, 111, 114, 101]⟩ (cpB x ⟨#[42]⟩).1 y
      else if (y.toList == [110, 101, 119]) = true then (if (Q.varR x).2 = 0 then ({ Q with stmts := Q.stmts ++ [⟨⟨#[110, 101, 119]⟩, (Q.varR x).1, 0, []⟩] }, 0) else (Q, (Q.varR x).2))
      else if (cpB y ⟨#[38]⟩).2 = true then Q.twoR ⟨#[97, 100, 100, 114]⟩ x (cpB y ⟨#[38]⟩).1
      else if (cpB y ⟨#[42]⟩).2 = true then Q.twoR ⟨#[108, 111, 97, 100]⟩ x (cpB y ⟨#[42]⟩).1
      else if (cpB y ⟨#[102, 110, 32]⟩).2 = true then Q.namedR x (cpB y ⟨#[102, 110, 32]⟩).1
      else if (cpB y ⟨#[99, 97, 108, 108, 32]⟩).2 = true then Q.calledR x (cpB y ⟨#[99, 97, 108, 108, 32]⟩).1
      else Q.twoR ⟨#[99, 111, 112, 121]⟩ x y := by
  unfold PP.stmtR
  rw [h]
  rfl
structure Half2 (P Q : PP) : Prop where
  v : Q.vars = P.vars
  f : Q.funs = P.funs
theorem Half2.varsR {P Q : PP} (h : Half2 P Q) (l : List ByteArray) : Q.varsR l = P.varsR l := by unfold PP.varsR; rw [h.v]
theorem Half2.varR {P Q : PP} (h : Half2 P Q) (l : ByteArray) : Q.varR l = P.varR l := by unfold PP.varR; rw [h.v]
theorem twoR_of {P Q : PP} (hw : P.Well) (hq : Half2 P Q) (k : ByteArray) {i j : Int} (hi : 0 ≤ i ∧ i < P.vars.length) (hj : 0 ≤ j ∧ j < P.vars.length) : Q.twoR k (P.vN i) (P.vN j) = ({ Q with stmts := Q.stmts ++ [⟨k, i, j, []⟩] }, 0) := by
  unfold PP.twoR
  rw [hq.varsR, show [P.vN i, P.vN j] = [i, j].map P.vN from rfl, varsR_of hw (by
    intro n hn
    simp only [List.mem_cons, List.not_mem_nil, or_false] at hn
    rcases hn with rfl | rfl <;> assumption), if_pos rfl]
  rfl
theorem cp_free {x : List UInt8} (h : NmB x) {c : UInt8} {p : List UInt8} (hc : c.toNat < 48 ∨ c.toNat = 61) (hm : c ∈ p) : (cpB (kB x) ⟨p.toArray⟩).2 = false := cpB_no (pre_free (h.free hc) hm)
theorem ps_eta (x : PS) {k : ByteArray} {i j : Int} {l : List Int} (h1 : x.kind = k) (h2 : x.x = i) (h3 : x.y = j) (h4 : x.args = l) : (⟨k, i, j, l⟩ : PS) = x := by
  cases x
  simp only at h1 h2 h3 h4
  rw [h1, h2, h3, h4]
theorem new_no {l : List UInt8} (h : l ≠ [110, 101, 119]) : ((kB l).toList == [110, 101, 119]) = false := by
  rw [Lib.toList_data, kB_data]
  exact beq_eq_false_iff_ne.2 h
theorem stmt_back {P Q : PP} (hw : P.Well) (hq : Half2 P Q) {x : PS} (h0 : P.stmtErr x = 0) : Q.stmtR (kB (P.stmtT x)) = ({ Q with stmts := Q.stmts ++ [x] }, 0) ∧ ∃ X R, P.stmtT x = X ++ ([32, 61, 32] ++ R) ∧ (32 : UInt8) ∉ X ∧ X ≠ [118, 97, 114] ∧ X ≠ [102, 110] ∧ (10 : UInt8) ∉ P.stmtT x := by
  have g := PP.good h0
  obtain ⟨ha, hy0⟩ := stmt_shape h0
  have hX := vN_ok hw g.gx
  have nX := nm_of hX
  have X1 : (P.vN x.x).data.toList ≠ [118, 97, 114] := nm_res hX (by simp [reserved])
  have X2 : (P.vN x.x).data.toList ≠ [102, 110] := nm_res hX (by simp [reserved])
  have fX : (32 : UInt8) ∉ (P.vN x.x).data.toList := nX.free (.inl (by decide))
  have tX : (10 : UInt8) ∉ (P.vN x.x).data.toList := nX.free (.inl (by decide))
  have kX : kB (P.vN x.x).data.toList = P.vN x.x := kB_of _
  have pX : (cpB (P.vN x.x) ⟨#[42]⟩).2 = false := by rw [← kX]; exact cp_free nX (p := [42]) (c := 42) (.inl (by decide)) (by decide)
  have cut := fun R : List UInt8 => cutB_app (c := 32) (r := [61, 32]) (x := (P.vN x.x).data.toList) (t := R) fX
  rw [kX] at cut
  have kb : ∀ k k' : List UInt8, x.isK k = true → (k == k') = false → (x.kind.toList == k') = false := fun k k' h h2 => isK_ne h h2
  rcases kind_cases h0 with hk | hk | hk | hk | hk | hk | hk
  · -- addr
    have gy := g.yv (isK_ne hk rfl) (isK_ne hk rfl)
    have nY := nm_of (vN_ok hw gy)
    have hT : P.stmtT x = (P.vN x.x).data.toList ++ ([32, 61, 32] ++ ([38] ++ (P.vN x.y).data.toList)) := by
      unfold PP.stmtT
      rw [kb _ _ hk rfl, kb _ _ hk rfl, show (x.kind.toList == [97, 100, 100, 114]) = true from hk]
      simp
    refine ⟨?_, _, _, hT, fX, X1, X2, ?_⟩
    · rw [hT, stmtR_eq Q _ _ _ (cut _), pX, if_neg (by decide), if_neg (bool_ne (new_no (by simp))), show (⟨#[38]⟩ : ByteArray) = ⟨([38] : List UInt8).toArray⟩ from rfl, cpB_yes, if_pos rfl, kB_of, twoR_of hw hq _ g.gx gy, show (⟨⟨#[97, 100, 100, 114]⟩, x.x, x.y, []⟩ : PS) = x from ps_eta x (kind_of hk) rfl rfl (ha (isK_ne hk rfl))]
    · rw [hT]
      simp only [List.mem_append, not_or]
      exact ⟨tX, by decide, by decide, nY.free (.inl (by decide))⟩
  · -- copy
    have gy := g.yv (isK_ne hk rfl) (isK_ne hk rfl)
    have hY := vN_ok hw gy
    have nY := nm_of hY
    have hT : P.stmtT x = (P.vN x.x).data.toList ++ ([32, 61, 32] ++ (P.vN x.y).data.toList) := by
      unfold PP.stmtT
      rw [kb _ _ hk rfl, kb _ _ hk rfl, kb _ _ hk rfl, kb _ _ hk rfl, kb _ _ hk rfl, kb _ _ hk rfl]
      simp
    refine ⟨?_, _, _, hT, fX, X1, X2, ?_⟩
    · rw [hT, stmtR_eq Q _ _ _ (cut _), pX, if_neg (by decide), if_neg (bool_ne (new_no (nm_res hY (by simp [reserved])))),
        if_neg (bool_ne (cp_free nY (p := [38]) (c := 38) (.inl (by decide)) (by decide))), if_neg (bool_ne (cp_free nY (p := [42]) (c := 42) (.inl (by decide)) (by decide))),
        if_neg (bool_ne (cp_free nY (p := [102, 110, 32]) (c := 32) (.inl (by decide)) (by decide))), if_neg (bool_ne (cp_free nY (p := [99, 97, 108, 108, 32]) (c := 32) (.inl (by decide)) (by decide))), kB_of, twoR_of hw hq _ g.gx gy, show (⟨⟨#[99, 111, 112, 121]⟩, x.x, x.y, []⟩ : PS) = x from ps_eta x (kind_of hk) rfl rfl (ha (isK_ne hk rfl))]
    · rw [hT]
      simp only [List.mem_append, not_or]
      exact ⟨tX, by decide, nY.free (.inl (by decide))⟩
  · -- load
    have gy := g.yv (isK_ne hk rfl) (isK_ne hk rfl)
    have nY := nm_of (vN_ok hw gy)
    have hT : P.stmtT x = (P.vN x.x).data.toList ++ ([32, 61, 32] ++ ([42] ++ (P.vN x.y).data.toList)) := by
      unfold PP.stmtT
      rw [kb _ _ hk rfl, kb _ _ hk rfl, kb _ _ hk rfl, show (x.kind.toList == [108, 111, 97, 100]) = true from hk]
      simp
    refine ⟨?_, _, _, hT, fX, X1, X2, ?_⟩
    · rw [hT, stmtR_eq Q _ _ _ (cut _), pX, if_neg (by decide), if_neg (bool_ne (new_no (by simp))), if_neg (bool_ne (show (cpB (kB ([42] ++ (P.vN x.y).data.toList)) ⟨#[38]⟩).2 = false from cpB_no (p := [38]) (pre_diff (by decide)))), show (⟨#[42]⟩ : ByteArray) = ⟨([42] : List UInt8).toArray⟩ from rfl, cpB_yes, if_pos rfl, kB_of, twoR_of hw hq _ g.gx gy, show (⟨⟨#[108, 111, 97, 100]⟩, x.x, x.y, []⟩ : PS) = x from ps_eta x (kind_of hk) rfl rfl (ha (isK_ne hk rfl))]
    · rw [hT]
      simp only [List.mem_append, not_or]
      exact ⟨tX, by decide, by decide, nY.free (.inl (by decide))⟩
  · -- store
    have gy := g.yv (isK_ne hk rfl) (isK_ne hk rfl)
    have nY := nm_of (vN_ok hw gy)
    have fS : (32 : UInt8) ∉ [42] ++ (P.vN x.x).data.toList := by
      simp only [List.mem_append, not_or]
      exact ⟨by decide, fX⟩
    have hT : P.stmtT x = ([42] ++ (P.vN x.x).data.toList) ++ ([32, 61, 32] ++ (P.vN x.y).data.toList) := by
      unfold PP.stmtT
      rw [kb _ _ hk rfl, kb _ _ hk rfl, kb _ _ hk rfl, kb _ _ hk rfl, show (x.kind.toList == [115, 116, 111, 114, 101]) = true from hk]
      simp
    refine ⟨?_, _, _, hT, fS, by simp, by simp, ?_⟩
    · rw [hT, stmtR_eq Q _ _ _ (cutB_app (c := 32) (r := [61, 32]) (x := [42] ++ (P.vN x.x).data.toList) (t := (P.vN x.y).data.toList) fS), show (⟨#[42]⟩ : ByteArray) = ⟨([42] : List UInt8).toArray⟩ from rfl, cpB_yes, if_pos rfl, kB_of, kB_of, twoR_of hw hq _ g.gx gy, show (⟨⟨#[115, 116, 111, 114, 101]⟩, x.x, x.y, []⟩ : PS) = x from ps_eta x (kind_of hk) rfl rfl (ha (isK_ne hk rfl))]
    · rw [hT]
      simp only [List.mem_append, not_or]
      exact ⟨⟨by decide, tX⟩, by decide, nY.free (.inl (by decide))⟩
  · -- new
    have hT : P.stmtT x = (P.vN x.x).data.toList ++ ([32, 61, 32] ++ [110, 101, 119]) := by
      unfold PP.stmtT
      rw [show (x.kind.toList == [110, 101, 119]) = true from hk]
      simp
    refine ⟨?_, _, _, hT, fX, X1, X2, ?_⟩
    · rw [hT, stmtR_eq Q _ _ _ (cut _), pX, if_neg (by decide), if_pos (by rw [Lib.toList_data]; rfl), hq.varR, varR_of hw g.gx, if_pos rfl, show (⟨⟨#[110, 101, 119]⟩, x.x, 0, []⟩ : PS) = x from ps_eta x (kind_of hk) rfl (hy0 hk) (ha (isK_ne hk rfl))]
    · rw [hT]
      simp only [List.mem_append, not_or]
      exact ⟨tX, by decide, by decide⟩
  · -- fun
    have gy := g.yf hk
    have hF := fN_ok hw gy
    have nF := nm_of hF
    have hT : P.stmtT x = (P.vN x.x).data.toList ++ ([32, 61, 32] ++ ([102, 110, 32] ++ (P.fN x.y).data.toList)) := by
      unfold PP.stmtT
      rw [kb _ _ hk rfl, show (x.kind.toList == [102, 117, 110]) = true from hk]
      simp
    refine ⟨?_, _, _, hT, fX, X1, X2, ?_⟩
    · rw [hT, stmtR_eq Q _ _ _ (cut _), pX, if_neg (by decide), if_neg (bool_ne (new_no (by simp))), if_neg (bool_ne (show (cpB (kB ([102, 110, 32] ++ (P.fN x.y).data.toList)) ⟨#[38]⟩).2 = false from cpB_no (p := [38]) (pre_diff (by decide)))), if_neg (bool_ne (show (cpB (kB ([102, 110, 32] ++ (P.fN x.y).data.toList)) ⟨#[42]⟩).2 = false from cpB_no (p := [42]) (pre_diff (by decide)))),
        show (⟨#[102, 110, 32]⟩ : ByteArray) = ⟨([102, 110, 32] : List UInt8).toArray⟩ from rfl, cpB_yes, if_pos rfl, kB_of]
      unfold PP.namedR
      rw [anyBad_nm (by
        intro n hn
        simp only [List.mem_cons, List.not_mem_nil, or_false] at hn
        rcases hn with rfl | rfl <;> assumption), if_neg (by decide), hq.v, hq.f, vN_ix hw g.gx, fN_ix hw gy, if_neg (by have := g.gx; omega), if_neg (by omega), show (⟨⟨#[102, 117, 110]⟩, x.x, x.y, []⟩ : PS) = x from ps_eta x (kind_of hk) rfl rfl (ha (isK_ne hk rfl))]
    · rw [hT]
      simp only [List.mem_append, not_or]
      exact ⟨tX, by decide, by decide, nF.free (.inl (by decide))⟩
  · -- call
    have gy := g.yv (isK_ne hk rfl) (isK_ne hk rfl)
    have hY := vN_ok hw gy
    have hA : ∀ s ∈ x.args.map P.vN, nameOk s = true := fun s hs => by
      obtain ⟨n, hn, rfl⟩ := List.mem_map.1 hs
      exact vN_ok hw (g.args n hn)
    have hT : P.stmtT x = (P.vN x.x).data.toList ++ ([32, 61, 32] ++ ([99, 97, 108, 108, 32] ++ ((P.vN x.y).data.toList ++ ([40] ++ (Lib.join ((x.args.map P.vN).map fun x => x.data.toList) [44, 32] ++ ([41] ++ [])))))) := by
      unfold PP.stmtT
      rw [kb _ _ hk rfl, kb _ _ hk rfl, kb _ _ hk rfl, kb _ _ hk rfl, kb _ _ hk rfl, show (x.kind.toList == [99, 97, 108, 108]) = true from hk]
      simp [PP.listT, List.map_map, Function.comp_def]
    refine ⟨?_, _, _, hT, fX, X1, X2, ?_⟩
    · rw [hT, stmtR_eq Q _ _ _ (cut _), pX, if_neg (by decide), if_neg (bool_ne (new_no (by simp))), if_neg (bool_ne (show (cpB (kB ([99, 97, 108, 108, 32] ++ ((P.vN x.y).data.toList ++ ([40] ++ (Lib.join ((x.args.map P.vN).map fun x => x.data.toList) [44, 32] ++ ([41] ++ [])))))) ⟨#[38]⟩).2 = false from cpB_no (p := [38]) (pre_diff (by decide)))), if_neg (bool_ne (show (cpB (kB ([99, 97, 108, 108, 32] ++ ((P.vN x.y).data.toList ++ ([40] ++ (Lib.join ((x.args.map P.vN).map fun x => x.data.toList) [44, 32] ++ ([41] ++ [])))))) ⟨#[42]⟩).2 = false from cpB_no (p := [42]) (pre_diff (by decide)))), if_neg (bool_ne (show (cpB (kB ([99, 97, 108, 108, 32] ++ ((P.vN x.y).data.toList ++ ([40] ++ (Lib.join ((x.args.map P.vN).map fun x => x.data.toList) [44, 32] ++ ([41] ++ [])))))) ⟨#[102, 110, 32]⟩).2 = false from cpB_no (p := [102, 110, 32]) (pre_diff (by decide)))),
        show (⟨#[99, 97, 108, 108, 32]⟩ : ByteArray) = ⟨([99, 97, 108, 108, 32] : List UInt8).toArray⟩ from rfl, cpB_yes, if_pos rfl]
      unfold PP.calledR
      rw [splitP_of hY hA]
      simp only
      have hall : ∀ s ∈ P.vN x.x :: P.vN x.y :: x.args.map P.vN, nameOk s = true := fun s hs => by
        simp only [List.mem_cons] at hs
        rcases hs with rfl | rfl | hs
        · exact hX
        · exact hY
        · exact hA s hs
      rw [anyBad_nm hall, hq.varsR, show P.vN x.x :: P.vN x.y :: x.args.map P.vN = (x.x :: x.y :: x.args).map P.vN from rfl, varsR_of hw (by
        intro n hn
        simp only [List.mem_cons] at hn
        rcases hn with rfl | rfl | hn
        · exact g.gx
        · exact gy
        · exact g.args n hn), if_neg (by rw [Lib.toList_data]; decide), if_pos rfl]
      show (({ Q with stmts := Q.stmts ++ [(⟨⟨#[99, 97, 108, 108]⟩, x.x, x.y, x.args⟩ : PS)] } : PP), (0 : Nat)) = _
      rw [show (⟨⟨#[99, 97, 108, 108]⟩, x.x, x.y, x.args⟩ : PS) = x from ps_eta x (kind_of hk) rfl rfl rfl]
    · rw [hT]
      simp only [List.mem_append, not_or]
      exact ⟨tX, by decide, by decide, (nm_of hY).free (.inl (by decide)), by decide, join_free (by decide) (fun p hp => by
        obtain ⟨s, hs, rfl⟩ := List.mem_map.1 hp
        exact (nm_of (hA s hs)).free (.inl (by decide))), by decide, by simp⟩
theorem linesR_line {n : Nat} {Q Q' : PP} {pt i : Nat} {L t : List UInt8} (h : (10 : UInt8) ∉ L) (hl : Q.lineR pt (kB L) = (Q', 0)) : linesR (n + 1) Q pt i (kB (L ++ ([10] ++ t))) = linesR n Q' (lineP (kB L)) (i + 1) (kB t) := by
  have hc := cutB_app (c := 10) (r := []) (x := L) (t := t) h
  have he : ((kB (L ++ ([10] ++ t))).toList == []) = false := by
    rw [Lib.toList_data, kB_data]
    exact beq_eq_false_iff_ne.2 (by simp)
  rw [linesR_step he hc (by rw [hl]), hl]
theorem line_pre {X R p : List UInt8} (hp : (32 : UInt8) ∉ p) (hX : (32 : UInt8) ∉ X) (hne : X ≠ p) : (cpB (kB (X ++ ([32, 61, 32] ++ R))) ⟨(p ++ [32]).toArray⟩).2 = false := by
  refine cpB_no ?_
  cases h : (p ++ [32]).isPrefixOf (X ++ ([32, 61, 32] ++ R)) with
  | false => rfl
  | true => exact absurd (pre_name (t := 61 :: 32 :: R) hp hX (by rw [← h]; rfl)) hne
theorem line_st {P Q : PP} (hw : P.Well) (hq : Half2 P Q) {x : PS} (h0 : P.stmtErr x = 0) (pt : Nat) : Q.lineR pt (kB (P.stmtT x)) = ({ Q with stmts := Q.stmts ++ [x] }, 0) ∧ (10 : UInt8) ∉ P.stmtT x := by
  obtain ⟨h1, X, R, hT, fX, n1, n2, h10⟩ := stmt_back hw hq h0
  refine ⟨?_, h10⟩
  have e1 : (cpB (kB (P.stmtT x)) varB).2 = false := by rw [hT]; exact line_pre (p := [118, 97, 114]) (by decide) fX n1
  have e2 : (cpB (kB (P.stmtT x)) fnB).2 = false := by rw [hT]; exact line_pre (p := [102, 110]) (by decide) fX n2
  unfold PP.lineR
  rw [if_neg (bool_ne e1), if_neg (bool_ne e2), h1]
def fnL (P : PP) (f : PF) : List UInt8 := [102, 110, 32] ++ (f.name.data.toList ++ ([40] ++ (Lib.join ((f.params.map P.vN).map fun x => x.data.toList) [44, 32] ++ ([41] ++ ([32] ++ (P.vN f.ret).data.toList)))))
theorem funT_eq (P : PP) (f : PF) : P.funT f = fnL P f ++ [10] := by
  unfold PP.funT fnL PP.listT
  simp [List.map_map, Function.comp_def]
theorem line_fn {P Q : PP} (hw : P.Well) (hv : Q.vars = P.vars) {f : PF} (hf : f ∈ P.funs) {pt : Nat} (hpt : pt ≤ 1) : Q.lineR pt (kB (fnL P f)) = ({ Q with funs := Q.funs ++ [f] }, 0) ∧ lineP (kB (fnL P f)) = 1 ∧ (10 : UInt8) ∉ fnL P f := by
  have g := well_fun hw hf
  have hN : nameOk f.name = true := anyBad_ok (namesErr_no (well_names hw).2).1 _ (List.mem_map.2 ⟨f, hf, rfl⟩)
  have hR := vN_ok hw g.ret
  have hA : ∀ s ∈ f.params.map P.vN, nameOk s = true := fun s hs => by
    obtain ⟨n, hn, rfl⟩ := List.mem_map.1 hs
    exact vN_ok hw (g.params n hn)
  have e1 : (cpB (kB (fnL P f)) varB).2 = false := cpB_no (p := [118, 97, 114, 32]) (pre_diff (b := 102) (by decide))
  have e2 : cpB (kB (fnL P f)) fnB = (kB (f.name.data.toList ++ ([40] ++ (Lib.join ((f.params.map P.vN).map fun x => x.data.toList) [44, 32] ++ ([41] ++ ([32] ++ (P.vN f.ret).data.toList))))), true) := cpB_yes [102, 110, 32] _
  have hq : ∀ l, Q.varsR l = P.varsR l := fun l => by unfold PP.varsR; rw [hv]
  have hq1 : ∀ s, Q.varR s = P.varR s := fun l => by unfold PP.varR; rw [hv]
  refine ⟨?_, ?_, ?_⟩
  · unfold PP.lineR
    rw [if_neg (bool_ne e1), e2, if_pos rfl]
    unfold PP.funR
    rw [splitP_of hN hA]
    simp only
    rw [show (⟨#[32]⟩ : ByteArray) = ⟨([32] : List UInt8).toArray⟩ from rfl, cpB_yes [32] (P.vN f.ret).data.toList, kB_of]
    simp only
    rw [hN, anyBad_nm (fun s hs => by
      rcases List.mem_append.1 hs with e | e
      · exact hA s e
      · rw [List.mem_singleton.1 e]; exact hR), hq, hq1, varsR_of hw g.params, varR_of hw g.ret, if_neg (by simp; omega), if_neg (by simp), if_neg (by simp)]
  · unfold lineP
    rw [if_neg (bool_ne e1), e2, if_pos rfl]
  · unfold fnL
    simp only [List.mem_append, not_or]
    exact ⟨by decide, (nm_of hN).free (.inl (by decide)), by decide, join_free (by decide) (fun p hp => by
      obtain ⟨s, hs, rfl⟩ := List.mem_map.1 hp
      exact (nm_of (hA s hs)).free (.inl (by decide))), by decide, by decide, (nm_of hR).free (.inl (by decide))⟩
theorem line_var {Q : PP} {v : ByteArray} (hv : nameOk v = true) : Q.lineR 0 (kB ([118, 97, 114, 32] ++ v.data.toList)) = ({ Q with vars := Q.vars ++ [v] }, 0) ∧ lineP (kB ([118, 97, 114, 32] ++ v.data.toList)) = 0 ∧ (10 : UInt8) ∉ [118, 97, 114, 32] ++ v.data.toList := by
  have e1 : cpB (kB ([118, 97, 114, 32] ++ v.data.toList)) varB = (kB v.data.toList, true) := cpB_yes [118, 97, 114, 32] _
  refine ⟨?_, ?_, ?_⟩
  · unfold PP.lineR
    rw [e1, if_pos rfl, kB_of]
    simp only
    rw [hv, if_neg (by decide)]
  · unfold lineP
    rw [e1, if_pos rfl]
  · simp only [List.mem_append, not_or]
    exact ⟨by decide, (nm_of hv).free (.inl (by decide))⟩
theorem lines_vars (n : Nat) (t : List UInt8) : ∀ (l vs : List ByteArray) (i : Nat), (∀ v ∈ l, nameOk v = true) → linesR (n + l.length) ⟨vs, [], []⟩ 0 i (kB (l.flatMap PP.varT ++ t)) = linesR n ⟨vs ++ l, [], []⟩ 0 (i + l.length) (kB t)
  | [], vs, i, _ => by simp
  | v :: l, vs, i, h => by
    obtain ⟨h1, h2, h3⟩ := line_var (Q := ⟨vs, [], []⟩) (h v (List.mem_cons_self ..))
    have hs : (v :: l).flatMap PP.varT ++ t = ([118, 97, 114, 32] ++ v.data.toList) ++ ([10] ++ (l.flatMap PP.varT ++ t)) := by
      rw [List.flatMap_cons]
      simp [PP.varT]
    rw [hs, List.length_cons, ← Nat.add_assoc, linesR_line h3 h1, h2]
    simp only
    rw [lines_vars n t l (vs ++ [v]) (i + 1) fun v hv => h v (List.mem_cons_of_mem _ hv)]
    simp [Nat.add_assoc, Nat.add_comm 1]
theorem lines_funs {P : PP} (hw : P.Well) (n : Nat) (t : List UInt8) : ∀ (l fs : List PF) (i pt : Nat), pt ≤ 1 → (∀ f ∈ l, f ∈ P.funs) → ∃ pt', linesR (n + l.length) ⟨P.vars, fs, []⟩ pt i (kB (l.flatMap P.funT ++ t)) = linesR n ⟨P.vars, fs ++ l, []⟩ pt' (i + l.length) (kB t)
  | [], fs, i, pt, _, _ => ⟨pt, by simp⟩
  | f :: l, fs, i, pt, hpt, h => by
    obtain ⟨h1, h2, h3⟩ := line_fn (Q := ⟨P.vars, fs, []⟩) hw rfl (h f (List.mem_cons_self ..)) hpt
    have hs : (f :: l).flatMap P.funT ++ t = fnL P f ++ ([10] ++ (l.flatMap P.funT ++ t)) := by
      rw [List.flatMap_cons, funT_eq]
      simp
    obtain ⟨pt', e⟩ := lines_funs hw n t l (fs ++ [f]) (i + 1) 1 (Nat.le_refl _) fun g hg => h g (List.mem_cons_of_mem _ hg)
    refine ⟨pt', ?_⟩
    rw [hs, List.length_cons, ← Nat.add_assoc, linesR_line h3 h1, h2]
    simp only
    rw [e]
    simp [Nat.add_assoc, Nat.add_comm 1]
theorem lines_stmts {P : PP} (hw : P.Well) (n : Nat) (t : List UInt8) : ∀ (l ss : List PS) (i pt : Nat), (∀ x ∈ l, P.stmtErr x = 0) → ∃ pt', linesR (n + l.length) ⟨P.vars, P.funs, ss⟩ pt i (kB ((l.flatMap fun s => P.stmtT s ++ [10]) ++ t)) = linesR n ⟨P.vars, P.funs, ss ++ l⟩ pt' (i + l.length) (kB t)
  | [], ss, i, pt, _ => ⟨pt, by simp⟩
  | x :: l, ss, i, pt, h => by
    obtain ⟨h1, h3⟩ := line_st (Q := ⟨P.vars, P.funs, ss⟩) hw ⟨rfl, rfl⟩ (h x (List.mem_cons_self ..)) pt
    have hs : ((x :: l).flatMap fun s => P.stmtT s ++ [10]) ++ t = P.stmtT x ++ ([10] ++ ((l.flatMap fun s => P.stmtT s ++ [10]) ++ t)) := by
      rw [List.flatMap_cons]
      simp
    obtain ⟨pt', e⟩ := lines_stmts hw n t l (ss ++ [x]) (i + 1) (lineP (kB (P.stmtT x))) fun g hg => h g (List.mem_cons_of_mem _ hg)
    refine ⟨pt', ?_⟩
    rw [hs, List.length_cons, ← Nat.add_assoc, linesR_line h3 h1]
    simp only
    rw [e]
    simp [Nat.add_assoc, Nat.add_comm 1]
theorem flat_ge {α : Type} {f : α → List UInt8} (hf : ∀ x, f x ≠ []) : ∀ l : List α, l.length ≤ (l.flatMap f).length
  | [] => Nat.zero_le _
  | x :: l => by
    have h1 := flat_ge hf l
    have h2 : 0 < (f x).length := List.length_pos_iff.2 (hf x)
    rw [List.flatMap_cons, List.length_append, List.length_cons]
    omega
theorem lines_back {P : PP} (hw : P.Well) : ∃ i, linesR ((kB P.text).size + 1) PP.none 0 0 (kB P.text) = (P, 0, i) := by
  have hlen : (kB P.text).size = (P.vars.flatMap PP.varT).length + (P.funs.flatMap P.funT).length + (P.stmts.flatMap fun s => P.stmtT s ++ [10]).length := by
    rw [kB_size]
    unfold PP.text
    rw [List.length_append, List.length_append]
  have l1 := flat_ge (f := PP.varT) (by intro x; simp [PP.varT]) P.vars
  have l2 := flat_ge (f := P.funT) (by intro x; simp [PP.funT]) P.funs
  have l3 := flat_ge (f := fun s => P.stmtT s ++ [10]) (by intro x; simp) P.stmts
  obtain ⟨n, hn⟩ : ∃ n, (kB P.text).size + 1 = ((n + 1 + P.stmts.length) + P.funs.length) + P.vars.length := ⟨(kB P.text).size - P.stmts.length - P.funs.length - P.vars.length, by omega⟩
  have hT : kB P.text = kB (P.vars.flatMap PP.varT ++ (P.funs.flatMap P.funT ++ ((P.stmts.flatMap fun s => P.stmtT s ++ [10]) ++ []))) := by
    unfold PP.text
    simp
  rw [hn, hT]
  have e1 := lines_vars ((n + 1 + P.stmts.length) + P.funs.length) (P.funs.flatMap P.funT ++ ((P.stmts.flatMap fun s => P.stmtT s ++ [10]) ++ [])) P.vars [] 0 (anyBad_ok (namesErr_no (well_names hw).1).1)
  obtain ⟨p2, e2⟩ := lines_funs hw (n + 1 + P.stmts.length) ((P.stmts.flatMap fun s => P.stmtT s ++ [10]) ++ []) P.funs [] (0 + P.vars.length) 0 (Nat.zero_le _) (fun f hf => hf)
  obtain ⟨p3, e3⟩ := lines_stmts hw (n + 1) [] P.stmts [] (0 + P.vars.length + P.funs.length) p2 (fun x hx => by
    obtain ⟨j, hj⟩ := List.getElem?_of_mem hx
    exact hw.2 j x (List.getElem?_eq_some_iff.1 hj).1 hj)
  refine ⟨0 + P.vars.length + P.funs.length + P.stmts.length, ?_⟩
  refine e1.trans (e2.trans (e3.trans ?_))
  rw [linesR_end (Nat.succ_pos _) (by rw [Lib.toList_data]; rfl)]
  rfl
theorem read_back {P Q : PP} {c : Nat} {p : Int} (hw : P.Well) (hl : P.text.length ≤ 4000) (h : ReadIs (kB P.text) Q c p) : Q = P ∧ c = 0 := by
  obtain ⟨i, hi⟩ := lines_back hw
  have hR : ReadIs (kB P.text) P 0 (-1) := .inr (.inr ⟨by rw [kB_size]; exact hl, by rw [hi], -1, by rw [hi]; exact .inr (.inl ⟨hw.1, hw.2, rfl, rfl⟩), rfl, .inl ⟨rfl, by rw [hi]⟩⟩)
  have := h.uniq hR
  exact ⟨this.1, this.2.1⟩
end Go.Proofs.YtamblahkckaaaaaDoor
namespace Go.Proofs.YtamblahkckaaaaaDoor
open Go Go.RowKit
set_option maxRecDepth 100000 in
set_option maxHeartbeats 1600000 in
theorem sametexts_any (v1 v2 : Value) (l : List ByteArray) (w : World) (n1 n2 : Nat) (h1 : StrsR w n1 v1 l) (h2 : StrsR w n2 v2 l) :
    Calls Tryd.prog 27 #[v1, v2] w fun e w' => e = .returned (.bool true) ∧ Ext w w' := by
  have H1 := hid h1
  have H2 := hid h2
  have hml := (show (l.length : Int) ≤ 9223372036854775807 by obtain ⟨_, _, _, _, h, _⟩ := h1; omega)
  obtain ⟨a1, c1, rfl, _⟩ := h1
  obtain ⟨a2, c2, rfl, _⟩ := h2
  have e0 : ((l.length : Int) != (l.length : Int)) = false := by simp
  go_enter Tryd.func27, Tryd.ntmps27
  go_wp2
  clear e0
  go_loopw [5] (fun t5 wr => ∃ k : Nat, t5 = .int .i64 (k : Int) ∧ k ≤ l.length ∧ Ext w wr) (fun t5 _ => l.length - (intOf t5).toNat)
  case atStart => exact ⟨0, rfl, Nat.zero_le _, Ext.refl _⟩
  case round =>
    obtain ⟨k, rfl, hk, hx⟩ := hrel
    have Hx := hid hx
    by_cases hlt : k < l.length
    · obtain ⟨ya, s, hya, hq, hca⟩ := (H1.out.old (hx.old _)).at hlt
      subst hya
      obtain ⟨yb, s2, hyb, hq2, hcb⟩ := (H2.out.old (hx.old _)).at hlt
      subst hyb
      obtain rfl := Option.some.inj (hq.symm.trans hq2)
      have k0 := fun w1 (k : Keep (fun _ => False) wr w1) => k.cellx hca fun e => e
      have k1 := fun w1 (k : Keep (fun _ => False) wr w1) => k.cellx hcb fun e => e
      have e1 : (s.toList != s.toList) = false := by simp
      clear hca hcb hx hq hq2
      go_wp2
      refine wp_flowT (fun _ => False) (by kernel_rfl) (by kernel_rfl) ?_
      repeat (apply FlowT.d; (intro w1 hk; unfold does; go_simp; (try go_ints); (first | exact DetR.mk | (simp only [↓IntWalk.iteOmega, Oper.doesUpon_value]; exact DetR.mk) | (simp only [↓IntWalk.iteOmega]; go_simp; (try go_ints); exact DetR.mk))); simp only [Act.put, qS0, qS1, qS2])
      refine FlowT.fin fun w3 hx3 hk3 => ?_
      have Hx3 := hid (Hx.out.trans hx3)
      clear k0 k1 hx3 hk3
      go_wp2
      go_roundw
      case rel => exact ⟨k + 1, by go_num, by omega, Hx3.out⟩
      case measure => simp [intOf]; omega
    · obtain rfl : k = l.length := by omega
      clear hx
      go_wp2
      go_ret
      exact ⟨rfl, Hx.out⟩
structure PP.Nums (P : PP) : Prop where
  f : ∀ f ∈ P.funs, ∀ i, f.params.getD i 0 ≤ 9223372036854775807
  s : ∀ s ∈ P.stmts, ∀ i, s.args.getD i 0 ≤ 9223372036854775807
set_option maxRecDepth 100000 in
set_option maxHeartbeats 6400000 in
theorem sameprog_any (a1 a2 a3 b1 b2 b3 : Option Addr) (c1 c2 c3 d1 d2 d3 : Nat) (P : PP) (w : World) (n1 n2 : Nat) (h1 : ProgR w n1 (.slice a1 P.vars.length c1) (.slice a2 P.funs.length c2) (.slice a3 P.stmts.length c3) P)
    (h2 : ProgR w n2 (.slice b1 P.vars.length d1) (.slice b2 P.funs.length d2) (.slice b3 P.stmts.length d3) P) (hN : P.Nums) :
    Calls Tryd.prog 10 #[pval a1 a2 a3 c1 c2 c3 P, pval b1 b2 b3 d1 d2 d3 P] w fun e w' => e = .returned (.bool true) ∧ Ext w w' := by
  obtain ⟨W1, hW1⟩ : ∃ W1, W1 = w.alloc (.cells (pcells a1 a2 a3 c1 c2 c3 P) 26) := ⟨_, rfl⟩
  obtain ⟨W, hW⟩ : ∃ W, W = W1.alloc (.cells (pcells b1 b2 b3 d1 d2 d3 P) 26) := ⟨_, rfl⟩
  have hx1 : Ext w W1 := by rw [hW1]; exact (Ext.refl _).alloc _
  have hx2 : Ext W1 W := by rw [hW]; exact (Ext.refl _).alloc _
  have HX := hid (hx1.trans hx2)
  have hs1 : W1.heap.size = w.heap.size + 1 := by rw [hW1, heap_size_alloc]
  have HB1 : Hid (Blk W w.heap.size (pcells a1 a2 a3 c1 c2 c3 P) 26) := hid (by
    have : Blk W1 w.heap.size (pcells a1 a2 a3 c1 c2 c3 P) 26 := by rw [hW1]; exact Blk.new _ _ _
    exact this.ext hx2)
  have HB2 : Hid (Blk W (w.heap.size + 1) (pcells b1 b2 b3 d1 d2 d3 P) 26) := hid (by rw [hW, ← hs1]; exact Blk.new _ _ _)
  have HWe : Hid (W = (w.alloc (.cells #[.slice a1 P.vars.length c1, .slice a2 P.funs.length c2, .slice a3 P.stmts.length c3] 26)).alloc (.cells #[.slice b1 P.vars.length d1, .slice b2 P.funs.length d2, .slice b3 P.stmts.length d3] 26)) := hid (by rw [hW, hW1]; rfl)
  have H1 := hid (h1.ext HX.out)
  have H2 := hid (h2.ext HX.out)
  have HS := hid (sametexts_any _ _ P.vars W n1 n2 H1.out.vars H2.out.vars)
  have HN := hid hN
  have p0 := HB1.out.av 0 rfl
  have p1 := HB1.out.av 1 rfl
  have p2 := HB1.out.av 2 rfl
  have q0 := HB2.out.av 0 rfl
  have q1 := HB2.out.av 1 rfl
  have q2 := HB2.out.av 2 rfl
  simp only [pcells, qA0, qA1, qA2] at p0 p1 p2 q0 q1 q2
  rw [HWe.out] at p0 p1 p2 q0 q1 q2
  have hfl := H1.out.funs.len
  have hsl := H1.out.stmts.len
  have e0 : ((P.funs.length : Int) != (P.funs.length : Int)) = false := by simp
  have e1 : ((P.stmts.length : Int) != (P.stmts.length : Int)) = false := by simp
  unfold pval
  clear hW1 hW hx1 hx2 hs1 h1 h2 hN
  go_enter Tryd.func10, Tryd.ntmps10
  go_wp2_with fail
  rw [← HWe.out]
  refine HS.out.mono ?_
  rintro e w1 ⟨rfl, hx1⟩
  have Hx1 := hid hx1
  clear HS hx1 p0 p1 p2 q0 q1 q2
  have p1 := (HB1.out.ext Hx1.out).av 1 rfl
  have p2 := (HB1.out.ext Hx1.out).av 2 rfl
  have q1 := (HB2.out.ext Hx1.out).av 1 rfl
  have q2 := (HB2.out.ext Hx1.out).av 2 rfl
  simp only [pcells, qA0, qA1, qA2] at p1 p2 q1 q2
  go_wp2
  clear p1 p2 q1 q2 e0 e1
  go_loopw [5] (fun t5 wr => ∃ k : Nat, t5 = .int .i64 (k : Int) ∧ k ≤ P.funs.length ∧ Ext W wr) (fun t5 _ => P.funs.length - (intOf t5).toNat)
  case atStart => exact ⟨0, rfl, Nat.zero_le _, Hx1.out⟩
  case round =>
    clear Hx1
    obtain ⟨k, rfl, hk, hx⟩ := hrel
    have Hx := hid hx
    have p1 := (HB1.out.ext hx).av 1 rfl
    simp only [pcells, qA0, qA1, qA2] at p1
    by_cases hlt : k < P.funs.length
    · obtain ⟨ya, f, av, cv, hya, hfk, u0, u1, u2, hI⟩ := (H1.out.ext hx).funs.at hlt
      subst hya
      obtain ⟨yb, f', bv, dv, hyb, hfk', y0, y1, y2, hI'⟩ := (H2.out.ext hx).funs.at hlt
      subst hyb
      obtain rfl := Option.some.inj (hfk.symm.trans hfk')
      have hnn := HN.out.f f (List.mem_of_getElem? hfk)
      have hpl := hI.len
      have HC := fun w1 (x : Ext wr w1) => hid (sameints_any av bv f.params.length f.params.length cv dv f.params f.params w1 (IntsR.ints (hI.old (x.old _)) hnn) (IntsR.ints (hI'.old (x.old _)) hnn) hpl hpl)
      rw [decide_eq_true rfl] at HC
      have k0 := fun w1 (k : Keep (fun _ => False) wr w1) => k.cellx u0 fun e => e
      have k1 := fun w1 (k : Keep (fun _ => False) wr w1) => k.cellx u1 fun e => e
      have k2 := fun w1 (k : Keep (fun _ => False) wr w1) => k.cellx u2 fun e => e
      have m0 := fun w1 (k : Keep (fun _ => False) wr w1) => k.cellx y0 fun e => e
      have m1 := fun w1 (k : Keep (fun _ => False) wr w1) => k.cellx y1 fun e => e
      have m2 := fun w1 (k : Keep (fun _ => False) wr w1) => k.cellx y2 fun e => e
      have s1 := (HB1.out.ext hx).kc (X := fun _ => False) (fun e => e) 1 rfl
      have s2 := (HB2.out.ext hx).kc (X := fun _ => False) (fun e => e) 1 rfl
      simp only [pcells, qA0, qA1, qA2] at s1 s2
      have e1 : (f.name.toList != f.name.toList) = false := by simp
      have e2 : (f.ret != f.ret) = false := by simp
      clear u0 u1 u2 y0 y1 y2 hx hfk hfk' hI hI' hnn hpl
      go_wp2
      refine wp_flowT (fun _ => False) (by kernel_rfl) (by kernel_rfl) ?_
      repeat (apply FlowT.d; (intro w1 hk; unfold does; go_simp; (try go_ints); (first | exact DetR.mk | (simp only [↓IntWalk.iteOmega, Oper.doesUpon_value]; exact DetR.mk) | (simp only [↓IntWalk.iteOmega]; go_simp; (try go_ints); exact DetR.mk))); simp only [Act.put, qS0, qS1, qS2])
      apply FlowT.d
      · intro w1 hk
        unfold does
        go_simp
        exact CallR.det ((HC w1 hk.ext).out)
      simp only [Act.put, qS0, qS1, qS2]
      repeat (apply FlowT.d; (intro w1 hk; unfold does; go_simp; (try go_ints); (first | exact DetR.mk | (simp only [↓IntWalk.iteOmega, Oper.doesUpon_value]; exact DetR.mk) | (simp only [↓IntWalk.iteOmega]; go_simp; (try go_ints); exact DetR.mk))); simp only [Act.put, qS0, qS1, qS2])
      refine FlowT.fin fun w3 hx3 hk3 => ?_
      have Hx3 := hid (Hx.out.trans hx3)
      clear k0 k1 k2 m0 m1 m2 s1 s2 hx3 hk3 e1 e2 p1 HC
      go_wp2
      go_roundw
      case rel => exact ⟨k + 1, by go_num, by omega, Hx3.out⟩
      case measure => simp [intOf]; omega
    · obtain rfl : k = P.funs.length := by omega
      have p2 := (HB1.out.ext hx).av 2 rfl
      simp only [pcells, qA0, qA1, qA2] at p2
      clear hx
      go_wp2
      clear p1 p2
      obtain ⟨wa, hwa⟩ : ∃ wa, wa = wr := ⟨_, rfl⟩
      subst hwa
      go_loopw [6] (fun t6 wr => ∃ k : Nat, t6 = .int .i64 (k : Int) ∧ k ≤ P.stmts.length ∧ Ext W wr) (fun t6 _ => P.stmts.length - (intOf t6).toNat)
      case atStart => exact ⟨0, rfl, Nat.zero_le _, Hx.out⟩
      case round =>
        clear Hx
        obtain ⟨k, rfl, hk, hx⟩ := hrel
        have Hx := hid hx
        have p2 := (HB1.out.ext hx).av 2 rfl
        have q2 := (HB2.out.ext hx).av 2 rfl
        simp only [pcells, qA0, qA1, qA2] at p2 q2
        by_cases hlt : k < P.stmts.length
        · obtain ⟨ya, f, av, cv, hya, hfk, u0, u1, u2, u3, hI⟩ := (H1.out.ext hx).stmts.at hlt
          subst hya
          obtain ⟨yb, f', bv, dv, hyb, hfk', y0, y1, y2, y3, hI'⟩ := (H2.out.ext hx).stmts.at hlt
          subst hyb
          obtain rfl := Option.some.inj (hfk.symm.trans hfk')
          have hnn := HN.out.s f (List.mem_of_getElem? hfk)
          have hpl := hI.len
          obtain ⟨W5, hW5⟩ : ∃ W5, W5 = (wr.alloc (.cells #[.string f.kind, .int .i64 f.x, .int .i64 f.y, .slice av f.args.length cv] 39)).alloc (.cells #[.string f.kind, .int .i64 f.x, .int .i64 f.y, .slice bv f.args.length dv] 39) := ⟨_, rfl⟩
          have hx5 : Ext wr W5 := by rw [hW5]; exact ((Ext.refl _).alloc _).alloc _
          have HC := hid (sameints_any av bv f.args.length f.args.length cv dv f.args f.args W5 (IntsR.ints (hI.old (hx5.old _)) hnn) (IntsR.ints (hI'.old (hx5.old _)) hnn) hpl hpl)
          rw [decide_eq_true rfl] at HC
          have hxm : Ext wr (wr.alloc (.cells #[.string f.kind, .int .i64 f.x, .int .i64 f.y, .slice av f.args.length cv] 39)) := (Ext.refl _).alloc _
          have q2 := hxm.cellx q2
          have y0 := hxm.cellx y0
          have y1 := hxm.cellx y1
          have y2 := hxm.cellx y2
          have y3 := hxm.cellx y3
          have e1 : (f.kind.toList != f.kind.toList) = false := by simp
          have e2 : (f.x != f.x) = false := by simp
          have e3 : (f.y != f.y) = false := by simp
          have Hx5 := hid (hx.trans hx5)
          have HW5 := hid hW5
          clear hx hfk hfk' hI hI' hnn hpl hW5 hx5 hxm
          go_wp2_with fail
          rw [← HW5.out]
          refine HC.out.mono ?_
          rintro e w6 ⟨rfl, hx6⟩
          have Hx6 := hid (Hx5.out.trans hx6)
          clear HC hx6 u0 u1 u2 u3 y0 y1 y2 y3 e1 e2 e3 p2 q2
          go_wp2
          go_roundw
          case rel => exact ⟨k + 1, by go_num, by omega, Hx6.out⟩
          case measure => simp [intOf]; omega
        · obtain rfl : k = P.stmts.length := by omega
          clear hx
          go_wp2
          go_ret
          exact ⟨rfl, HX.out.trans Hx.out⟩
def progdP : PP := ⟨[⟨#[97]⟩, ⟨#[98]⟩], [], [⟨⟨#[97, 100, 100, 114]⟩, 0, 1, []⟩, ⟨⟨#[110, 101, 119]⟩, 1, 0, []⟩]⟩
theorem progd_well : progdP.Well := by
  refine ⟨by decide +kernel, fun j t hj ht => ?_⟩
  have hj2 : j < 2 := hj
  rcases (by omega : j = 0 ∨ j = 1) with rfl | rfl
  · obtain rfl := Option.some.inj ht
    decide +kernel
  · obtain rfl := Option.some.inj ht
    decide +kernel
theorem progd_small : progdP.Small :=
  ⟨by decide, by decide, by decide, fun s hs => by rcases (by simpa [progdP] using hs : s = ⟨#[97]⟩ ∨ s = ⟨#[98]⟩) with rfl | rfl <;> decide, (fun f hf => by simp [progdP] at hf), fun s hs => by
    rcases (by simpa [progdP] using hs : s = ⟨⟨#[97, 100, 100, 114]⟩, 0, 1, []⟩ ∨ s = ⟨⟨#[110, 101, 119]⟩, 1, 0, []⟩) with rfl | rfl <;> exact ⟨by decide, by decide⟩⟩
theorem progd_text : kB progdP.text = ⟨#[118, 97, 114, 32, 97, 10, 118, 97, 114, 32, 98, 10, 97, 32, 61, 32, 38, 98, 10, 98, 32, 61, 32, 110, 101, 119, 10]⟩ := by
  have h : progdP.text = [118, 97, 114, 32, 97, 10, 118, 97, 114, 32, 98, 10, 97, 32, 61, 32, 38, 98, 10, 98, 32, 61, 32, 110, 101, 119, 10] := by decide +kernel
  rw [h]
  rfl
theorem progd_objects : progdP.objectsV = 3 := by decide +kernel
theorem progd_place : progdP.placeV 1 = 2 := by decide +kernel
def progdS : Array Value := #[.string ⟨#[97, 100, 100, 114]⟩, .int .i64 0, .int .i64 1, .slice none 0 0, .string ⟨#[110, 101, 119]⟩, .int .i64 1, .int .i64 0, .slice none 0 0]
theorem progd_prog {w : World} {a b n0 : Nat} (ha : Blk w a #[.string ⟨#[97]⟩, .string ⟨#[98]⟩] 9) (hb : Blk w b progdS 39) (h1 : a < n0) (h2 : b < n0) : ProgR w n0 (.slice (some ⟨a, 0, none⟩) 2 2) (.slice none 0 0) (.slice (some ⟨b, 0, none⟩) 2 2) progdP := by
  refine ⟨⟨_, 2, rfl, by decide, by decide, fun _ => ⟨_, rfl⟩, fun y hy _ => ?_⟩, ⟨_, 0, rfl, by decide, by decide, fun h => absurd h (by decide), fun y hy => by cases hy⟩, ⟨_, 2, rfl, by decide, by decide, fun _ => ⟨_, rfl⟩, fun y hy _ => ?_⟩⟩
  · obtain rfl := Option.some.inj hy
    refine ⟨h1, fun i hi s hs => ?_⟩
    have hi2 : i < 2 := hi
    rcases (by omega : i = 0 ∨ i = 1) with rfl | rfl
    · obtain rfl := Option.some.inj hs
      exact ha.av 0 rfl
    · obtain rfl := Option.some.inj hs
      exact ha.av 1 rfl
  · obtain rfl := Option.some.inj hy
    refine ⟨h2, fun i hi s hs => ?_⟩
    have hi2 : i < 2 := hi
    have hn : IntsR w n0 (.slice none 0 0) [] := ⟨none, 0, rfl, by decide, by decide, fun h => absurd h (by decide), fun y hy => by cases hy⟩
    rcases (by omega : i = 0 ∨ i = 1) with rfl | rfl
    · obtain rfl := Option.some.inj hs
      exact ⟨.slice none 0 0, hb.av 0 rfl, hb.av 1 rfl, hb.av 2 rfl, hb.av 3 rfl, hn⟩
    · obtain rfl := Option.some.inj hs
      exact ⟨.slice none 0 0, hb.av 4 rfl, hb.av 5 rfl, hb.av 6 rfl, hb.av 7 rfl, hn⟩
set_option maxRecDepth 100000 in
set_option maxHeartbeats 3200000 in
theorem programmed_any (w : World) (ad : Nat → Addr) (hE : ErrsP w ad) : Calls Tryd.prog 4 #[] w fun e w' => e = .returned (.bool true) ∧ Ext w w' := by
  obtain ⟨W1, hW1⟩ : ∃ W1, W1 = w.alloc (.cells #[.string ⟨#[97]⟩, .string ⟨#[98]⟩] 9) := ⟨_, rfl⟩
  obtain ⟨W2, hW2⟩ : ∃ W2, W2 = W1.alloc (.cells progdS 39) := ⟨_, rfl⟩
  obtain ⟨W3, hW3⟩ : ∃ W3, W3 = W2.alloc (.cells #[.slice (some ⟨w.heap.size, 0, none⟩) 2 2, .slice none 0 0, .slice (some ⟨w.heap.size + 1, 0, none⟩) 2 2] 26) := ⟨_, rfl⟩
  have x1 : Ext w W1 := by rw [hW1]; exact (Ext.refl _).alloc _
  have x2 : Ext W1 W2 := by rw [hW2]; exact (Ext.refl _).alloc _
  have x3 : Ext W2 W3 := by rw [hW3]; exact (Ext.refl _).alloc _
  have s1 : W1.heap.size = w.heap.size + 1 := by rw [hW1, heap_size_alloc]
  have s2 : W2.heap.size = w.heap.size + 2 := by rw [hW2, heap_size_alloc, s1]
  have s3 : W3.heap.size = w.heap.size + 3 := by rw [hW3, heap_size_alloc, s2]
  have bA : Blk W1 w.heap.size #[.string ⟨#[97]⟩, .string ⟨#[98]⟩] 9 := by rw [hW1]; exact Blk.new _ _ _
  have bB : Blk W2 (w.heap.size + 1) progdS 39 := by rw [hW2, ← s1]; exact Blk.new _ _ _
  have bC : Blk W3 (w.heap.size + 2) #[.slice (some ⟨w.heap.size, 0, none⟩) 2 2, .slice none 0 0, .slice (some ⟨w.heap.size + 1, 0, none⟩) 2 2] 26 := by rw [hW3, ← s2]; exact Blk.new _ _ _
  have hP := progd_prog (n0 := W3.heap.size) (bA.ext (x2.trans x3)) (bB.ext x3) (by omega) (by omega)
  have xx : Ext w W3 := x1.trans (x2.trans x3)
  have hz1 : ∀ s ∈ progdP.vars, s.size ≤ 1000000 := fun s hs => by have := progd_small.vs s hs; omega
  have hz2 : ∀ s ∈ progdP.names, s.size ≤ 1000000 := fun s hs => by simp [PP.names, progdP] at hs
  have hPW : PW W3 W3.heap.size ad _ _ _ 2 0 2 progdP := ⟨hE.ext xx, hP, hz1, hz2, progd_well⟩
  have HT := hid (progtext_yes _ _ _ 2 0 2 progdP W3 ad (hE.ext xx) hP progd_small progd_well)
  have HO := fun w1 (x : Ext W3 w1) => hid (progobjects_any _ _ _ 2 0 2 progdP w1 W3.heap.size ad (hPW.ext x))
  have HL := fun w1 (x : Ext W3 w1) => hid (progplace_any _ _ _ 2 0 2 progdP 1 w1 W3.heap.size ad (hPW.ext x).errs (hPW.ext x).prog hz1 hz2 progd_well)
  rw [progd_text] at HT
  rw [progd_objects] at HO
  rw [progd_place] at HL
  have HX := hid xx
  have HC := hid bC
  have HW3 : Hid (W3 = ((w.alloc (.cells #[.string ⟨#[97]⟩, .string ⟨#[98]⟩] 9)).alloc (.cells #[.string ⟨#[97, 100, 100, 114]⟩, .int .i64 0, .int .i64 1, .slice none 0 0, .string ⟨#[110, 101, 119]⟩, .int .i64 1, .int .i64 0, .slice none 0 0] 39)).alloc (.cells #[.slice (some ⟨w.heap.size, 0, none⟩) 2 2, .slice none 0 0, .slice (some ⟨w.heap.size + 1, 0, none⟩) 2 2] 26)) := hid (by rw [hW3, hW2, hW1]; rfl)
  unfold pval at HT HO HL
  clear hE hW1 hW2 hW3 x1 x2 x3 s1 s2 s3 bA bB bC hP xx hPW hz1 hz2
  go_enter Tryd.func4, Tryd.ntmps4
  go_wp2_with fail
  rw [← HW3.out]
  refine HT.out.mono ?_
  intro e w4 hx
  obtain ⟨rfl, hx⟩ := hx
  have HX4 := hid hx
  have c0 := (HC.out.ext hx).av 0 rfl
  have c1 := (HC.out.ext hx).av 1 rfl
  have c2 := (HC.out.ext hx).av 2 rfl
  simp only [qA0, qA1, qA2] at c0 c1 c2
  have HO4 := HO w4 hx
  clear hx HT HO
  go_wp2_with fail
  refine HO4.out.mono ?_
  intro e w5 hx
  obtain ⟨rfl, hx⟩ := hx
  have HX5 := hid (HX4.out.trans hx)
  clear c0 c1 c2 HO4 hx
  have c0 := (HC.out.ext HX5.out).av 0 rfl
  have c1 := (HC.out.ext HX5.out).av 1 rfl
  have c2 := (HC.out.ext HX5.out).av 2 rfl
  simp only [qA0, qA1, qA2] at c0 c1 c2
  have HL5 := HL w5 HX5.out
  clear HL
  go_wp2_with fail
  refine HL5.out.mono ?_
  intro e w6 hx
  obtain ⟨rfl, hx⟩ := hx
  have HX6 := hid (HX.out.trans (HX5.out.trans hx))
  clear c0 c1 c2 HL5 hx
  go_wp2
  go_ret
  exact ⟨rfl, HX6.out⟩
set_option maxRecDepth 100000 in
set_option maxHeartbeats 1600000 in
theorem progfun_wide (a1 a2 a3 : Option Addr) (c1 c2 c3 : Nat) (P : PP) (o : Int) (w : World) (n0 : Nat) (ad : Nat → Addr) (h : PW w n0 ad a1 a2 a3 c1 c2 c3 P) (ho : -9223372036854770000 ≤ o ∧ o ≤ 9223372036854775807) :
    Calls Tryd.prog 14 #[pval a1 a2 a3 c1 c2 c3 P, .int .i64 o] w fun e w' => e = .returned (.int .i64 (P.funV o)) ∧ Ext w w' := by
  obtain ⟨W, hW⟩ : ∃ W, W = w.alloc (.cells (pcells a1 a2 a3 c1 c2 c3 P) 26) := ⟨_, rfl⟩
  have HX : Hid (Ext w W) := hid (by rw [hW]; exact (Ext.refl _).alloc _)
  have HBx : Hid (Blk W w.heap.size (pcells a1 a2 a3 c1 c2 c3 P) 26) := hid (by rw [hW]; exact Blk.new _ _ _)
  have HWe : Hid (W = w.alloc (.cells #[.slice a1 P.vars.length c1, .slice a2 P.funs.length c2, .slice a3 P.stmts.length c3] 26)) := hid (by rw [hW]; rfl)
  have HPW := hid h
  have HK := fun w1 (x : Ext w w1) => hid (check_well (h.errs.ext x) (h.prog.ext x) h.z1 h.z2 h.well)
  have HN := fun w1 (x : Ext w w1) => hid (prognodes_any a1 a2 a3 c1 c2 c3 P w1 n0 ad (h.errs.ext x) (h.prog.ext x) h.z1 h.z2 h.well)
  obtain ⟨hf1, hf2, hf3⟩ := h.well.few
  have hnl := P.nodesV_le2
  have d0 := HBx.out.av 0 rfl
  have d1 := HBx.out.av 1 rfl
  have d2 := HBx.out.av 2 rfl
  simp only [pcells, qA0, qA1, qA2] at d0 d1 d2
  unfold pval at HK HN ⊢
  clear hW h
  obtain ⟨ho1, ho2⟩ := ho
  obtain ⟨N, hN⟩ : ∃ N, N = P.nodesV := ⟨_, rfl⟩
  have Hf : Hid (P.funV o = if 0 ≤ o - (N : Int) ∧ o - (N : Int) < P.funs.length then o - (N : Int) else -1) := hid (by unfold PP.funV; rw [hN])
  rw [← hN] at hnl HN
  clear hN
  go_enter Tryd.func14, Tryd.ntmps14
  go_wp2_with fail
  rw [← HWe.out]
  have HN1 := HN W HX.out
  refine HN1.out.mono ?_
  intro e w1 hx
  obtain ⟨rfl, hx1⟩ := hx
  have Hx1 := hid hx1
  clear d0 d1 d2
  have d0 := (HBx.out.ext Hx1.out).av 0 rfl
  have d1 := (HBx.out.ext Hx1.out).av 1 rfl
  have d2 := (HBx.out.ext Hx1.out).av 2 rfl
  simp only [pcells, qA0, qA1, qA2] at d0 d1 d2
  have HK1 := HK w1 (HX.out.trans hx1)
  clear HN HN1 HK hx1
  go_wp2_with fail
  refine HK1.out.mono ?_
  intro e w2 hx
  obtain ⟨rfl, hx2⟩ := hx
  have Hx2 := hid (Hx1.out.trans hx2)
  clear d0 d1 d2 HK1 hx2
  have d0 := (HBx.out.ext Hx2.out).av 0 rfl
  have d1 := (HBx.out.ext Hx2.out).av 1 rfl
  have d2 := (HBx.out.ext Hx2.out).av 2 rfl
  simp only [pcells, qA0, qA1, qA2] at d0 d1 d2
  by_cases hlo : o - (N : Int) < 0
  · have Hr : Hid (P.funV o = -1) := hid (by rw [Hf.out, if_neg (by omega)])
    go_wp2
    go_ret
    exact ⟨by rw [Hr.out]; rfl, HX.out.trans Hx2.out⟩
  · by_cases hhi : (P.funs.length : Int) ≤ o - (N : Int)
    · have Hr : Hid (P.funV o = -1) := hid (by rw [Hf.out, if_neg (by omega)])
      go_wp2
      go_ret
      exact ⟨by rw [Hr.out]; rfl, HX.out.trans Hx2.out⟩
    · have Hr : Hid (P.funV o = o - (N : Int)) := hid (by rw [Hf.out, if_pos (by omega)])
      go_wp2
      go_ret
      exact ⟨by rw [Hr.out]; rfl, HX.out.trans Hx2.out⟩
theorem PP.Well.nums {P : PP} (hw : P.Well) (hs : P.Small) : P.Nums := by
  have hv := hw.few
  refine ⟨fun f hf i => ?_, fun s hs' i => ?_⟩
  · rw [List.getD_eq_getElem?_getD]
    cases h : f.params[i]? with
    | none => decide
    | some x =>
      have := (well_fun hw hf).params x (List.mem_of_getElem? h)
      show x ≤ _
      omega
  · rw [List.getD_eq_getElem?_getD]
    cases h : s.args[i]? with
    | none => decide
    | some x =>
      have := (well_in hw hs hs').args x (List.mem_of_getElem? h)
      show x ≤ _
      omega
set_option maxRecDepth 100000 in
set_option maxHeartbeats 6400000 in
theorem lawprogback_any (a1 a2 a3 : Option Addr) (c1 c2 c3 : Nat) (P : PP) (w : World) (ad : Nat → Addr) (hA : ErrRB w ad) (hm : ∃ m, w.cell? ⟨8, 0, none⟩ = some (.int .i64 m)) (hP : ProgR w w.heap.size (.slice a1 P.vars.length c1) (.slice a2 P.funs.length c2) (.slice a3 P.stmts.length c3) P) :
    Calls Tryd.prog 3 #[pval a1 a2 a3 c1 c2 c3 P] w fun e w' => e = .returned (.bool true) ∧ Ext w w' := by
  have HA := hid hA
  have HM := hid hm
  have HP := hid hP
  obtain ⟨W1, hW1⟩ : ∃ W1, W1 = w.alloc (.cells (pcells a1 a2 a3 c1 c2 c3 P) 26) := ⟨_, rfl⟩
  have HX1 : Hid (Ext w W1) := hid (by rw [hW1]; exact (Ext.refl _).alloc _)
  have HB1 : Hid (Blk W1 w.heap.size (pcells a1 a2 a3 c1 c2 c3 P) 26) := hid (by rw [hW1]; exact Blk.new _ _ _)
  have HR := hid (programmed_any W1 ad (hA.p.ext HX1.out))
  have HW1 : Hid (W1 = w.alloc (.cells #[.slice a1 P.vars.length c1, .slice a2 P.funs.length c2, .slice a3 P.stmts.length c3] 26)) := hid (by rw [hW1]; rfl)
  unfold pval
  clear hA hm hP hW1
  go_enter Tryd.func3, Tryd.ntmps3
  go_wp2_with fail
  rw [← HW1.out]
  refine HR.out.mono ?_
  intro e w1 hx
  obtain ⟨rfl, hx1⟩ := hx
  have HL := hid (large_any a1 a2 a3 c1 c2 c3 P w1 w.heap.size (HP.out.ext (HX1.out.trans hx1)))
  unfold pval at HL
  have HX1' := hid (HX1.out.trans hx1)
  have HBp1 := hid (HB1.out.ext hx1)
  have p0 := HBp1.out.av 0 rfl
  have p1 := HBp1.out.av 1 rfl
  have p2 := HBp1.out.av 2 rfl
  simp only [pcells, qA0, qA1, qA2] at p0 p1 p2
  clear HR hx1
  go_wp2_with fail
  refine HL.out.mono ?_
  intro e w2 hx
  obtain ⟨r, rfl, hr, hsm, hx2⟩ := hx
  have HX2 := hid (HX1'.out.trans hx2)
  have HBp2 := hid (HBp1.out.ext hx2)
  clear HL hx2 p0 p1 p2
  rcases (by omega : r = 1 ∨ r = 0) with rfl | rfl
  · clear hsm hr
    go_wp2
    go_ret
    exact ⟨rfl, HX2.out⟩
  have HSm := hid (hsm rfl)
  clear hsm hr
  have HOq := hid (ownprogram_any a1 a2 a3 c1 c2 c3 P w2 ((HP.out.ext HX2.out).lift HX2.out.size) HSm.out)
  have p0 := HBp2.out.av 0 rfl
  have p1 := HBp2.out.av 1 rfl
  have p2 := HBp2.out.av 2 rfl
  simp only [pcells, qA0, qA1, qA2] at p0 p1 p2
  unfold pval at HOq
  go_wp2_with fail
  refine HOq.out.mono ?_
  intro e w3 hx
  obtain ⟨hx3, b1, b2, b3, d1, d2, d3, rfl, hq⟩ := hx
  have HX3 := hid (HX2.out.trans hx3)
  have Hq3 := hid hq
  have HBp3 := hid (HBp2.out.ext hx3)
  clear HOq hx3 hq p0 p1 p2
  obtain ⟨W4, hW4⟩ : ∃ W4, W4 = w3.alloc (.cells (pcells b1 b2 b3 d1 d2 d3 P) 26) := ⟨_, rfl⟩
  have hx4 : Ext w3 W4 := by rw [hW4]; exact (Ext.refl _).alloc _
  have HX0 := hid (HX3.out.trans hx4)
  have HBq : Hid (Blk W4 w3.heap.size (pcells b1 b2 b3 d1 d2 d3 P) 26) := hid (by rw [hW4]; exact Blk.new _ _ _)
  have HBp := hid (HBp3.out.ext hx4)
  have hz1 : ∀ s ∈ P.vars, s.size ≤ 1000000 := fun s hs => by have := HSm.out.vs s hs; omega
  have hz2 : ∀ s ∈ P.names, s.size ≤ 1000000 := fun s hs => by
    obtain ⟨f, hf, rfl⟩ := List.mem_map.1 hs
    have := (HSm.out.fs f hf).1
    omega
  have HPS : Hid (PS0 W4 W4.heap.size ad b1 b2 b3 d1 d2 d3 P) := hid ⟨HA.out.p.ext HX0.out, (Hq3.out.ext hx4).lift hx4.size, hz1, hz2⟩
  have HW4 : Hid (W4 = w3.alloc (.cells #[.slice b1 P.vars.length d1, .slice b2 P.funs.length d2, .slice b3 P.stmts.length d3] 26)) := hid (by rw [hW4]; rfl)
  have hvl : P.vars.length ≤ 41 := HSm.out.vl
  have hfl : P.funs.length ≤ 8 := HSm.out.fl
  have hsl : P.stmts.length ≤ 81 := HSm.out.sl
  have HK := hid (pcheck_any b1 b2 b3 d1 d2 d3 P W4 W4.heap.size ad HPS.out.errs HPS.out.prog hz1 hz2 (by omega))
  unfold pval at HK
  clear hW4 hx4 hz1 hz2
  go_wp2_with fail
  rw [← HW4.out]
  refine HK.out.mono ?_
  rintro e w4 ⟨v, rfl, hei, hx⟩
  have HX := hid hx
  clear HK hx
  by_cases hw : P.Well
  · have hvn : v = .nilIface := by
      rcases hei with ⟨h3, _⟩ | ⟨h3, h4, h5⟩ | ⟨h3, i, s, b, h4, _⟩
      · exact absurd hw.1 h3
      · exact h5
      · exact absurd (hw.2 i s (List.getElem?_eq_some_iff.1 h4.1).1 h4.1) h4.2.1
    subst hvn
    have Hw := hid hw
    have HQ := hid (HPS.out.pw hw)
    have HT := hid (progtext_yes b1 b2 b3 d1 d2 d3 P w4 ad (HQ.out.ext HX.out).errs ((HQ.out.ext HX.out).prog.lift HX.out.size) HSm.out hw)
    obtain ⟨T, hT⟩ : ∃ T, T = kB P.text := ⟨_, rfl⟩
    have hTs : T.size = P.text.length := by rw [hT, kB_size]
    rw [← hT] at HT
    have HT0 := hid hT
    unfold pval at HT
    have p0 := (HBp.out.ext HX.out).av 0 rfl
    have p1 := (HBp.out.ext HX.out).av 1 rfl
    have p2 := (HBp.out.ext HX.out).av 2 rfl
    have q0 := (HBq.out.ext HX.out).av 0 rfl
    have q1 := (HBq.out.ext HX.out).av 1 rfl
    have q2 := (HBq.out.ext HX.out).av 2 rfl
    simp only [pcells, qA0, qA1, qA2] at p0 p1 p2 q0 q1 q2
    clear hei hw hT
    go_wp2_with fail
    refine HT.out.mono ?_
    intro e w5 hx
    obtain ⟨rfl, hx⟩ := hx
    replace HX := hid (HX.out.trans hx)
    clear HT hx p0 p1 p2 q0 q1 q2
    by_cases h4 : T.size ≤ 4000
    · have HRd := hid (progread_any T (by omega) w5 ad (HA.out.ext (HX0.out.trans HX.out)) (by obtain ⟨m, hm⟩ := HM.out; exact ⟨m, (HX0.out.trans HX.out).cellx hm⟩))
      have Hl4 := hid (show P.text.length ≤ 4000 by omega)
      clear hTs
      go_wp2_with fail
      refine HRd.out.mono ?_
      intro e w6 hx
      obtain ⟨P', cc, pp, x1, x2, x3, y1, y2, y3, ev, rfl, hri, hpr, hev, hx⟩ := hx
      have hPP : P = P' := (read_back Hw.out Hl4.out (HT0.out ▸ hri)).1.symm
      have hcc : cc = 0 := (read_back Hw.out Hl4.out (HT0.out ▸ hri)).2
      subst hPP hcc
      obtain rfl := hev.no rfl
      replace HX := hid (HX.out.trans hx)
      have HPr := hid hpr
      clear HRd hri hpr hev hx h4
      obtain ⟨W7, hW7⟩ : ∃ W7, W7 = w6.alloc (.cells (pcells x1 x2 x3 y1 y2 y3 P) 26) := ⟨_, rfl⟩
      have hx7 : Ext w6 W7 := by rw [hW7]; exact (Ext.refl _).alloc _
      have HBx : Hid (Blk W7 w6.heap.size (pcells x1 x2 x3 y1 y2 y3 P) 26) := hid (by rw [hW7]; exact Blk.new _ _ _)
      have HW7 : Hid (W7 = w6.alloc (.cells #[.slice x1 P.vars.length y1, .slice x2 P.funs.length y2, .slice x3 P.stmts.length y3] 26)) := hid (by rw [hW7]; rfl)
      have HSa := hid (sameprog_any x1 x2 x3 a1 a2 a3 y1 y2 y3 c1 c2 c3 P W7 w6.heap.size w.heap.size (HPr.out.ext hx7) (HP.out.ext (HX0.out.trans (HX.out.trans hx7))) (Hw.out.nums HSm.out))
      have r0 := HBx.out.av 0 rfl
      have r1 := HBx.out.av 1 rfl
      have r2 := HBx.out.av 2 rfl
      have p0 := (HBp.out.ext (HX.out.trans hx7)).av 0 rfl
      have p1 := (HBp.out.ext (HX.out.trans hx7)).av 1 rfl
      have p2 := (HBp.out.ext (HX.out.trans hx7)).av 2 rfl
      simp only [pcells, qA0, qA1, qA2] at r0 r1 r2 p0 p1 p2
      rw [HW7.out] at r0 r1 r2 p0 p1 p2
      replace HX := hid (HX.out.trans hx7)
      unfold pval at HSa
      unfold pval
      clear hW7 hx7
      go_wp2_with fail
      rw [← HW7.out]
      refine HSa.out.mono ?_
      intro e w8 hx
      obtain ⟨rfl, hx⟩ := hx
      replace HX := hid (HX.out.trans hx)
      clear HSa hx r0 r1 r2 p0 p1 p2 HW7 HBx HPr HT0 HW4 HPS
      have p0 := (HBp.out.ext HX.out).av 0 rfl
      have p1 := (HBp.out.ext HX.out).av 1 rfl
      have p2 := (HBp.out.ext HX.out).av 2 rfl
      have q0 := (HBq.out.ext HX.out).av 0 rfl
      have q1 := (HBq.out.ext HX.out).av 1 rfl
      have q2 := (HBq.out.ext HX.out).av 2 rfl
      simp only [pcells, qA0, qA1, qA2] at p0 p1 p2 q0 q1 q2
      go_wp2
      clear p0 p1 p2 q0 q1 q2
      go_loopw [8, 9] (fun t8 t9 wr => ∃ k nk : Nat, t9 = .int .i64 (k : Int) ∧ k ≤ P.stmts.length ∧ t8 = .int .i64 (nk : Int) ∧ Hid (nk = P.vars.length + P.newsN k) ∧ nk ≤ 200 ∧ Ext W4 wr) (fun _ t9 _ => P.stmts.length - (intOf t9).toNat)
      case atStart => exact ⟨0, P.vars.length, rfl, Nat.zero_le _, rfl, hid rfl, by omega, HX.out⟩
      case round =>
        clear HX
        obtain ⟨k, nk, rfl, hk, rfl, hnk, hn2, hx⟩ := hrel
        have HX := hid hx
        clear hx
        by_cases hlt : k < P.stmts.length
        · obtain ⟨y, x, av, cv, rfl, hxk, e0, _⟩ := (HP.out.ext (HX0.out.trans HX.out)).stmts.at hlt
          have HPl := hid (progplace_any b1 b2 b3 d1 d2 d3 P (k : Int) wr W4.heap.size ad (HQ.out.ext HX.out).errs (HQ.out.ext HX.out).prog HQ.out.z1 HQ.out.z2 Hw.out)
          have E0 : ∀ w1, Ext wr w1 → w1.cell? (y.add (k * 4)) = some (.string x.kind) := fun w1 h => h.cellx e0
          have hnw := isNew_at hxk
          have Hsu := hid (P.newsN_succ k)
          have p0 := (HBp.out.ext HX.out).av 0 rfl
          have p1 := (HBp.out.ext HX.out).av 1 rfl
          have p2 := (HBp.out.ext HX.out).av 2 rfl
          have q0 := (HBq.out.ext HX.out).av 0 rfl
          have q1 := (HBq.out.ext HX.out).av 1 rfl
          have q2 := (HBq.out.ext HX.out).av 2 rfl
          simp only [pcells, qA0, qA1, qA2] at p0 p1 p2 q0 q1 q2
          unfold pval at HPl
          clear e0 hxk
          cases hb : (x.kind.toList == [110, 101, 119]) with
          | true =>
            have hi : P.isNew k = true := hnw.trans hb
            rw [show P.placeV (k : Int) = (nk : Int) by unfold PP.placeV; rw [if_pos ⟨by omega, by omega, by rw [Int.toNat_natCast]; exact hi⟩, Int.toNat_natCast, hnk.out]] at HPl
            have Hk2 : Hid (nk + 1 = P.vars.length + P.newsN (k + 1)) := hid (by rw [Hsu.out, if_pos hi, hnk.out]; omega)
            clear hnw hi Hsu
            go_wp2_with fail
            refine HPl.out.mono ?_
            intro e w9 hx
            obtain ⟨rfl, hx⟩ := hx
            have HX9 := hid (HX.out.trans hx)
            have e0 := E0 w9 hx
            clear p0 p1 p2 q0 q1 q2 HPl hx E0
            have p0 := (HBp.out.ext HX9.out).av 0 rfl
            have p1 := (HBp.out.ext HX9.out).av 1 rfl
            have p2 := (HBp.out.ext HX9.out).av 2 rfl
            have q0 := (HBq.out.ext HX9.out).av 0 rfl
            have q1 := (HBq.out.ext HX9.out).av 1 rfl
            have q2 := (HBq.out.ext HX9.out).av 2 rfl
            simp only [pcells, qA0, qA1, qA2] at p0 p1 p2 q0 q1 q2
            go_wp2
            go_roundw
            case rel => exact ⟨k + 1, nk + 1, by go_num, by omega, by go_num, Hk2.out, by have := P.newsN_le (k + 1); have := Hk2.out; omega, HX9.out⟩
            case measure => simp [intOf]; omega
          | false =>
            have hi : P.isNew k = false := hnw.trans hb
            rw [show P.placeV (k : Int) = -1 by unfold PP.placeV; rw [if_neg (by rw [Int.toNat_natCast, hi]; simp)]] at HPl
            have Hk2 : Hid (nk = P.vars.length + P.newsN (k + 1)) := hid (by rw [Hsu.out, if_neg (by rw [hi]; simp), hnk.out]; rfl)
            clear hnw hi Hsu
            go_wp2_with fail
            refine HPl.out.mono ?_
            intro e w9 hx
            obtain ⟨rfl, hx⟩ := hx
            have HX9 := hid (HX.out.trans hx)
            have e0 := E0 w9 hx
            clear p0 p1 p2 q0 q1 q2 HPl hx E0
            have p0 := (HBp.out.ext HX9.out).av 0 rfl
            have p1 := (HBp.out.ext HX9.out).av 1 rfl
            have p2 := (HBp.out.ext HX9.out).av 2 rfl
            have q0 := (HBq.out.ext HX9.out).av 0 rfl
            have q1 := (HBq.out.ext HX9.out).av 1 rfl
            have q2 := (HBq.out.ext HX9.out).av 2 rfl
            simp only [pcells, qA0, qA1, qA2] at p0 p1 p2 q0 q1 q2
            go_wp2
            go_roundw
            case rel => exact ⟨k + 1, nk, by go_num, by omega, rfl, Hk2.out, hn2, HX9.out⟩
            case measure => simp [intOf]; omega
        · obtain rfl : k = P.stmts.length := by omega
          obtain ⟨wa, rfl⟩ : ∃ wa, wa = wr := ⟨_, rfl⟩
          have hN : P.nodesV = nk := hnk.out.symm
          have HNo := fun w1 (x : Ext wa w1) => hid (prognodes_any b1 b2 b3 d1 d2 d3 P w1 W4.heap.size ad (HQ.out.ext (HX.out.trans x)).errs (HQ.out.ext (HX.out.trans x)).prog HQ.out.z1 HQ.out.z2 Hw.out)
          have HOb := fun w1 (x : Ext wa w1) => hid (progobjects_any b1 b2 b3 d1 d2 d3 P w1 W4.heap.size ad (HQ.out.ext (HX.out.trans x)))
          have HFu := fun o w1 (x : Ext wa w1) (ho : -9223372036854770000 ≤ o ∧ o ≤ 9223372036854775807) => hid (progfun_wide b1 b2 b3 d1 d2 d3 P o w1 W4.heap.size ad (HQ.out.ext (HX.out.trans x)) ho)
          have hO : (P.objectsV : Int) = (nk : Int) + (P.funs.length : Int) := by unfold PP.objectsV; rw [hN]; omega
          have hF : ∀ o, P.funV o = if 0 ≤ o - (nk : Int) ∧ o - (nk : Int) < P.funs.length then o - (nk : Int) else -1 := fun o => by unfold PP.funV; rw [hN]
          rw [hN] at HNo
          rw [hO] at HOb
          have HF := hid hF
          unfold pval at HNo HOb HFu
          have p1 := (HBp.out.ext HX.out).kc (X := fun _ => False) (fun e => e) 1 rfl
          have q0 := (HBq.out.ext HX.out).kc (X := fun _ => False) (fun e => e) 0 rfl
          have q1 := (HBq.out.ext HX.out).kc (X := fun _ => False) (fun e => e) 1 rfl
          have q2 := (HBq.out.ext HX.out).kc (X := fun _ => False) (fun e => e) 2 rfl
          have p2 := (HBp.out.ext HX.out).av 2 rfl
          simp only [pcells, qA0, qA1, qA2] at p1 p2 q0 q1 q2
          clear hN hO hF hlt hk
          go_wp2
          clear p2
          refine wp_flowT (fun _ => False) (by kernel_rfl) (by kernel_rfl) ?_
          repeat (apply FlowT.d; (intro w1 hk; unfold does; go_simp; (try go_ints); (first | exact DetR.mk | (simp only [↓IntWalk.iteOmega, Oper.doesUpon_value]; exact DetR.mk) | (simp only [↓IntWalk.iteOmega]; go_simp; (try go_ints); exact DetR.mk))); simp only [Act.put, qS0, qS1, qS2])
          apply FlowT.d
          · intro w1 hk
            unfold does
            go_simp
            exact CallR.det ((HNo w1 hk.ext).out)
          simp only [Act.put, qS0, qS1, qS2]
          repeat (apply FlowT.d; (intro w1 hk; unfold does; go_simp; (try go_ints); (first | exact DetR.mk | (simp only [↓IntWalk.iteOmega, Oper.doesUpon_value]; exact DetR.mk) | (simp only [↓IntWalk.iteOmega]; go_simp; (try go_ints); exact DetR.mk))); simp only [Act.put, qS0, qS1, qS2])
          apply FlowT.d
          · intro w1 hk
            unfold does
            go_simp
            exact CallR.det ((HOb w1 hk.ext).out)
          simp only [Act.put, qS0, qS1, qS2]
          repeat (apply FlowT.d; (intro w1 hk; unfold does; go_simp; (try go_ints); (first | exact DetR.mk | (simp only [↓IntWalk.iteOmega, Oper.doesUpon_value]; exact DetR.mk) | (simp only [↓IntWalk.iteOmega]; go_simp; (try go_ints); exact DetR.mk))); simp only [Act.put, qS0, qS1, qS2])
          refine FlowT.fin fun w5 hx5 hk5 => ?_
          have HX5 := hid hk5.ext
          clear hx5 hk5 HNo HOb p1 q0 q1 q2
          go_wp2
          go_loopw [11] (fun t11 wq => ∃ f : Nat, t11 = .int .i64 (f : Int) ∧ f ≤ P.funs.length ∧ Ext wa wq) (fun t11 _ => P.funs.length - (intOf t11).toNat)
          case atStart => exact ⟨0, rfl, Nat.zero_le _, HX5.out⟩
          case round =>
            clear HX5
            obtain ⟨f, rfl, hf, hx⟩ := hrel
            have HXa := hid hx
            have HX6 := hid (HX.out.trans hx)
            clear hx
            have p0 := (HBp.out.ext HX6.out).av 0 rfl
            have p1 := (HBp.out.ext HX6.out).av 1 rfl
            have p2 := (HBp.out.ext HX6.out).av 2 rfl
            have q0 := (HBq.out.ext HX6.out).av 0 rfl
            have q1 := (HBq.out.ext HX6.out).av 1 rfl
            have q2 := (HBq.out.ext HX6.out).av 2 rfl
            simp only [pcells, qA0, qA1, qA2] at p0 p1 p2 q0 q1 q2
            by_cases hfl : f < P.funs.length
            · have HC := HFu ((nk : Int) + (f : Int)) wr HXa.out (by omega)
              rw [show P.funV ((nk : Int) + (f : Int)) = (f : Int) by rw [HF.out, if_pos (by omega)]; omega] at HC
              go_wp2_with fail
              refine HC.out.mono ?_
              intro e w7 hx
              obtain ⟨rfl, hx⟩ := hx
              have HXb := hid (HXa.out.trans hx)
              clear HC hx p0 p1 p2 q0 q1 q2
              go_wp2
              go_roundw
              case rel => exact ⟨f + 1, by go_num, by omega, HXb.out⟩
              case measure => simp [intOf]; omega
            · obtain rfl : f = P.funs.length := by omega
              have HC := HFu ((nk : Int) + (P.funs.length : Int)) wr HXa.out (by omega)
              rw [show P.funV ((nk : Int) + (P.funs.length : Int)) = -1 by rw [HF.out, if_neg (by omega)]] at HC
              have HFu3 := fun w1 (x : Ext wa w1) => HFu (-1) w1 x (by decide)
              rw [show P.funV (-1) = -1 by rw [HF.out, if_neg (by omega)]] at HFu3
              clear HFu
              go_wp2_with fail
              refine HC.out.mono ?_
              intro e w7 hx
              obtain ⟨rfl, hx⟩ := hx
              have HC2 := HFu3 w7 (HXa.out.trans hx)
              have HX7 := hid (HX6.out.trans hx)
              clear HC hx p0 p1 p2 q0 q1 q2 HFu3
              have p0 := (HBp.out.ext HX7.out).av 0 rfl
              have p1 := (HBp.out.ext HX7.out).av 1 rfl
              have p2 := (HBp.out.ext HX7.out).av 2 rfl
              have q0 := (HBq.out.ext HX7.out).av 0 rfl
              have q1 := (HBq.out.ext HX7.out).av 1 rfl
              have q2 := (HBq.out.ext HX7.out).av 2 rfl
              simp only [pcells, qA0, qA1, qA2] at p0 p1 p2 q0 q1 q2
              go_wp2_with fail
              refine HC2.out.mono ?_
              intro e w8 hx
              obtain ⟨rfl, hx⟩ := hx
              have HX8 := hid (HX0.out.trans (HX7.out.trans hx))
              clear HC2 hx p0 p1 p2 q0 q1 q2
              go_wp2
              go_ret
              exact ⟨rfl, HX8.out⟩
    · clear hTs HT0 HW4 HPS
      have p0 := (HBp.out.ext HX.out).av 0 rfl
      have p1 := (HBp.out.ext HX.out).av 1 rfl
      have p2 := (HBp.out.ext HX.out).av 2 rfl
      have q0 := (HBq.out.ext HX.out).av 0 rfl
      have q1 := (HBq.out.ext HX.out).av 1 rfl
      have q2 := (HBq.out.ext HX.out).av 2 rfl
      simp only [pcells, qA0, qA1, qA2] at p0 p1 p2 q0 q1 q2
      go_wp2
      clear p0 p1 p2 q0 q1 q2
      go_loopw [8, 9] (fun t8 t9 wr => ∃ k nk : Nat, t9 = .int .i64 (k : Int) ∧ k ≤ P.stmts.length ∧ t8 = .int .i64 (nk : Int) ∧ Hid (nk = P.vars.length + P.newsN k) ∧ nk ≤ 200 ∧ Ext W4 wr) (fun _ t9 _ => P.stmts.length - (intOf t9).toNat)
      case atStart => exact ⟨0, P.vars.length, rfl, Nat.zero_le _, rfl, hid rfl, by omega, HX.out⟩
      case round =>
        clear HX
        obtain ⟨k, nk, rfl, hk, rfl, hnk, hn2, hx⟩ := hrel
        have HX := hid hx
        clear hx
        by_cases hlt : k < P.stmts.length
        · obtain ⟨y, x, av, cv, rfl, hxk, e0, _⟩ := (HP.out.ext (HX0.out.trans HX.out)).stmts.at hlt
          have HPl := hid (progplace_any b1 b2 b3 d1 d2 d3 P (k : Int) wr W4.heap.size ad (HQ.out.ext HX.out).errs (HQ.out.ext HX.out).prog HQ.out.z1 HQ.out.z2 Hw.out)
          have E0 : ∀ w1, Ext wr w1 → w1.cell? (y.add (k * 4)) = some (.string x.kind) := fun w1 h => h.cellx e0
          have hnw := isNew_at hxk
          have Hsu := hid (P.newsN_succ k)
          have p0 := (HBp.out.ext HX.out).av 0 rfl
          have p1 := (HBp.out.ext HX.out).av 1 rfl
          have p2 := (HBp.out.ext HX.out).av 2 rfl
          have q0 := (HBq.out.ext HX.out).av 0 rfl
          have q1 := (HBq.out.ext HX.out).av 1 rfl
          have q2 := (HBq.out.ext HX.out).av 2 rfl
          simp only [pcells, qA0, qA1, qA2] at p0 p1 p2 q0 q1 q2
          unfold pval at HPl
          clear e0 hxk
          cases hb : (x.kind.toList == [110, 101, 119]) with
          | true =>
            have hi : P.isNew k = true := hnw.trans hb
            rw [show P.placeV (k : Int) = (nk : Int) by unfold PP.placeV; rw [if_pos ⟨by omega, by omega, by rw [Int.toNat_natCast]; exact hi⟩, Int.toNat_natCast, hnk.out]] at HPl
            have Hk2 : Hid (nk + 1 = P.vars.length + P.newsN (k + 1)) := hid (by rw [Hsu.out, if_pos hi, hnk.out]; omega)
            clear hnw hi Hsu
            go_wp2_with fail
            refine HPl.out.mono ?_
            intro e w9 hx
            obtain ⟨rfl, hx⟩ := hx
            have HX9 := hid (HX.out.trans hx)
            have e0 := E0 w9 hx
            clear p0 p1 p2 q0 q1 q2 HPl hx E0
            have p0 := (HBp.out.ext HX9.out).av 0 rfl
            have p1 := (HBp.out.ext HX9.out).av 1 rfl
            have p2 := (HBp.out.ext HX9.out).av 2 rfl
            have q0 := (HBq.out.ext HX9.out).av 0 rfl
            have q1 := (HBq.out.ext HX9.out).av 1 rfl
            have q2 := (HBq.out.ext HX9.out).av 2 rfl
            simp only [pcells, qA0, qA1, qA2] at p0 p1 p2 q0 q1 q2
            go_wp2
            go_roundw
            case rel => exact ⟨k + 1, nk + 1, by go_num, by omega, by go_num, Hk2.out, by have := P.newsN_le (k + 1); have := Hk2.out; omega, HX9.out⟩
            case measure => simp [intOf]; omega
          | false =>
            have hi : P.isNew k = false := hnw.trans hb
            rw [show P.placeV (k : Int) = -1 by unfold PP.placeV; rw [if_neg (by rw [Int.toNat_natCast, hi]; simp)]] at HPl
            have Hk2 : Hid (nk = P.vars.length + P.newsN (k + 1)) := hid (by rw [Hsu.out, if_neg (by rw [hi]; simp), hnk.out]; rfl)
            clear hnw hi Hsu
            go_wp2_with fail
            refine HPl.out.mono ?_
            intro e w9 hx
            obtain ⟨rfl, hx⟩ := hx
            have HX9 := hid (HX.out.trans hx)
            have e0 := E0 w9 hx
            clear p0 p1 p2 q0 q1 q2 HPl hx E0
            have p0 := (HBp.out.ext HX9.out).av 0 rfl
            have p1 := (HBp.out.ext HX9.out).av 1 rfl
            have p2 := (HBp.out.ext HX9.out).av 2 rfl
            have q0 := (HBq.out.ext HX9.out).av 0 rfl
            have q1 := (HBq.out.ext HX9.out).av 1 rfl
            have q2 := (HBq.out.ext HX9.out).av 2 rfl
            simp only [pcells, qA0, qA1, qA2] at p0 p1 p2 q0 q1 q2
            go_wp2
            go_roundw
            case rel => exact ⟨k + 1, nk, by go_num, by omega, rfl, Hk2.out, hn2, HX9.out⟩
            case measure => simp [intOf]; omega
        · obtain rfl : k = P.stmts.length := by omega
          obtain ⟨wa, rfl⟩ : ∃ wa, wa = wr := ⟨_, rfl⟩
          have hN : P.nodesV = nk := hnk.out.symm
          have HNo := fun w1 (x : Ext wa w1) => hid (prognodes_any b1 b2 b3 d1 d2 d3 P w1 W4.heap.size ad (HQ.out.ext (HX.out.trans x)).errs (HQ.out.ext (HX.out.trans x)).prog HQ.out.z1 HQ.out.z2 Hw.out)
          have HOb := fun w1 (x : Ext wa w1) => hid (progobjects_any b1 b2 b3 d1 d2 d3 P w1 W4.heap.size ad (HQ.out.ext (HX.out.trans x)))
          have HFu := fun o w1 (x : Ext wa w1) (ho : -9223372036854770000 ≤ o ∧ o ≤ 9223372036854775807) => hid (progfun_wide b1 b2 b3 d1 d2 d3 P o w1 W4.heap.size ad (HQ.out.ext (HX.out.trans x)) ho)
          have hO : (P.objectsV : Int) = (nk : Int) + (P.funs.length : Int) := by unfold PP.objectsV; rw [hN]; omega
          have hF : ∀ o, P.funV o = if 0 ≤ o - (nk : Int) ∧ o - (nk : Int) < P.funs.length then o - (nk : Int) else -1 := fun o => by unfold PP.funV; rw [hN]
          rw [hN] at HNo
          rw [hO] at HOb
          have HF := hid hF
          unfold pval at HNo HOb HFu
          have p1 := (HBp.out.ext HX.out).kc (X := fun _ => False) (fun e => e) 1 rfl
          have q0 := (HBq.out.ext HX.out).kc (X := fun _ => False) (fun e => e) 0 rfl
          have q1 := (HBq.out.ext HX.out).kc (X := fun _ => False) (fun e => e) 1 rfl
          have q2 := (HBq.out.ext HX.out).kc (X := fun _ => False) (fun e => e) 2 rfl
          have p2 := (HBp.out.ext HX.out).av 2 rfl
          simp only [pcells, qA0, qA1, qA2] at p1 p2 q0 q1 q2
          clear hN hO hF hlt hk
          go_wp2
          clear p2
          refine wp_flowT (fun _ => False) (by kernel_rfl) (by kernel_rfl) ?_
          repeat (apply FlowT.d; (intro w1 hk; unfold does; go_simp; (try go_ints); (first | exact DetR.mk | (simp only [↓IntWalk.iteOmega, Oper.doesUpon_value]; exact DetR.mk) | (simp only [↓IntWalk.iteOmega]; go_simp; (try go_ints); exact DetR.mk))); simp only [Act.put, qS0, qS1, qS2])
          apply FlowT.d
          · intro w1 hk
            unfold does
            go_simp
            exact CallR.det ((HNo w1 hk.ext).out)
          simp only [Act.put, qS0, qS1, qS2]
          repeat (apply FlowT.d; (intro w1 hk; unfold does; go_simp; (try go_ints); (first | exact DetR.mk | (simp only [↓IntWalk.iteOmega, Oper.doesUpon_value]; exact DetR.mk) | (simp only [↓IntWalk.iteOmega]; go_simp; (try go_ints); exact DetR.mk))); simp only [Act.put, qS0, qS1, qS2])
          apply FlowT.d
          · intro w1 hk
            unfold does
            go_simp
            exact CallR.det ((HOb w1 hk.ext).out)
          simp only [Act.put, qS0, qS1, qS2]
          repeat (apply FlowT.d; (intro w1 hk; unfold does; go_simp; (try go_ints); (first | exact DetR.mk | (simp only [↓IntWalk.iteOmega, Oper.doesUpon_value]; exact DetR.mk) | (simp only [↓IntWalk.iteOmega]; go_simp; (try go_ints); exact DetR.mk))); simp only [Act.put, qS0, qS1, qS2])
          refine FlowT.fin fun w5 hx5 hk5 => ?_
          have HX5 := hid hk5.ext
          clear hx5 hk5 HNo HOb p1 q0 q1 q2
          go_wp2
          go_loopw [11] (fun t11 wq => ∃ f : Nat, t11 = .int .i64 (f : Int) ∧ f ≤ P.funs.length ∧ Ext wa wq) (fun t11 _ => P.funs.length - (intOf t11).toNat)
          case atStart => exact ⟨0, rfl, Nat.zero_le _, HX5.out⟩
          case round =>
            clear HX5
            obtain ⟨f, rfl, hf, hx⟩ := hrel
            have HXa := hid hx
            have HX6 := hid (HX.out.trans hx)
            clear hx
            have p0 := (HBp.out.ext HX6.out).av 0 rfl
            have p1 := (HBp.out.ext HX6.out).av 1 rfl
            have p2 := (HBp.out.ext HX6.out).av 2 rfl
            have q0 := (HBq.out.ext HX6.out).av 0 rfl
            have q1 := (HBq.out.ext HX6.out).av 1 rfl
            have q2 := (HBq.out.ext HX6.out).av 2 rfl
            simp only [pcells, qA0, qA1, qA2] at p0 p1 p2 q0 q1 q2
            by_cases hfl : f < P.funs.length
            · have HC := HFu ((nk : Int) + (f : Int)) wr HXa.out (by omega)
              rw [show P.funV ((nk : Int) + (f : Int)) = (f : Int) by rw [HF.out, if_pos (by omega)]; omega] at HC
              go_wp2_with fail
              refine HC.out.mono ?_
              intro e w7 hx
              obtain ⟨rfl, hx⟩ := hx
              have HXb := hid (HXa.out.trans hx)
              clear HC hx p0 p1 p2 q0 q1 q2
              go_wp2
              go_roundw
              case rel => exact ⟨f + 1, by go_num, by omega, HXb.out⟩
              case measure => simp [intOf]; omega
            · obtain rfl : f = P.funs.length := by omega
              have HC := HFu ((nk : Int) + (P.funs.length : Int)) wr HXa.out (by omega)
              rw [show P.funV ((nk : Int) + (P.funs.length : Int)) = -1 by rw [HF.out, if_neg (by omega)]] at HC
              have HFu3 := fun w1 (x : Ext wa w1) => HFu (-1) w1 x (by decide)
              rw [show P.funV (-1) = -1 by rw [HF.out, if_neg (by omega)]] at HFu3
              clear HFu
              go_wp2_with fail
              refine HC.out.mono ?_
              intro e w7 hx
              obtain ⟨rfl, hx⟩ := hx
              have HC2 := HFu3 w7 (HXa.out.trans hx)
              have HX7 := hid (HX6.out.trans hx)
              clear HC hx p0 p1 p2 q0 q1 q2 HFu3
              have p0 := (HBp.out.ext HX7.out).av 0 rfl
              have p1 := (HBp.out.ext HX7.out).av 1 rfl
              have p2 := (HBp.out.ext HX7.out).av 2 rfl
              have q0 := (HBq.out.ext HX7.out).av 0 rfl
              have q1 := (HBq.out.ext HX7.out).av 1 rfl
              have q2 := (HBq.out.ext HX7.out).av 2 rfl
              simp only [pcells, qA0, qA1, qA2] at p0 p1 p2 q0 q1 q2
              go_wp2_with fail
              refine HC2.out.mono ?_
              intro e w8 hx
              obtain ⟨rfl, hx⟩ := hx
              have HX8 := hid (HX0.out.trans (HX7.out.trans hx))
              clear HC2 hx p0 p1 p2 q0 q1 q2
              go_wp2
              go_ret
              exact ⟨rfl, HX8.out⟩
  · have hvx : ∃ t x, v = .iface t (.pointer (some x)) := by
      rcases hei with ⟨h3, h4⟩ | ⟨h3, h4, h5⟩ | ⟨h3, i, s, b, h4, h5, _⟩
      · exact ⟨_, _, h4⟩
      · exact absurd ⟨h3, h4⟩ hw
      · exact ⟨_, _, h5⟩
    obtain ⟨t, x, rfl⟩ := hvx
    clear hei hw
    go_wp2
    go_ret
    exact ⟨rfl, HX0.out.trans HX.out⟩
end Go.Proofs.YtamblahkckaaaaaDoor
namespace Go.Proofs.YtamblahkckaaaaaDoor
open Go Go.ChangeShapes Go.WideShapes Go.ChangeAt Go.WideMaps Go.WideElems Go.RowKit
section
variable {H : Type} {enc : TypeId × Value → H}
theorem handed_shaped {a : Assume} {C : Checked} {os : Os} {f : FuncId} {fn : Func} {s : ChangeSpec} {conds : List PathCond} {apart fresh handsOn again : Bool} {X : World → Array Value → Prop}
    (hX : ∀ (w w' : World) (args : Array Value), w.heap = w'.heap → X w args → X w' args) (own : ownKnob C.prog.godebug = none) (started : os.Started) (noInit : C.prog.inits.idxOf? f = none) (hfn : C.prog.funcs[f]? = some fn)
    (witness : ∃ (w : World) (tape : Tape) (i : Input), w.os = os ∧ (w.forCall tape i).Shaped C.prog ∧ i.vars = [] ∧ Input.okWide C.prog (w.forCall tape i) .any w.heap.size f i ∧
      ((s.pre enc C.prog fn conds apart (w.forCall tape i).memory i.args ∧ X (w.forCall tape i).memory i.args) ∧ sizedMet enc C.prog fn (OpenSpec.ofChange s) apart (w.forCall tape i).memory i.args) ∧ a.holds C.prog (lone (Frame.enter C.prog f i.args .normal) [] (w.forCall tape i)))
    (walk : ∀ (W : World) (base : Nat) (args : Array Value) (ds gs : List (DataW H)) (before : List MemPlace),
      (∀ (j : Nat) t v, fn.params[j]? = some t → args[j]? = some v → Value.okWide C.prog W .any base t v) → DataW.Whole enc C.prog fn.params.toList s.vars apart W args.toList ds gs before → X W args → W.ShapedOpen C.prog →
      Calls C.prog f args W fun e W' => ∃ v, e = .returned v ∧ s.post enc C.prog fn apart fresh handsOn again W args v W') :
    ReturnsInHanded a C os f .any (fun w args => (s.pre enc C.prog fn conds apart w args ∧ X w args) ∧ sizedMet enc C.prog fn (OpenSpec.ofChange s) apart w args) (s.post enc C.prog fn apart fresh handsOn again) := by
  refine returnsInHanded_of_calls own started noInit witness ?_
  rintro w tape i _ hsh _ ⟨_, _, _, fn', hfn', _, _, _, _, hval⟩ ⟨⟨⟨ds, gs, before, hw, hc⟩, hx⟩, hz⟩ hholds
  obtain rfl : fn' = fn := Option.some.inj (hfn'.symm.trans hfn)
  exact (walk (w.forCall tape i) w.heap.size i.args ds gs before hval (DataW.Whole.of_heap (w' := w.forCall tape i) (by rfl) hw) (hX _ _ _ (by rfl) hx) hsh).mono fun e W' ⟨v, he, hp⟩ => by
    subst he
    exact ChangeSpec.post_blind hp
end
theorem maxlen_of {W : World} (h : W.ShapedOpen Tryd.prog) : ∃ m, W.cell? ⟨8, 0, none⟩ = some (.int .i64 m) :=
  cell_of_shapedOpen_int (zero := #[.int .i64 0]) (t := 3) h (of_decide_eq_true (by kernel_rfl)) (by kernel_rfl) rfl (by kernel_rfl) (by kernel_rfl) Tryd.underlying3
end Go.Proofs.YtamblahkckaaaaaDoor
