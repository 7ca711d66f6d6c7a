
/- Links: what is answered is struck. -/
import Derived.Test.YtcfopaopcbjkeaaDoorL3
namespace Go.Proofs.YtcfopaopcbjkeaaDoor
set_option linter.unusedSimpArgs false
set_option linter.unusedVariables false
open Go Go.RowKit

def kval (x : FV × Int) : Value := .agg #[.int .u8 (x.1.f.kind.toNat : Int), .int .i64 x.1.f.fr, .int .i64 x.1.f.to, .int .i64 x.1.f.seq, x.1.v, .int .i64 x.2]
theorem set_shift (l : List Value) (a0 a1 a2 a3 a4 a5 v : Value) (i : Nat) : (a0 :: a1 :: a2 :: a3 :: a4 :: a5 :: l).set (i + 6) v = a0 :: a1 :: a2 :: a3 :: a4 :: a5 :: l.set i v := rfl
theorem kset6 : ∀ (R : List (FV × Int)) (i : Nat) (y : FV × Int), i < R.length → ((((((R.flatMap kcells).set (i * 6) (.int .u8 (y.1.f.kind.toNat : Int))).set (i * 6 + 1) (.int .i64 y.1.f.fr)).set (i * 6 + 2) (.int .i64 y.1.f.to)).set (i * 6 + 3) (.int .i64 y.1.f.seq)).set (i * 6 + 4) y.1.v).set (i * 6 + 5) (.int .i64 y.2) = (R.set i y).flatMap kcells
  | [], i, y, h => by simp at h
  | x :: l, 0, y, h => by simp [kcells, FV.cells]
  | x :: l, i + 1, y, h => by
    have ih := kset6 l i y (by simpa using h)
    rw [List.set_cons_succ, List.flatMap_cons, List.flatMap_cons, ← ih]
    rw [show (i + 1) * 6 = i * 6 + 6 by omega, show i * 6 + 6 + 1 = i * 6 + 1 + 6 by omega, show i * 6 + 6 + 2 = i * 6 + 2 + 6 by omega, show i * 6 + 6 + 3 = i * 6 + 3 + 6 by omega, show i * 6 + 6 + 4 = i * 6 + 4 + 6 by omega, show i * 6 + 6 + 5 = i * 6 + 5 + 6 by omega]
    simp only [kcells, FV.cells, List.cons_append, List.nil_append, set_shift]
theorem kset5 (R : List (FV × Int)) (i : Nat) (x : FV × Int) (n : Int) (hx : R[i]? = some x) : (R.flatMap kcells).set (i * 6 + 5) (.int .i64 n) = (R.set i (x.1, n)).flatMap kcells := by
  have hi : i < R.length := by
    rcases Nat.lt_or_ge i R.length with h | h
    · exact h
    · rw [List.getElem?_eq_none h] at hx; cases hx
  rw [← kset6 R i (x.1, n) hi]
  have g : ∀ j v, (kcells x)[j]? = some v → j < 6 → (R.flatMap kcells)[i * 6 + j]? = some v := fun j v hv hj => (fm_get kcells 6 kcells_len R i j x hx hj).trans hv
  have s : ∀ (L : List Value) (k : Nat) (v : Value), L[k]? = some v → L.set k v = L := fun L k v h => by
    apply List.ext_getElem?
    intro j
    rw [List.getElem?_set]
    by_cases hkj : k = j
    · subst hkj
      rw [h]
      have : k < L.length := by
        rcases Nat.lt_or_ge k L.length with h1 | h1
        · exact h1
        · rw [List.getElem?_eq_none h1] at h; cases h
      simp [this]
    · simp [hkj]
  have g0 : (R.flatMap kcells)[i * 6]? = some (.int .u8 (x.1.f.kind.toNat : Int)) := g 0 _ rfl (by omega)
  simp only
  rw [s _ _ _ g0, s _ _ _ (g 1 _ rfl (by omega)), s _ _ _ (g 2 _ rfl (by omega)), s _ _ _ (g 3 _ rfl (by omega)), s _ _ _ (g 4 _ rfl (by omega))]

def store6 (w : World) (g i : Nat) (y : FV × Int) : World := (((((w.setCell ⟨g, i, none⟩ (.int .u8 (y.1.f.kind.toNat : Int))).setCell ⟨g, i + 1, none⟩ (.int .i64 y.1.f.fr)).setCell ⟨g, i + 2, none⟩ (.int .i64 y.1.f.to)).setCell ⟨g, i + 3, none⟩ (.int .i64 y.1.f.seq)).setCell ⟨g, i + 4, none⟩ y.1.v).setCell ⟨g, i + 5, none⟩ (.int .i64 y.2)
theorem store6_keep (w : World) (g i : Nat) (y : FV × Int) : Keep (fun b => b = g) w (store6 w g i y) :=
  have k : ∀ (u : World) j v, Keep (fun b => b = g) w u → Keep (fun b => b = g) w (u.setCell ⟨g, j, none⟩ v) := fun _ _ v h => h.set rfl v
  k _ _ _ (k _ _ _ (k _ _ _ (k _ _ _ (k _ _ _ (k _ _ _ (Keep.refl _ w))))))
theorem own_put6 {w : World} {base g n cap : Nat} {e : TypeId} {R : List (FV × Int)} (h : w.ownsRow base e 6 (.slice (some ⟨g, 0, none⟩) n cap) n (R.flatMap kcells)) (i : Nat) (hi : i < R.length) (y : FV × Int) : (store6 w g (i * 6) y).ownsRow base e 6 (.slice (some ⟨g, 0, none⟩) n cap) n ((R.set i y).flatMap kcells) := by
  have hl : (R.flatMap kcells).length = R.length * 6 := fm_len kcells 6 kcells_len R
  rw [← kset6 R i y hi]
  unfold store6
  exact own_set (own_set (own_set (own_set (own_set (own_set h _ (by omega) _) _ (by simp only [List.length_set]; omega) _) _ (by simp only [List.length_set]; omega) _) _ (by simp only [List.length_set]; omega) _) _ (by simp only [List.length_set]; omega) _) _ (by simp only [List.length_set]; omega) _
theorem own_k {w : World} {base g n cap : Nat} {e : TypeId} {R : List (FV × Int)} (h : w.ownsRow base e 6 (.slice (some ⟨g, 0, none⟩) n cap) n (R.flatMap kcells)) {i : Nat} {x : FV × Int} (hx : R[i]? = some x) :
    w.cell? ⟨g, i * 6, none⟩ = some (.int .u8 (x.1.f.kind.toNat : Int)) ∧ w.cell? ⟨g, i * 6 + 1, none⟩ = some (.int .i64 x.1.f.fr) ∧ w.cell? ⟨g, i * 6 + 2, none⟩ = some (.int .i64 x.1.f.to) ∧ w.cell? ⟨g, i * 6 + 3, none⟩ = some (.int .i64 x.1.f.seq) ∧ w.cell? ⟨g, i * 6 + 4, none⟩ = some x.1.v ∧ w.cell? ⟨g, i * 6 + 5, none⟩ = some (.int .i64 x.2) := by
  have c : ∀ j v, (kcells x)[j]? = some v → j < 6 → w.cell? ⟨g, i * 6 + j, none⟩ = some v := fun j v hv hj => own_get h _ ((fm_get kcells 6 kcells_len R i j x hx hj).trans hv)
  exact ⟨c 0 _ rfl (by omega), c 1 _ rfl (by omega), c 2 _ rfl (by omega), c 3 _ rfl (by omega), c 4 _ rfl (by omega), c 5 _ rfl (by omega)⟩

set_option maxRecDepth 100000 in
set_option maxHeartbeats 800000 in
theorem lackedf_any (x : FV × Int) (n : Int) (g : Nat) (w : World) (hg : w.cell? ⟨g, 0, none⟩ = some (.int .i64 n)) (hx : ∃ a l c, x.1.v = .slice a l c) :
    Calls Tryd.prog 52 #[kval x, .pointer (some ⟨g, 0, none⟩)] w fun e w' => e = .returned (.bool (decide (x.1.f.seq < n))) ∧ Ext w w' := by
  obtain ⟨a, l, c, hv⟩ := hx
  have hlt := cell_lt hg
  unfold kval
  rw [hv]
  clear hv
  go_enter Tryd.func52, Tryd.ntmps52
  go_wp2
  go_ret
  exact ⟨rfl, (Ext.refl w).alloc _⟩

/-- What is not answered below n. -/
def keptB (n : Int) (x : FV × Int) : Bool := decide (n ≤ x.1.f.seq)
def ackFn (g : Nat) : Value := .func (.func 52) #[] #[.pointer (some ⟨g, 0, none⟩)]

set_option maxRecDepth 100000 in
set_option maxHeartbeats 1600000 in
theorem lindf_any (lv : Value) (ks : List (FV × Int)) (n : Int) (g : Nat) (w : World) (n0 : Nat) (t : Option Nat) (hl : w.ownsRow n0 113 6 lv ks.length (ks.flatMap kcells)) (hn : ∀ x ∈ ks, x.1.At w n0 t) (hg : w.cell? ⟨g, 0, none⟩ = some (.int .i64 n)) (hb : ks.length ≤ 1000) :
    Calls Tryd.prog 74 #[lv, ackFn g] w fun e w' => Ext w w' ∧ ((e = .returned (.int .i64 (-1)) ∧ ∀ x ∈ ks, keptB n x = true) ∨ ∃ (i : Nat) (x : FV × Int), e = .returned (.int .i64 (i : Int)) ∧ ks[i]? = some x ∧ keptB n x = false ∧ ∀ j y, j < i → ks[j]? = some y → keptB n y = true) := by
  obtain ⟨a, c, hlv⟩ := row_form hl
  have Hl := hid hl
  have Hn := hid hn
  have Hg := hid hg
  have Hlv := hid hlv
  unfold ackFn
  rw [hlv]
  clear hl hn hg hlv
  go_enter Tryd.func74, Tryd.ntmps74
  go_wp2
  go_loopw [8] (fun t8 wr => ∃ k : Nat, t8 = .int .i64 (k : Int) ∧ k ≤ ks.length ∧ (∀ j y, j < k → ks[j]? = some y → keptB n y = true) ∧ Ext w wr) (fun t8 _ => ks.length - (intOf t8).toNat)
  case atStart => exact ⟨0, rfl, Nat.zero_le _, fun j y h => by omega, Ext.refl _⟩
  case round =>
    obtain ⟨k, rfl, hk, hne, hx⟩ := hrel
    have Hne := hid hne
    clear hne
    by_cases hlt : k < ks.length
    · have hlr := row_keep Hl.out (hx.keep fun _ => False) (fun _ _ h => h)
      obtain ⟨gb, cp, he⟩ := own_some hlr (by omega)
      have he2 := Hlv.out.symm.trans he
      simp only [Value.slice.injEq, true_and] at he2
      obtain ⟨rfl, rfl⟩ := he2
      rw [he] at hlr
      have hxk : ks[k]? = some (ks[k]'hlt) := List.getElem?_eq_getElem hlt
      obtain ⟨x, hxd⟩ : ∃ x, x = ks[k]'hlt := ⟨_, rfl⟩
      rw [← hxd] at hxk
      have Hxk := hid hxk
      have hm : x ∈ ks := List.mem_of_getElem? hxk
      obtain ⟨c0, c1, c2, c3, c4, c5⟩ := own_k hlr hxk
      obtain ⟨av, cv, _, hv, _⟩ := (Hn.out x hm).form
      rw [hv] at c4
      have HF := fun w1 (x1 : Ext w w1) => hid (lackedf_any x n g w1 (x1.cellx Hg.out) ⟨_, _, _, hv⟩)
      unfold kval at HF
      rw [hv] at HF
      have HB : Hid (keptB n x = !decide (x.1.f.seq < n)) := hid (by unfold keptB; by_cases h : n ≤ x.1.f.seq <;> simp [h] <;> omega)
      clear hlr hxd hxk hm he hv
      cases hf : decide (x.1.f.seq < n) with
      | true =>
        have Hf := hid (show keptB n x = false by rw [HB.out, hf]; rfl)
        rw [hf] at HF
        clear hf HB
        go_wp2_with fail
        refine (HF _ hx).out.mono ?_
        intro e w1 hx1
        obtain ⟨rfl, hx1⟩ := hx1
        go_wp2
        go_ret
        exact ⟨hx.trans hx1, .inr ⟨k, x, rfl, Hxk.out, Hf.out, Hne.out⟩⟩
      | false =>
        have Hf := hid (show keptB n x = true by rw [HB.out, hf]; rfl)
        rw [hf] at HF
        clear hf HB
        go_wp2_with fail
        refine (HF _ hx).out.mono ?_
        intro e w1 hx1
        obtain ⟨rfl, hx1⟩ := hx1
        have hx2 := hx.trans hx1
        clear hx hx1 HF c0 c1 c2 c3 c4 c5
        go_wp2
        go_roundw
        case rel => exact ⟨k + 1, by go_num, by omega, fun j y hj hy => by
          by_cases hjk : j = k
          · subst hjk
            obtain rfl := Option.some.inj (Hxk.out.symm.trans hy)
            exact Hf.out
          · exact Hne.out j y (by omega) hy, hx2⟩
        case measure => simp [intOf]; omega
    · obtain rfl : k = ks.length := by omega
      go_wp2
      go_ret
      exact ⟨hx, .inl ⟨rfl, fun x hm => by
        obtain ⟨j, hj, e⟩ := List.mem_iff_getElem.1 hm
        exact Hne.out j x hj (by rw [List.getElem?_eq_getElem hj, e])⟩⟩
end Go.Proofs.YtcfopaopcbjkeaaDoor
