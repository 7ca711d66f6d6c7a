/- Texts of one proof, put together: ZQ ZR ZS ZL ZM ZN. -/
import Derived.Test.YtamblahkckaaaaaDoorHPB04
import Derived.Test.YtamblahkckaaaaaDoorHPB05
import Derived.Test.YtamblahkckaaaaaDoorHPB06
import Derived.Test.YtamblahkckaaaaaDoorHPB09
import Derived.Test.YtamblahkckaaaaaDoorHPB12
import Derived.Test.YtamblahkckaaaaaDoorHPB13
import Derived.DeepKeys4
set_option linter.unusedSimpArgs false
set_option linter.unusedVariables false
namespace Go.Proofs.YtamblahkckaaaaaDoor
open Go Go.RowKit
structure ElF (F : Nat → Prop) (v : Value) (n : Nat) (E : Nat → Addr → Prop) : Prop where
  form : ∃ a cap, v = .slice a n cap ∧ n ≤ cap ∧ (cap : Int) ≤ 9223372036854775807 ∧ (0 < n → ∃ y, a = some y) ∧ ∀ y, a = some y → 0 < n → F y.block ∧ ∀ i, i < n → E i y
section
variable {F G X : Nat → Prop} {w w' : World} {n0 n : Nat} {v v1 v2 v3 : Value} {E E' : Nat → Addr → Prop}
theorem ElF.mono (h : ElF F v n E) (hF : ∀ b, F b → G b) (hE : ∀ i y, i < n → F y.block → E i y → E' i y) : ElF G v n E' := by
  obtain ⟨a, cap, h1, h2, h3, h4, h5⟩ := h
  exact ⟨a, cap, h1, h2, h3, h4, fun y hy h0 => ⟨hF _ (h5 y hy h0).1, fun i hi => hE i y hi (h5 y hy h0).1 ((h5 y hy h0).2 i hi)⟩⟩
theorem ElF.toR (h : ElF F v n E) (hF : ∀ b, F b → b < n0) (hE : ∀ i y, i < n → F y.block → E i y → E' i y) : ElR n0 v n E' := by
  obtain ⟨a, cap, h1, h2, h3, h4, h5⟩ := h
  exact ⟨a, cap, h1, h2, h3, h4, fun y hy h0 => ⟨hF _ (h5 y hy h0).1, fun i hi => hE i y hi (h5 y hy h0).1 ((h5 y hy h0).2 i hi)⟩⟩
theorem ElF.ofR (h : ElR n0 v n E) (hF : ∀ b, b < n0 → F b) (hE : ∀ i y, i < n → y.block < n0 → E i y → E' i y) : ElF F v n E' := by
  obtain ⟨a, cap, h1, h2, h3, h4, h5⟩ := h
  exact ⟨a, cap, h1, h2, h3, h4, fun y hy h0 => ⟨hF _ (h5 y hy h0).1, fun i hi => hE i y hi (h5 y hy h0).1 ((h5 y hy h0).2 i hi)⟩⟩
def StrsF (w : World) (F : Nat → Prop) (v : Value) (l : List ByteArray) : Prop := ElF F v l.length fun i y => ∀ s, l[i]? = some s → w.cell? (y.add i) = some (.string s)
def IntsF (w : World) (F : Nat → Prop) (v : Value) (l : List Int) : Prop := ElF F v l.length fun i y => ∀ s, l[i]? = some s → w.cell? (y.add i) = some (.int .i64 s)
def FunsF (w : World) (F : Nat → Prop) (v : Value) (l : List PF) : Prop := ElF F v l.length fun i y => ∀ f, l[i]? = some f → ∃ pv, w.cell? (y.add (i * 3)) = some (.string f.name) ∧ w.cell? ((y.add (i * 3)).add 1) = some pv ∧ w.cell? ((y.add (i * 3)).add 2) = some (.int .i64 f.ret) ∧ IntsF w F pv f.params
def StmtsF (w : World) (F : Nat → Prop) (v : Value) (l : List PS) : Prop := ElF F v l.length fun i y => ∀ s, l[i]? = some s → ∃ av, w.cell? (y.add (i * 4)) = some (.string s.kind) ∧ w.cell? ((y.add (i * 4)).add 1) = some (.int .i64 s.x) ∧ w.cell? ((y.add (i * 4)).add 2) = some (.int .i64 s.y) ∧ w.cell? ((y.add (i * 4)).add 3) = some av ∧ IntsF w F av s.args
structure ProgF (w : World) (F : Nat → Prop) (v1 v2 v3 : Value) (P : PP) : Prop where
  vars : StrsF w F v1 P.vars
  funs : FunsF w F v2 P.funs
  stmts : StmtsF w F v3 P.stmts
theorem StrsF.keep {l : List ByteArray} (h : StrsF w F v l) (k : Keep X w w') (hX : ∀ b, F b → ¬ X b) (hG : ∀ b, F b → G b) : StrsF w' G v l :=
  ElF.mono h hG fun i y _ hy hE s hs => k.cellx (hE s hs) (by rw [add_block]; exact hX _ hy)
theorem IntsF.keep {l : List Int} (h : IntsF w F v l) (k : Keep X w w') (hX : ∀ b, F b → ¬ X b) (hG : ∀ b, F b → G b) : IntsF w' G v l :=
  ElF.mono h hG fun i y _ hy hE s hs => k.cellx (hE s hs) (by rw [add_block]; exact hX _ hy)
theorem FunsF.keep {l : List PF} (h : FunsF w F v l) (k : Keep X w w') (hX : ∀ b, F b → ¬ X b) (hG : ∀ b, F b → G b) : FunsF w' G v l :=
  ElF.mono h hG fun i y _ hy hE s hs => by
    obtain ⟨pv, h1, h2, h3, h4⟩ := hE s hs
    exact ⟨pv, k.cellx h1 (by rw [add_block]; exact hX _ hy), k.cellx h2 (by rw [add_block, add_block]; exact hX _ hy), k.cellx h3 (by rw [add_block, add_block]; exact hX _ hy), h4.keep k hX hG⟩
theorem StmtsF.keep {l : List PS} (h : StmtsF w F v l) (k : Keep X w w') (hX : ∀ b, F b → ¬ X b) (hG : ∀ b, F b → G b) : StmtsF w' G v l :=
  ElF.mono h hG fun i y _ hy hE s hs => by
    obtain ⟨pv, h1, h2, h3, h4, h5⟩ := hE s hs
    exact ⟨pv, k.cellx h1 (by rw [add_block]; exact hX _ hy), k.cellx h2 (by rw [add_block, add_block]; exact hX _ hy), k.cellx h3 (by rw [add_block, add_block]; exact hX _ hy), k.cellx h4 (by rw [add_block, add_block]; exact hX _ hy), h5.keep k hX hG⟩
theorem ProgF.keep {P : PP} (h : ProgF w F v1 v2 v3 P) (k : Keep X w w') (hX : ∀ b, F b → ¬ X b) (hG : ∀ b, F b → G b) : ProgF w' G v1 v2 v3 P := ⟨h.vars.keep k hX hG, h.funs.keep k hX hG, h.stmts.keep k hX hG⟩
theorem IntsF.toR {l : List Int} (h : IntsF w F v l) (hF : ∀ b, F b → b < n0) : IntsR w n0 v l := ElF.toR h hF fun _ _ _ _ h => h
theorem IntsF.ofR {l : List Int} (h : IntsR w n0 v l) (hF : ∀ b, b < n0 → F b) : IntsF w F v l := ElF.ofR h hF fun _ _ _ _ h => h
theorem ProgF.toR {P : PP} (h : ProgF w F v1 v2 v3 P) (hF : ∀ b, F b → b < n0) : ProgR w n0 v1 v2 v3 P :=
  ⟨ElF.toR h.vars hF fun _ _ _ _ h => h,
   ElF.toR h.funs hF fun i y _ _ hE s hs => (let ⟨pv, h1, h2, h3, h4⟩ := hE s hs; ⟨pv, h1, h2, h3, h4.toR hF⟩),
   ElF.toR h.stmts hF fun i y _ _ hE s hs => (let ⟨pv, h1, h2, h3, h4, h5⟩ := hE s hs; ⟨pv, h1, h2, h3, h4, h5.toR hF⟩)⟩
theorem ProgF.ofR {P : PP} (h : ProgR w n0 v1 v2 v3 P) (hF : ∀ b, b < n0 → F b) : ProgF w F v1 v2 v3 P :=
  ⟨ElF.ofR h.vars hF fun _ _ _ _ h => h,
   ElF.ofR h.funs hF fun i y _ _ hE s hs => (let ⟨pv, h1, h2, h3, h4⟩ := hE s hs; ⟨pv, h1, h2, h3, IntsF.ofR h4 hF⟩),
   ElF.ofR h.stmts hF fun i y _ _ hE s hs => (let ⟨pv, h1, h2, h3, h4, h5⟩ := hE s hs; ⟨pv, h1, h2, h3, h4, IntsF.ofR h5 hF⟩)⟩
def ErrB (ad : Nat → Addr) (b : Nat) : Prop := b = 3 ∨ b = 7 ∨ b = 6 ∨ b = 1 ∨ b = 2 ∨ b = 0 ∨ b = 5 ∨ b = (ad 5).block ∨ b = (ad 7).block
theorem ErrsP.keep {ad : Nat → Addr} (h : ErrsP w ad) (k : Keep X w w') (hX : ∀ b, ErrB ad b → ¬ X b) : ErrsP w' ad :=
  ⟨k.cellx h.at2 (hX _ (.inl rfl)), k.cellx h.at3 (hX _ (.inr (.inl rfl))), k.cellx h.at4 (hX _ (.inr (.inr (.inl rfl)))), k.cellx h.at5 (hX _ (.inr (.inr (.inr (.inl rfl))))), k.cellx h.at7 (hX _ (.inr (.inr (.inr (.inr (.inl rfl)))))), k.cellx h.at8 (hX _ (.inr (.inr (.inr (.inr (.inr (.inl rfl))))))), k.cellx h.at9 (hX _ (.inr (.inr (.inr (.inr (.inr (.inr (.inl rfl)))))))), h.ne57,
   (let ⟨cs, t, e⟩ := h.row5; ⟨cs, t, k.get e (hX _ (.inr (.inr (.inr (.inr (.inr (.inr (.inr (.inl rfl)))))))))⟩), (let ⟨cs, t, e⟩ := h.row7; ⟨cs, t, k.get e (hX _ (.inr (.inr (.inr (.inr (.inr (.inr (.inr (.inr rfl)))))))))⟩)⟩
theorem ErrsP.lt {ad : Nat → Addr} (h : ErrsP w ad) {b : Nat} (hb : ErrB ad b) : b < w.heap.size := by
  rcases hb with rfl | rfl | rfl | rfl | rfl | rfl | rfl | rfl | rfl
  · exact cell_lt h.at2
  · exact cell_lt h.at3
  · exact cell_lt h.at4
  · exact cell_lt h.at5
  · exact cell_lt h.at7
  · exact cell_lt h.at8
  · exact cell_lt h.at9
  · obtain ⟨cs, t, e⟩ := h.row5; exact (Array.getElem?_eq_some_iff.1 e).1
  · obtain ⟨cs, t, e⟩ := h.row7; exact (Array.getElem?_eq_some_iff.1 e).1
structure PWF (w : World) (F : Nat → Prop) (ad : Nat → Addr) (a1 a2 a3 : Option Addr) (c1 c2 c3 : Nat) (P : PP) : Prop where
  lt : ∀ b, F b → b < w.heap.size
  ef : ∀ b, ErrB ad b → F b
  errs : ErrsP w ad
  prog : ProgF w F (.slice a1 P.vars.length c1) (.slice a2 P.funs.length c2) (.slice a3 P.stmts.length c3) P
  z1 : ∀ s ∈ P.vars, s.size ≤ 1000000
  z2 : ∀ s ∈ P.names, s.size ≤ 1000000
  well : P.Well
variable {ad : Nat → Addr} {a1 a2 a3 : Option Addr} {c1 c2 c3 : Nat} {P : PP}
theorem PWF.pw (h : PWF w F ad a1 a2 a3 c1 c2 c3 P) : PW w w.heap.size ad a1 a2 a3 c1 c2 c3 P := ⟨h.errs, h.prog.toR h.lt, h.z1, h.z2, h.well⟩
theorem PWF.keep (h : PWF w F ad a1 a2 a3 c1 c2 c3 P) (k : Keep X w w') (hX : ∀ b, F b → ¬ X b) : PWF w' F ad a1 a2 a3 c1 c2 c3 P :=
  ⟨fun b hb => Nat.lt_of_lt_of_le (h.lt b hb) k.size, h.ef, h.errs.keep k fun b hb => hX b (h.ef b hb), h.prog.keep k hX fun _ h => h, h.z1, h.z2, h.well⟩
theorem PWF.ext (h : PWF w F ad a1 a2 a3 c1 c2 c3 P) (x : Ext w w') : PWF w' F ad a1 a2 a3 c1 c2 c3 P := h.keep (x.keep fun _ => False) fun _ _ h => h
theorem PWF.more (h : PWF w F ad a1 a2 a3 c1 c2 c3 P) (hF : ∀ b, F b → G b) (hG : ∀ b, G b → b < w.heap.size) : PWF w G ad a1 a2 a3 c1 c2 c3 P :=
  ⟨hG, fun b hb => hF b (h.ef b hb), h.errs, h.prog.keep (Keep.refl (fun _ => False) w) (fun _ _ h => h) hF, h.z1, h.z2, h.well⟩
theorem PWF.of (h : PW w n0 ad a1 a2 a3 c1 c2 c3 P) (hn : n0 ≤ w.heap.size) : PWF w (fun b => b < w.heap.size) ad a1 a2 a3 c1 c2 c3 P :=
  ⟨fun _ h => h, fun b hb => h.errs.lt hb, h.errs, ProgF.ofR h.prog fun b hb => Nat.lt_of_lt_of_le hb hn, h.z1, h.z2, h.well⟩
end
def OwnsQ (w : World) (base : Nat) (e : TypeId) (size : Nat) (v : Value) (n : Nat) (xs : List Value) : Prop :=
  xs.length = n * size ∧ ((v = .slice none 0 0 ∧ n = 0) ∨ ∃ g off cap cur, v = .slice (some ⟨g, off, none⟩) n cap ∧ base ≤ g ∧ Blk w g cur e ∧ n ≤ cap ∧ off + cap * size ≤ cur.size ∧ (cur.toList.drop off).take (n * size) = xs)
section
variable {w w' : World} {base : Nat} {e : TypeId} {size n : Nat} {v : Value} {xs : List Value}
theorem OwnsQ.ofRow (h : w.ownsRow base e size v n xs) : OwnsQ w base e size v n xs := by
  refine ⟨h.1, h.2.imp id ?_⟩
  rintro ⟨g, cap, cur, h1, h2, h3, h4, h5, h6, h7⟩
  exact ⟨g, 0, cap, cur, h1, h2, h3, h4, by omega, h7⟩
theorem OwnsQ.nil (w : World) (base : Nat) (e : TypeId) (size : Nat) : OwnsQ w base e size (.slice none 0 0) 0 [] := .ofRow (World.ownsRow_nil _ _ _ _)
theorem OwnsQ.form (h : OwnsQ w base e size v n xs) : ∃ a c, v = .slice a n c := by
  rcases h.2 with ⟨h1, h2⟩ | ⟨g, off, cap, cur, h1, _⟩
  · exact ⟨none, 0, by rw [h1, h2]⟩
  · exact ⟨_, _, h1⟩
theorem OwnsQ.keep {X : Nat → Prop} (h : OwnsQ w base e size v n xs) (k : Keep X w w') (hx : ∀ i, v.ownBlock = some i → ¬ X i) : OwnsQ w' base e size v n xs := by
  refine ⟨h.1, h.2.imp id ?_⟩
  rintro ⟨g, off, cap, cur, rfl, h2, h3, h4⟩
  exact ⟨g, off, cap, cur, rfl, h2, h3.keep k (hx g rfl), h4⟩
theorem OwnsQ.ext (h : OwnsQ w base e size v n xs) (x : Ext w w') : OwnsQ w' base e size v n xs := h.keep (x.keep fun _ => False) fun _ _ h => h
theorem OwnsQ.ty (h : OwnsQ w base e size v n xs) {k : Nat} (hk : v.ownBlock = some k) : base ≤ k ∧ ∃ c, Blk w k c e := by
  rcases h.2 with ⟨rfl, _⟩ | ⟨g, off, cap, cur, rfl, h2, h3, _⟩
  · cases hk
  · obtain rfl := Option.some.inj hk
    exact ⟨h2, cur, h3⟩
theorem OwnsQ.get {g off cap : Nat} (h : OwnsQ w base e size (.slice (some ⟨g, off, none⟩) n cap) n xs) (i : Nat) {u : Value} (hu : xs[i]? = some u) : w.cell? ⟨g, off + i, none⟩ = some u := by
  rcases h.2 with ⟨h1, _⟩ | ⟨g', off', cap', cur, h1, h2, h3, h4, h5, h6⟩
  · cases h1
  · simp only [Value.slice.injEq, Option.some.injEq, Addr.mk.injEq, and_true, true_and] at h1
    obtain ⟨⟨rfl, rfl⟩, rfl⟩ := h1
    rw [h3.cell, ← Array.getElem?_toList]
    rw [← h6, List.getElem?_take] at hu
    split at hu
    · rwa [List.getElem?_drop] at hu
    · cases hu
theorem OwnsQ.tail {g off cap : Nat} (h : OwnsQ w base e size (.slice (some ⟨g, off, none⟩) n cap) n xs) (hn : 0 < n) : OwnsQ w base e size (.slice (some (if cap = 1 then ⟨g, off, none⟩ else ⟨g, off + size, none⟩)) (n - 1) (cap - 1)) (n - 1) (xs.drop size) := by
  rcases h.2 with ⟨h1, _⟩ | ⟨g', off', cap', cur, h1, h2, h3, h4, h5, h6⟩
  · cases h1
  · simp only [Value.slice.injEq, Option.some.injEq, Addr.mk.injEq, and_true, true_and] at h1
    obtain ⟨⟨rfl, rfl⟩, rfl⟩ := h1
    obtain ⟨m, rfl⟩ : ∃ m, n = m + 1 := ⟨n - 1, by omega⟩
    obtain ⟨c, rfl⟩ : ∃ c, cap = c + 1 := ⟨cap - 1, by omega⟩
    have e1 : (m + 1) * size = m * size + size := by rw [Nat.add_mul, Nat.one_mul]
    have e2 : (c + 1) * size = c * size + size := by rw [Nat.add_mul, Nat.one_mul]
    refine ⟨by rw [List.length_drop, h.1, e1]; simp, .inr ?_⟩
    by_cases hc : c = 0
    · subst hc
      obtain rfl : m = 0 := by omega
      refine ⟨g, off, 0, cur, by simp, h2, h3, Nat.le_refl _, by omega, ?_⟩
      have := h.1
      simp at this ⊢
      omega
    · refine ⟨g, off + size, c, cur, by rw [if_neg (by omega)]; simp, h2, h3, by omega, by omega, ?_⟩
      rw [← h6, List.drop_take, List.drop_drop, e1]
      congr 1
      · simp
end
def trCells (l : List Bool) : List Value := l.map Value.bool
def TrRow (base : Nat) (w : World) (v : Value) (l : List Bool) : Prop := w.ownsRow base 4 1 v l.length (trCells l)
def IsB (w : World) (b : Nat) : Prop := ∃ c, Blk w b c 4
structure BBags (w : World) (base : Nat) (vs : List Value) (B : List (List Bool)) : Prop where
  len : vs.length = B.length
  row : ∀ (i : Nat) v l, vs[i]? = some v → B[i]? = some l → TrRow base w v l
  apart : ∀ (i j : Nat) v u b, i ≠ j → vs[i]? = some v → vs[j]? = some u → v.ownBlock = some b → ¬ u.ownBlock = some b
section
variable {w w' : World} {base : Nat} {vs : List Value} {B : List (List Bool)}
theorem BBags.nil (w : World) (base : Nat) : BBags w base [] [] := ⟨rfl, fun _ _ _ h => by simp at h, fun _ _ _ _ _ _ h => by simp at h⟩
theorem BBags.keep {X : Nat → Prop} (h : BBags w base vs B) (k : Keep X w w') (hX : ∀ b, X b → ¬ IsB w b) : BBags w' base vs B :=
  ⟨h.len, fun i v l h1 h2 => row_keep (h.row i v l h1 h2) k fun b hb hx => hX b hx (own_ty (h.row i v l h1 h2) hb), h.apart⟩
theorem BBags.ext (h : BBags w base vs B) (x : Ext w w') : BBags w' base vs B := h.keep (x.keep fun _ => False) fun _ h => h.elim
theorem BBags.at (h : BBags w base vs B) {i : Nat} (hi : i < B.length) : ∃ v l, vs[i]? = some v ∧ B[i]? = some l ∧ TrRow base w v l :=
  ⟨vs[i]'(by rw [h.len]; exact hi), B[i], List.getElem?_eq_getElem _, List.getElem?_eq_getElem _, h.row i _ _ (List.getElem?_eq_getElem _) (List.getElem?_eq_getElem _)⟩
theorem BBags.push (h : BBags w base vs B) (x : Ext w w') {v : Value} {l : List Bool} (hr : TrRow base w' v l) (hn : ∀ b, v.ownBlock = some b → w.heap.size ≤ b) : BBags w' base (vs ++ [v]) (B ++ [l]) := by
  have hlt : ∀ (i : Nat) u b, vs[i]? = some u → u.ownBlock = some b → b < w.heap.size := fun i u b hu hb => by
    have hi : i < vs.length := by
      rcases Nat.lt_or_ge i vs.length with g | g
      · exact g
      · rw [List.getElem?_eq_none g] at hu; cases hu
    obtain ⟨m, hm⟩ : ∃ m, B[i]? = some m := ⟨_, List.getElem?_eq_getElem (by rw [← h.len]; exact hi)⟩
    exact (World.ownsRow.lt (h.row i u m hu hm) b hb).2
  have hat : ∀ (i : Nat) u, (vs ++ [v])[i]? = some u → (i < vs.length ∧ vs[i]? = some u) ∨ (i = vs.length ∧ u = v) := fun i u hu => by
    rcases Nat.lt_trichotomy i vs.length with g | g | g
    · rw [List.getElem?_append_left g] at hu
      exact .inl ⟨g, hu⟩
    · subst g
      rw [List.getElem?_concat_length] at hu
      exact .inr ⟨rfl, (Option.some.inj hu).symm⟩
    · rw [List.getElem?_eq_none (by rw [List.length_append, List.length_singleton]; omega)] at hu
      cases hu
  refine ⟨by rw [List.length_append, List.length_append, h.len]; rfl, fun i u m hu hm => ?_, fun i j u z b hij hu hz hb hz' => ?_⟩
  · rcases hat i u hu with ⟨hi, hu'⟩ | ⟨rfl, rfl⟩
    · rw [List.getElem?_append_left (by rw [← h.len]; exact hi)] at hm
      exact (h.ext x).row i u m hu' hm
    · rw [h.len, List.getElem?_concat_length] at hm
      obtain rfl := Option.some.inj hm
      exact hr
  · rcases hat i u hu with ⟨hi, hu'⟩ | ⟨hi, rfl⟩ <;> rcases hat j z hz with ⟨hj, hz''⟩ | ⟨hj, rfl⟩
    · exact h.apart i j u z b hij hu' hz'' hb hz'
    · have := hlt i u b hu' hb
      have := hn b hz'
      omega
    · have := hlt j z b hz'' hz'
      have := hn b hb
      omega
    · omega
theorem BBags.set {i j g cap n : Nat} {l : List Bool} (h : BBags w base vs B) (hv : vs[i]? = some (.slice (some ⟨g, 0, none⟩) n cap)) (hl : B[i]? = some l) (hj : j < l.length) (x : Bool) :
    BBags (w.setCell ⟨g, j, none⟩ (.bool x)) base vs (B.set i (l.set j x)) := by
  have hi : i < B.length := by
    rcases Nat.lt_or_ge i B.length with k | k
    · exact k
    · rw [List.getElem?_eq_none k] at hl; cases hl
  have hk : Keep (fun q => q = g) w (w.setCell ⟨g, j, none⟩ (.bool x)) := (Keep.refl (fun q => q = g) w).set rfl _
  refine ⟨by rw [List.length_set]; exact h.len, fun p u m hu hm => ?_, h.apart⟩
  by_cases hp : i = p
  · subst hp
    rw [List.getElem?_set_self hi] at hm
    obtain rfl := Option.some.inj hm
    obtain rfl := Option.some.inj (hv.symm.trans hu)
    have hr := h.row i _ l hv hl
    unfold TrRow at hr ⊢
    obtain ⟨a', c', e'⟩ := row_form hr
    simp only [Value.slice.injEq] at e'
    obtain ⟨rfl, rfl, rfl⟩ := e'
    rw [List.length_set, show trCells (l.set j x) = (trCells l).set j (.bool x) by unfold trCells; rw [List.map_set]]
    exact own_set hr j (by unfold trCells; rw [List.length_map]; exact hj) _
  · rw [List.getElem?_set_ne hp] at hm
    exact row_keep (h.row p u m hu hm) hk fun b hb1 hb2 => h.apart i p _ u b hp hv hu (by subst hb2; rfl) hb1
end
structure SV where
  has : List (List Bool)
  edges : List (Int × Int)
  rules : List RV
  wait : List (Int × Int)
def SV.bit (s : SV) (f : Int × Int) : Bool := (s.has.getD f.1.toNat []).getD f.2.toNat false
def SV.objs (s : SV) (n : Int) : List Int := ((List.range (s.has.getD n.toNat []).length).filter fun o => (s.has.getD n.toNat []).getD o false).map fun o : Nat => (o : Int)
def SV.succ (s : SV) (n : Int) : List Int := (s.edges.filter fun e => decide (e.1 = n)).map (·.2)
def SV.edge (s : SV) (e : Int × Int) : SV := if e.1 = e.2 ∨ e ∈ s.edges then s else { s with edges := s.edges ++ [e], wait := s.wait ++ (s.objs e.1).map fun o => (e.2, o) }
def PP.fires (P : PP) (r : RV) (o : Int) : List (Int × Int) :=
  bif r.kind.toList == kCall then P.callsOf r o else
  if (P.nodesV : Int) ≤ o then [] else bif r.kind.toList == kLoad then [(o, r.b)] else [(r.a, o)]
def RV.pivot (r : RV) : Int := bif r.kind.toList == kStore then r.b else r.a
def RV.fired (r : RV) : Bool := (r.kind.toList == kLoad) || (r.kind.toList == kStore) || (r.kind.toList == kCall)
def SV.fire (P : PP) (s : SV) (r : RV) (o : Int) : SV := (P.fires r o).foldl SV.edge s
def SV.add (P : PP) (s : SV) (r : RV) : SV :=
  bif r.kind.toList == bBase.toList then { s with rules := s.rules ++ [r], wait := s.wait ++ [(r.a, r.b)] } else
  bif r.kind.toList == kCopy then SV.edge { s with rules := s.rules ++ [r] } (r.a, r.b) else
  (s.objs r.pivot).foldl (fun s o => s.fire P r o) { s with rules := s.rules ++ [r] }
def SV.mark (s : SV) (f : Int × Int) : SV := { s with has := s.has.set f.1.toNat ((s.has.getD f.1.toNat []).set f.2.toNat true) }
def SV.came (P : PP) (s : SV) (f : Int × Int) : SV :=
  s.rules.foldl (fun s r => bif r.fired && decide (r.pivot = f.1) then s.fire P r f.2 else s) { s with wait := s.wait ++ (s.succ f.1).map fun t => (t, f.2) }
def SV.clean (s : SV) : SV := { s with wait := s.wait.dropWhile s.bit }
structure Core (P : PP) (S : List (List Int)) (s : SV) : Prop where
  len : s.has.length = P.nodesV
  row : ∀ l ∈ s.has, l.length = P.objectsV
  wait : ∀ f ∈ s.wait, (0 ≤ f.1 ∧ f.1 < P.nodesV) ∧ f.2 ∈ S.getD f.1.toNat []
  bit : ∀ f : Int × Int, s.bit f = true → 0 ≤ f.2 → f.2 ∈ S.getD f.1.toNat []
  edge : ∀ e ∈ s.edges, (0 ≤ e.1 ∧ e.1 < P.nodesV) ∧ (0 ≤ e.2 ∧ e.2 < P.nodesV) ∧ ∀ o ∈ S.getD e.1.toNat [], o ∈ S.getD e.2.toNat []
  along : ∀ e ∈ s.edges, ∀ o, 0 ≤ o → s.bit (e.1, o) = true → s.bit (e.2, o) = true ∨ (e.2, o) ∈ s.wait
  base : ∀ r ∈ s.rules, r.kind.toList = bBase.toList → s.bit (r.a, r.b) = true ∨ (r.a, r.b) ∈ s.wait
  copy : ∀ r ∈ s.rules, r.kind.toList = kCopy → r.a = r.b ∨ (r.a, r.b) ∈ s.edges
def SV.told (P : PP) (s : SV) (r : RV) (o : Int) : Prop := ∀ e ∈ P.fires r o, e.1 = e.2 ∨ e ∈ s.edges
def SndE (P : PP) (S : List (List Int)) (e : Int × Int) : Prop := (0 ≤ e.1 ∧ e.1 < P.nodesV) ∧ (0 ≤ e.2 ∧ e.2 < P.nodesV) ∧ ∀ o ∈ S.getD e.1.toNat [], o ∈ S.getD e.2.toNat []
theorem mem_objs {s : SV} {n o : Int} : o ∈ s.objs n ↔ 0 ≤ o ∧ s.bit (n, o) = true := by
  unfold SV.objs SV.bit
  rw [List.mem_map]
  constructor
  · rintro ⟨k, hk, rfl⟩
    obtain ⟨h1, h2⟩ := List.mem_filter.1 hk
    exact ⟨by omega, by simpa using h2⟩
  · rintro ⟨h0, h⟩
    obtain ⟨k, rfl⟩ := Int.eq_ofNat_of_zero_le h0
    refine ⟨k, List.mem_filter.2 ⟨List.mem_range.2 ?_, by simpa using h⟩, rfl⟩
    rcases Nat.lt_or_ge k (s.has.getD n.toNat []).length with g | g
    · exact g
    · have : (s.has.getD n.toNat []).getD k false = false := by rw [List.getD_eq_getElem?_getD, List.getElem?_eq_none g]; rfl
      simp only [Int.toNat_natCast] at h
      rw [this] at h; cases h
theorem edge_has (s : SV) (e : Int × Int) : (s.edge e).has = s.has := by unfold SV.edge; split <;> rfl
theorem edge_rules (s : SV) (e : Int × Int) : (s.edge e).rules = s.rules := by unfold SV.edge; split <;> rfl
theorem edge_bit (s : SV) (e f : Int × Int) : (s.edge e).bit f = s.bit f := by unfold SV.bit; rw [edge_has]
theorem edge_more {s : SV} {e g : Int × Int} (h : g ∈ s.edges) : g ∈ (s.edge e).edges := by
  unfold SV.edge
  split
  · exact h
  · exact List.mem_append_left _ h
theorem edge_in (s : SV) (e : Int × Int) : e.1 = e.2 ∨ e ∈ (s.edge e).edges := by
  unfold SV.edge
  split
  · assumption
  · exact .inr (List.mem_append_right _ (List.mem_singleton.2 rfl))
theorem Core.edgeTo {P : PP} {S : List (List Int)} {s : SV} (h : Core P S s) {e : Int × Int} (he : SndE P S e) : Core P S (s.edge e) := by
  unfold SV.edge
  by_cases hc : e.1 = e.2 ∨ e ∈ s.edges
  · rw [if_pos hc]; exact h
  · rw [if_neg hc]
    refine ⟨h.len, h.row, fun f hf => ?_, h.bit, fun g hg => ?_, fun g hg o h0 hb => ?_, fun r hr hk => ?_, fun r hr hk => ?_⟩
    · rcases List.mem_append.1 hf with hf | hf
      · exact h.wait f hf
      · obtain ⟨o, ho, rfl⟩ := List.mem_map.1 hf
        obtain ⟨h0, hb⟩ := mem_objs.1 ho
        exact ⟨he.2.1, he.2.2 o (h.bit (e.1, o) hb h0)⟩
    · rcases List.mem_append.1 hg with hg | hg
      · exact h.edge g hg
      · obtain rfl := List.mem_singleton.1 hg
        exact he
    · have hb : s.bit (g.1, o) = true := hb
      show s.bit (g.2, o) = true ∨ (g.2, o) ∈ s.wait ++ _
      rcases List.mem_append.1 hg with hg | hg
      · exact (h.along g hg o h0 hb).imp id fun k => List.mem_append_left _ k
      · obtain rfl := List.mem_singleton.1 hg
        exact .inr (List.mem_append_right _ (List.mem_map.2 ⟨o, mem_objs.2 ⟨h0, hb⟩, rfl⟩))
    · exact (h.base r hr hk).imp id fun k => List.mem_append_left _ k
    · exact (h.copy r hr hk).imp id fun k => List.mem_append_left _ k
theorem edges_fold {P : PP} {S : List (List Int)} : ∀ (l : List (Int × Int)) {s : SV}, Core P S s → (∀ e ∈ l, SndE P S e) →
    Core P S (l.foldl SV.edge s) ∧ (l.foldl SV.edge s).has = s.has ∧ (l.foldl SV.edge s).rules = s.rules ∧ (∀ g ∈ s.edges, g ∈ (l.foldl SV.edge s).edges) ∧ ∀ e ∈ l, e.1 = e.2 ∨ e ∈ (l.foldl SV.edge s).edges
  | [], s, h, _ => ⟨h, rfl, rfl, fun _ hg => hg, fun _ he => by cases he⟩
  | e :: l, s, h, hs => by
    obtain ⟨k1, k2, k3, k4, k5⟩ := edges_fold l (h.edgeTo (hs e List.mem_cons_self)) fun g hg => hs g (List.mem_cons_of_mem _ hg)
    refine ⟨k1, k2.trans (edge_has s e), k3.trans (edge_rules s e), fun g hg => k4 g (edge_more hg), fun g hg => ?_⟩
    rcases List.mem_cons.1 hg with rfl | hg
    · exact (edge_in s g).imp id fun k => k4 _ k
    · exact k5 g hg
theorem fires_in {P : PP} {S : List (List Int)} {r : RV} {o : Int} (hf : r.fired = true) (ho : o ∈ S.getD r.pivot.toNat []) {e : Int × Int} (he : e ∈ P.fires r o) : e ∈ P.redges r S := by
  unfold PP.fires at he
  unfold RV.pivot at ho
  unfold RV.fired at hf
  unfold PP.redges
  cases h3 : (r.kind.toList == kCall) with
  | true =>
    have e1 := eq_of_beq h3
    have h0 : (r.kind.toList == kCopy) = false := by rw [e1]; decide
    have h1 : (r.kind.toList == kLoad) = false := by rw [e1]; decide
    have h2 : (r.kind.toList == kStore) = false := by rw [e1]; decide
    rw [h3, cond_true] at he
    rw [h2, cond_false] at ho
    rw [h0, h1, h2, cond_false, cond_false, cond_false, cond_true]
    exact List.mem_flatMap.2 ⟨o, ho, he⟩
  | false =>
    rw [h3, cond_false] at he
    have hn : o < P.nodesV := by
      by_cases g : (P.nodesV : Int) ≤ o
      · rw [if_pos g] at he; cases he
      · omega
    rw [if_neg (by omega)] at he
    have hno : o ∈ S.getD r.pivot.toNat [] := ho
    cases h1 : (r.kind.toList == kLoad) with
    | true =>
      have e1 := eq_of_beq h1
      have h0 : (r.kind.toList == kCopy) = false := by rw [e1]; decide
      have h2 : (r.kind.toList == kStore) = false := by rw [e1]; decide
      rw [h1, cond_true] at he
      rw [h2, cond_false] at ho
      rw [h0, cond_false, cond_true]
      refine List.mem_map.2 ⟨o, List.mem_filter.2 ⟨ho, by rw [decide_eq_false (by omega)]; rfl⟩, (List.mem_singleton.1 he).symm⟩
    | false =>
      rw [h1, h3] at hf
      cases h2 : (r.kind.toList == kStore) with
      | false => rw [h2] at hf; cases hf
      | true =>
        have e1 := eq_of_beq h2
        have h0 : (r.kind.toList == kCopy) = false := by rw [e1]; decide
        rw [h1, cond_false] at he
        rw [h2, cond_true] at ho
        rw [h0, cond_false, cond_false, cond_true]
        exact List.mem_map.2 ⟨o, List.mem_filter.2 ⟨ho, by rw [decide_eq_false (by omega)]; rfl⟩, (List.mem_singleton.1 he).symm⟩
theorem sndE_of {P : PP} {S : List (List Int)} (hg : P.GoodS S) (hc : ClosedP P S) {r : RV} (hr : r ∈ P.rulesV) {e : Int × Int} (he : e ∈ P.redges r S) : SndE P S e := by
  have h0 : e ∈ P.edges0 S := List.mem_flatMap.2 ⟨r, hr, he⟩
  obtain ⟨h1, h2, h3, h4⟩ := edges0_in hg.1 hg.ok e h0
  have hl := hg.2.1
  refine ⟨⟨by omega, by omega⟩, ⟨by omega, by omega⟩, ?_⟩
  by_cases k : e.1 = e.2
  · rw [k]; exact fun _ h => h
  · exact hc.edge e h0 k
structure Full (P : PP) (S : List (List Int)) (s : SV) : Prop where
  core : Core P S s
  of : ∀ r ∈ s.rules, r ∈ P.rulesV
  told : ∀ r ∈ s.rules, r.fired = true → ∀ o, 0 ≤ o → s.bit (r.pivot, o) = true → s.told P r o
theorem Core.fire {P : PP} {S : List (List Int)} {s : SV} (hg : P.GoodS S) (hc : ClosedP P S) (h : Core P S s) {r : RV} (hr : r ∈ P.rulesV) (hf : r.fired = true) {o : Int} (ho : o ∈ S.getD r.pivot.toNat []) :
    Core P S (s.fire P r o) ∧ (s.fire P r o).has = s.has ∧ (s.fire P r o).rules = s.rules ∧ (∀ g ∈ s.edges, g ∈ (s.fire P r o).edges) ∧ (s.fire P r o).told P r o :=
  edges_fold _ h fun _ he => sndE_of hg hc hr (fires_in hf ho he)
theorem told_more {P : PP} {s t : SV} (hm : ∀ g ∈ s.edges, g ∈ t.edges) {r : RV} {o : Int} (h : s.told P r o) : t.told P r o := fun e he => (h e he).imp id fun k => hm e k
theorem bit_has {s t : SV} (h : t.has = s.has) (f : Int × Int) : t.bit f = s.bit f := by unfold SV.bit; rw [h]
theorem objs_has {s t : SV} (h : t.has = s.has) (n : Int) : t.objs n = s.objs n := by unfold SV.objs; rw [h]
theorem fires_fold {P : PP} {S : List (List Int)} (hg : P.GoodS S) (hc : ClosedP P S) {f : Int × Int} (hf : f.2 ∈ S.getD f.1.toNat []) : ∀ (l : List RV) {s : SV}, Core P S s → (∀ r ∈ l, r ∈ P.rulesV) →
    let t := l.foldl (fun s r => bif r.fired && decide (r.pivot = f.1) then s.fire P r f.2 else s) s
    Core P S t ∧ t.has = s.has ∧ t.rules = s.rules ∧ (∀ g ∈ s.edges, g ∈ t.edges) ∧ ∀ r ∈ l, r.fired = true → r.pivot = f.1 → t.told P r f.2
  | [], s, h, _ => ⟨h, rfl, rfl, fun _ hg => hg, fun _ he => by cases he⟩
  | r :: l, s, h, hs => by
    have step : Core P S (bif r.fired && decide (r.pivot = f.1) then s.fire P r f.2 else s) ∧ (bif r.fired && decide (r.pivot = f.1) then s.fire P r f.2 else s).has = s.has ∧ (bif r.fired && decide (r.pivot = f.1) then s.fire P r f.2 else s).rules = s.rules ∧ (∀ g ∈ s.edges, g ∈ (bif r.fired && decide (r.pivot = f.1) then s.fire P r f.2 else s).edges) ∧ (r.fired = true → r.pivot = f.1 → (bif r.fired && decide (r.pivot = f.1) then s.fire P r f.2 else s).told P r f.2) := by
      cases h1 : (r.fired && decide (r.pivot = f.1)) with
      | false =>
        refine ⟨h, rfl, rfl, fun _ k => k, fun k1 k2 => ?_⟩
        rw [k1, decide_eq_true k2] at h1; cases h1
      | true =>
        rw [Bool.and_eq_true] at h1
        have hp := of_decide_eq_true h1.2
        obtain ⟨k1, k2, k3, k4, k5⟩ := h.fire hg hc (hs r List.mem_cons_self) h1.1 (o := f.2) (by rw [hp]; exact hf)
        exact ⟨k1, k2, k3, k4, fun _ _ => k5⟩
    obtain ⟨k1, k2, k3, k4, k5⟩ := step
    obtain ⟨j1, j2, j3, j4, j5⟩ := fires_fold hg hc hf l k1 fun g hg => hs g (List.mem_cons_of_mem _ hg)
    refine ⟨j1, j2.trans k2, j3.trans k3, fun g hg => j4 g (k4 g hg), fun q hq h1 h2 => ?_⟩
    rcases List.mem_cons.1 hq with rfl | hq
    · exact told_more j4 (k5 h1 h2)
    · exact j5 q hq h1 h2
theorem getD_set2 (l : List (List Bool)) (i n : Nat) (v : List Bool) (hn : n < l.length) : (l.set n v).getD i [] = if n = i then v else l.getD i [] := by
  rw [List.getD_eq_getElem?_getD, List.getElem?_set]
  by_cases h : n = i
  · subst h; rw [if_pos rfl, if_pos hn, if_pos rfl]; rfl
  · rw [if_neg h, if_neg h, List.getD_eq_getElem?_getD]
theorem mark_bit {s : SV} {f g : Int × Int} (hf : 0 ≤ f.1 ∧ f.1.toNat < s.has.length) (h2 : 0 ≤ f.2 ∧ f.2.toNat < (s.has.getD f.1.toNat []).length) (hg1 : 0 ≤ g.1) (hg2 : 0 ≤ g.2) : (s.mark f).bit g = true ↔ g = f ∨ s.bit g = true := by
  unfold SV.bit SV.mark
  rw [getD_set2 _ _ _ _ hf.2]
  by_cases h1 : f.1.toNat = g.1.toNat
  · have e1 : f.1 = g.1 := by omega
    rw [if_pos h1, List.getD_eq_getElem?_getD, List.getElem?_set]
    by_cases h3 : f.2.toNat = g.2.toNat
    · have e2 : f.2 = g.2 := by omega
      rw [if_pos h3, if_pos h2.2]
      exact ⟨fun _ => .inl (Prod.ext e1.symm e2.symm), fun _ => rfl⟩
    · rw [if_neg h3, h1]
      refine ⟨fun h => .inr (by rw [List.getD_eq_getElem?_getD]; exact h), fun h => ?_⟩
      rcases h with rfl | h
      · exact absurd rfl h3
      · rw [List.getD_eq_getElem?_getD] at h; exact h
  · rw [if_neg h1]
    refine ⟨.inr, fun h => ?_⟩
    rcases h with rfl | h
    · exact absurd rfl h1
    · exact h
theorem pivot_in {P : PP} (hw : P.Well) {k : Nat} (hk : k < P.stmts.length) (hf : (P.ruleV k (P.stAt k)).fired = true) : 0 ≤ (P.ruleV k (P.stAt k)).pivot := by
  have hgd := PP.good (hw.2 k (P.stAt k) hk (stAt_some hk))
  have ha := rule_a_in hw hk
  unfold RV.pivot
  cases h : ((P.ruleV k (P.stAt k)).kind.toList == kStore) with
  | false => exact ha.1
  | true =>
    rw [cond_true]
    have hb := eq_of_beq bBase_list
    have hk1 := eq_of_beq h
    unfold PP.ruleV at hk1 ⊢
    cases h1 : (P.stAt k).isK kAddr with
    | true => rw [h1, cond_true] at hk1; rw [show (bBase.toList = kStore) = False from by rw [hb]; exact eq_false (by decide)] at hk1; exact hk1.elim
    | false =>
    cases h2 : (P.stAt k).isK kNew with
    | true => rw [h1, h2, cond_false, cond_true] at hk1; rw [show (bBase.toList = kStore) = False from by rw [hb]; exact eq_false (by decide)] at hk1; exact hk1.elim
    | false =>
    cases h3 : (P.stAt k).isK kFun with
    | true => rw [h1, h2, h3, cond_false, cond_false, cond_true] at hk1; rw [show (bBase.toList = kStore) = False from by rw [hb]; exact eq_false (by decide)] at hk1; exact hk1.elim
    | false =>
    cases h4 : (P.stAt k).isK kCall with
    | true => exact hgd.gx.1
    | false => exact hgd.gx.1
theorem Full.marked {P : PP} {S : List (List Int)} {s : SV} (hg : P.GoodS S) (h : Full P S s) {f : Int × Int} (hf : (0 ≤ f.1 ∧ f.1 < P.nodesV) ∧ f.2 ∈ S.getD f.1.toNat []) (h2 : 0 ≤ f.2 ∧ f.2 < P.objectsV) :
    Core P S ({ s.mark f with wait := (s.mark f).wait ++ ((s.mark f).succ f.1).map fun t => (t, f.2) } : SV) := by
  have hl1 : f.1.toNat < s.has.length := by rw [h.core.len]; omega
  have hrow : (s.has.getD f.1.toNat []).length = P.objectsV := by
    rw [List.getD_eq_getElem?_getD, List.getElem?_eq_getElem hl1]
    exact h.core.row _ (List.getElem_mem hl1)
  have hmb := fun (g : Int × Int) (g1 : 0 ≤ g.1) (g2 : 0 ≤ g.2) => mark_bit (s := s) (f := f) (g := g) ⟨hf.1.1, hl1⟩ ⟨h2.1, by rw [hrow]; omega⟩ g1 g2
  obtain ⟨t, ht⟩ : ∃ t, t = ({ s.mark f with wait := (s.mark f).wait ++ ((s.mark f).succ f.1).map fun t => (t, f.2) } : SV) := ⟨_, rfl⟩
  have hth : t.has = (s.mark f).has := by rw [ht]
  have hte : t.edges = s.edges := by rw [ht]; rfl
  have htr : t.rules = s.rules := by rw [ht]; rfl
  have htw : t.wait = s.wait ++ (s.succ f.1).map fun t => (t, f.2) := by rw [ht]; rfl
  have htb : ∀ g : Int × Int, t.bit g = (s.mark f).bit g := bit_has hth
  rw [← ht]
  refine ⟨?_, fun l hl => ?_, fun g hw => ?_, fun g hb g0 => ?_, fun e he => ?_, fun e he o h0 hb => ?_, fun r hr hk => ?_, fun r hr hk => ?_⟩
  · rw [hth]; unfold SV.mark; rw [List.length_set]; exact h.core.len
  · rw [hth] at hl
    rcases List.mem_or_eq_of_mem_set hl with hl | rfl
    · exact h.core.row l hl
    · rw [List.length_set]; exact hrow
  · rw [htw] at hw
    rcases List.mem_append.1 hw with hw | hw
    · exact h.core.wait g hw
    · obtain ⟨q, hq, rfl⟩ := List.mem_map.1 hw
      unfold SV.succ at hq
      obtain ⟨e, he, rfl⟩ := List.mem_map.1 hq
      obtain ⟨he, h1⟩ := List.mem_filter.1 he
      have h1 := of_decide_eq_true h1
      obtain ⟨_, k2, k3⟩ := h.core.edge e he
      rw [h1] at k3
      exact ⟨k2, k3 f.2 hf.2⟩
  · rw [htb] at hb
    by_cases g1 : 0 ≤ g.1
    · rcases (hmb g g1 g0).1 hb with rfl | hb
      · exact hf.2
      · exact h.core.bit g hb g0
    · -- a negative node: its place is the first one's
      have e : g.1.toNat = (0 : Int).toNat := by omega
      have hb' : (s.mark f).bit (0, g.2) = true := by unfold SV.bit at hb ⊢; rw [e] at hb; exact hb
      rw [e]
      rcases (hmb (0, g.2) (Int.le_refl 0) g0).1 hb' with k | k
      · have := hf.2; rw [← k] at this; exact this
      · exact h.core.bit (0, g.2) k g0
  · rw [hte] at he; exact h.core.edge e he
  · rw [hte] at he
    obtain ⟨k1, k2, _⟩ := h.core.edge e he
    rw [htb] at hb ⊢
    rw [htw]
    rcases (hmb (e.1, o) k1.1 h0).1 hb with k | k
    · refine .inr (List.mem_append_right _ (List.mem_map.2 ⟨e.2, ?_, by rw [← k]⟩))
      unfold SV.succ
      refine List.mem_map.2 ⟨e, List.mem_filter.2 ⟨he, decide_eq_true ?_⟩, rfl⟩
      rw [← k]
    · rcases h.core.along e he o h0 k with k | k
      · exact .inl ((hmb (e.2, o) k2.1 h0).2 (.inr k))
      · exact .inr (List.mem_append_left _ k)
  · rw [htr] at hr
    rw [htb, htw]
    have hrv := h.of r hr
    rcases h.core.base r hr hk with k | k
    · refine .inl ?_
      obtain ⟨i, hi, rfl⟩ := List.mem_map.1 hrv
      have hi := List.mem_range.1 hi
      exact (hmb _ (rule_a_in hg.1 hi).1 (base_b_in hg.1 hi hk).1).2 (.inr k)
    · exact .inr (List.mem_append_left _ k)
  · rw [htr] at hr; rw [hte]; exact h.core.copy r hr hk
theorem Full.came {P : PP} {S : List (List Int)} {s : SV} (hg : P.GoodS S) (hc : ClosedP P S) (h : Full P S s) {f : Int × Int} (hf : (0 ≤ f.1 ∧ f.1 < P.nodesV) ∧ f.2 ∈ S.getD f.1.toNat []) (h2 : 0 ≤ f.2 ∧ f.2 < P.objectsV) :
    Full P S ((s.mark f).came P f) ∧ ((s.mark f).came P f).has = (s.mark f).has ∧ ((s.mark f).came P f).rules = s.rules := by
  have hl1 : f.1.toNat < s.has.length := by rw [h.core.len]; omega
  have hrow : (s.has.getD f.1.toNat []).length = P.objectsV := by
    rw [List.getD_eq_getElem?_getD, List.getElem?_eq_getElem hl1]
    exact h.core.row _ (List.getElem_mem hl1)
  have hmb := fun (g : Int × Int) (g1 : 0 ≤ g.1) (g2 : 0 ≤ g.2) => mark_bit (s := s) (f := f) (g := g) ⟨hf.1.1, hl1⟩ ⟨h2.1, by rw [hrow]; omega⟩ g1 g2
  obtain ⟨t, ht⟩ : ∃ t, t = ({ s.mark f with wait := (s.mark f).wait ++ ((s.mark f).succ f.1).map fun t => (t, f.2) } : SV) := ⟨_, rfl⟩
  have hth : t.has = (s.mark f).has := by rw [ht]
  have hte : t.edges = s.edges := by rw [ht]; rfl
  have htr : t.rules = s.rules := by rw [ht]; rfl
  have htw : t.wait = s.wait ++ (s.succ f.1).map fun t => (t, f.2) := by rw [ht]; rfl
  have htb : ∀ g : Int × Int, t.bit g = (s.mark f).bit g := bit_has hth
  have hcore : Core P S t := by rw [ht]; exact h.marked hg hf h2
  obtain ⟨k1, k2, k3, k4, k5⟩ := fires_fold hg hc hf.2 t.rules hcore fun r hr => by rw [htr] at hr; exact h.of r hr
  have hce : (s.mark f).came P f = t.rules.foldl (fun s r => bif r.fired && decide (r.pivot = f.1) then s.fire P r f.2 else s) t := by rw [ht]; rfl
  rw [hce]
  refine ⟨⟨k1, fun r hr => by rw [k3, htr] at hr; exact h.of r hr, fun r hr hfd o h0 hb => ?_⟩, k2.trans hth, k3.trans htr⟩
  rw [k3] at hr
  rw [bit_has k2, htb] at hb
  have hr' := hr
  rw [htr] at hr'
  have hp0 : 0 ≤ r.pivot := by
    obtain ⟨i, hi, rfl⟩ := List.mem_map.1 (h.of r hr')
    exact pivot_in hg.1 (List.mem_range.1 hi) hfd
  rcases (hmb (r.pivot, o) hp0 h0).1 hb with k | k
  · have e1 : r.pivot = f.1 := by rw [← k]
    have e2 : o = f.2 := by rw [← k]
    rw [e2]
    exact k5 r hr hfd e1
  · exact told_more (fun g hg => k4 g (by rw [hte]; exact hg)) (h.told r hr' hfd o h0 k)
theorem mem_dropWhile_or {α : Type} {p : α → Bool} : ∀ {l : List α} {x : α}, x ∈ l → x ∈ l.dropWhile p ∨ p x = true
  | y :: l, x, h => by
    cases hy : p y with
    | false => rw [List.dropWhile_cons, hy]; exact .inl h
    | true =>
      rw [List.dropWhile_cons, hy]
      rcases List.mem_cons.1 h with rfl | h
      · exact .inr hy
      · exact mem_dropWhile_or h
theorem mem_of_dropWhile {α : Type} {p : α → Bool} : ∀ {l : List α} {x : α}, x ∈ l.dropWhile p → x ∈ l
  | y :: l, x, h => by
    rw [List.dropWhile_cons] at h
    split at h
    · exact List.mem_cons_of_mem _ (mem_of_dropWhile h)
    · exact h
theorem dropWhile_head {α : Type} {p : α → Bool} : ∀ {l : List α} {x : α} {r : List α}, l.dropWhile p = x :: r → p x = false
  | y :: l, x, r, h => by
    rw [List.dropWhile_cons] at h
    split at h
    · exact dropWhile_head h
    · next hy =>
      obtain ⟨rfl, _⟩ := List.cons.inj h
      exact eq_false_of_ne_true hy
theorem Full.cleaned {P : PP} {S : List (List Int)} {s : SV} (h : Full P S s) : Full P S s.clean := by
  have k := h.core
  refine ⟨⟨k.len, k.row, fun f hf => k.wait f (mem_of_dropWhile hf), k.bit, k.edge, fun e he o h0 hb => ?_, fun r hr hk => ?_, k.copy⟩, h.of, h.told⟩
  · rcases k.along e he o h0 hb with g | g
    · exact .inl g
    · rcases mem_dropWhile_or (p := s.bit) g with g | g
      · exact .inr g
      · exact .inl g
  · rcases k.base r hr hk with g | g
    · exact .inl g
    · rcases mem_dropWhile_or (p := s.bit) g with g | g
      · exact .inr g
      · exact .inl g
theorem fires_objs {P : PP} {S : List (List Int)} (hg : P.GoodS S) (hc : ClosedP P S) {r : RV} (hr : r ∈ P.rulesV) (hf : r.fired = true) : ∀ (l : List Int) {s : SV}, Core P S s → (∀ o ∈ l, o ∈ S.getD r.pivot.toNat []) →
    let t := l.foldl (fun s o => s.fire P r o) s
    Core P S t ∧ t.has = s.has ∧ t.rules = s.rules ∧ (∀ g ∈ s.edges, g ∈ t.edges) ∧ ∀ o ∈ l, t.told P r o
  | [], s, h, _ => ⟨h, rfl, rfl, fun _ hg => hg, fun _ he => by cases he⟩
  | o :: l, s, h, hs => by
    obtain ⟨k1, k2, k3, k4, k5⟩ := h.fire hg hc hr hf (hs o List.mem_cons_self)
    obtain ⟨j1, j2, j3, j4, j5⟩ := fires_objs hg hc hr hf l k1 fun q hq => hs q (List.mem_cons_of_mem _ hq)
    refine ⟨j1, j2.trans k2, j3.trans k3, fun g hg => j4 g (k4 g hg), fun q hq => ?_⟩
    rcases List.mem_cons.1 hq with rfl | hq
    · exact told_more j4 k5
    · exact j5 q hq
theorem fired_kinds {r : RV} (h : r.fired = true) : r.kind.toList ≠ bBase.toList ∧ r.kind.toList ≠ kCopy := by
  have hb := eq_of_beq bBase_list
  rw [hb]
  unfold RV.fired at h
  rw [Bool.or_eq_true, Bool.or_eq_true] at h
  rcases h with (h | h) | h <;> rw [eq_of_beq h] <;> decide
theorem rule_kinds {P : PP} (hw : P.Well) {r : RV} (hr : r ∈ P.rulesV) : r.kind.toList = bBase.toList ∨ r.kind.toList = kCopy ∨ r.fired = true := by
  obtain ⟨k, hk, rfl⟩ := List.mem_map.1 hr
  have hk := List.mem_range.1 hk
  have h0 := hw.2 k (P.stAt k) hk (stAt_some hk)
  unfold PP.ruleV
  cases h1 : (P.stAt k).isK kAddr with
  | true => exact .inl rfl
  | false =>
  cases h2 : (P.stAt k).isK kNew with
  | true => exact .inl rfl
  | false =>
  cases h3 : (P.stAt k).isK kFun with
  | true => exact .inl rfl
  | false =>
  cases h4 : (P.stAt k).isK kCall with
  | true =>
    refine .inr (.inr ?_)
    show RV.fired ⟨bCall, _, _, _, _⟩ = true
    have hb : bCall.toList = kCall := by decide +kernel
    unfold RV.fired
    simp only [hb]
    decide
  | false =>
    show _ ∨ (P.stAt k).kind.toList = kCopy ∨ RV.fired ⟨(P.stAt k).kind, _, _, _, _⟩ = true
    rcases kind_cases h0 with h | h | h | h | h | h | h
    · rw [h1] at h; cases h
    · exact .inr (.inl (eq_of_beq h))
    · have h := eq_of_beq h
      exact .inr (.inr (by unfold RV.fired; simp only [h]; decide))
    · have h := eq_of_beq h
      exact .inr (.inr (by unfold RV.fired; simp only [h]; decide))
    · rw [h2] at h; cases h
    · rw [h3] at h; cases h
    · rw [h4] at h; cases h
theorem Full.added {P : PP} {S : List (List Int)} {s : SV} (hg : P.GoodS S) (hc : ClosedP P S) (h : Full P S s) {r : RV} (hr : r ∈ P.rulesV) : Full P S (s.add P r) ∧ (s.add P r).has = s.has ∧ (s.add P r).rules = s.rules ++ [r] := by
  have hcore0 : r.kind.toList ≠ bBase.toList → r.kind.toList ≠ kCopy → Core P S { s with rules := s.rules ++ [r] } := fun n1 n2 =>
    ⟨h.core.len, h.core.row, h.core.wait, h.core.bit, h.core.edge, h.core.along, fun q hq hk => by
      rcases List.mem_append.1 hq with hq | hq
      · exact h.core.base q hq hk
      · obtain rfl := List.mem_singleton.1 hq
        exact absurd hk n1, fun q hq hk => by
      rcases List.mem_append.1 hq with hq | hq
      · exact h.core.copy q hq hk
      · obtain rfl := List.mem_singleton.1 hq
        exact absurd hk n2⟩
  have hof : ∀ q ∈ s.rules ++ [r], q ∈ P.rulesV := fun q hq => by
    rcases List.mem_append.1 hq with hq | hq
    · exact h.of q hq
    · obtain rfl := List.mem_singleton.1 hq
      exact hr
  unfold SV.add
  cases h1 : (r.kind.toList == bBase.toList) with
  | true =>
    have hb := eq_of_beq h1
    obtain ⟨k, hk, hrk⟩ := List.mem_map.1 hr
    have hk := List.mem_range.1 hk
    have ha := rule_a_in hg.1 hk
    have hba := hc.base k hk (by rw [hrk]; exact hb)
    rw [hrk] at ha hba
    have hnv := nodes_vars P
    refine ⟨⟨⟨h.core.len, h.core.row, fun f hf => ?_, h.core.bit, h.core.edge, fun e he o h0 hbt => (h.core.along e he o h0 hbt).imp id fun g => List.mem_append_left _ g, fun q hq hqk => ?_, fun q hq hqk => ?_⟩, hof, fun q hq hqf o h0 hbt => ?_⟩, rfl, rfl⟩
    · rcases List.mem_append.1 hf with hf | hf
      · exact h.core.wait f hf
      · obtain rfl := List.mem_singleton.1 hf
        exact ⟨⟨ha.1, by omega⟩, hba⟩
    · rcases List.mem_append.1 hq with hq | hq
      · exact (h.core.base q hq hqk).imp id fun g => List.mem_append_left _ g
      · obtain rfl := List.mem_singleton.1 hq
        exact .inr (List.mem_append_right _ (List.mem_singleton.2 rfl))
    · rcases List.mem_append.1 hq with hq | hq
      · exact h.core.copy q hq hqk
      · obtain rfl := List.mem_singleton.1 hq
        rw [hb, eq_of_beq bBase_list] at hqk
        exact absurd hqk (by decide)
    · rcases List.mem_append.1 hq with hq | hq
      · exact h.told q hq hqf o h0 hbt
      · obtain rfl := List.mem_singleton.1 hq
        exact absurd hb (fired_kinds hqf).1
  | false =>
  have n1 : r.kind.toList ≠ bBase.toList := fun e => by rw [e] at h1; simp at h1
  cases h2 : (r.kind.toList == kCopy) with
  | true =>
    have hb := eq_of_beq h2
    have hsnd : SndE P S (r.a, r.b) := sndE_of hg hc hr (by unfold PP.redges; rw [h2, cond_true]; exact List.mem_singleton.2 rfl)
    obtain ⟨t, ht⟩ : ∃ t : SV, t = { s with rules := s.rules ++ [r] } := ⟨_, rfl⟩
    have hin := edge_in t (r.a, r.b)
    have hcore1 : Core P S ({ s with rules := s.rules }.edge (r.a, r.b)) := h.core.edgeTo hsnd
    have e1 : (t.edge (r.a, r.b)).edges = (s.edge (r.a, r.b)).edges := by rw [ht]; unfold SV.edge; split <;> rfl
    have e2 : (t.edge (r.a, r.b)).wait = (s.edge (r.a, r.b)).wait := by rw [ht]; unfold SV.edge; split <;> rfl
    have e3 : (t.edge (r.a, r.b)).has = s.has := by rw [edge_has, ht]
    have e4 : (t.edge (r.a, r.b)).rules = s.rules ++ [r] := by rw [edge_rules, ht]
    have e5 : ∀ f, (t.edge (r.a, r.b)).bit f = s.bit f := bit_has e3
    have k := h.core.edgeTo hsnd
    have hmore : ∀ g ∈ s.edges, g ∈ (t.edge (r.a, r.b)).edges := fun g hg => by rw [e1]; exact edge_more hg
    rw [cond_false, cond_true, ← ht]
    refine ⟨⟨⟨by rw [e3]; exact h.core.len, by rw [e3]; exact h.core.row, fun f hf => by rw [e2] at hf; exact k.wait f hf, fun f hf h0 => by rw [e5] at hf; exact h.core.bit f hf h0, fun e he => by rw [e1] at he; exact k.edge e he, fun e he o h0 hbt => ?_, fun q hq hqk => ?_, fun q hq hqk => ?_⟩, fun q hq => by rw [e4] at hq; exact hof q hq, fun q hq hqf o h0 hbt => ?_⟩, e3, e4⟩
    · rw [e1] at he
      rw [e5] at hbt ⊢
      rw [e2]
      have := k.along e he o h0 (by rw [edge_bit]; exact hbt)
      rwa [edge_bit] at this
    · rw [e4] at hq
      rw [e5, e2]
      rcases List.mem_append.1 hq with hq | hq
      · have := k.base q (by rw [edge_rules]; exact hq) hqk
        rwa [edge_bit] at this
      · obtain rfl := List.mem_singleton.1 hq
        exact absurd hqk n1
    · rw [e4] at hq
      rcases List.mem_append.1 hq with hq | hq
      · exact (h.core.copy q hq hqk).imp id fun g => hmore _ g
      · obtain rfl := List.mem_singleton.1 hq
        exact hin
    · rw [e4] at hq
      rw [e5] at hbt
      rcases List.mem_append.1 hq with hq | hq
      · exact told_more hmore (h.told q hq hqf o h0 hbt)
      · obtain rfl := List.mem_singleton.1 hq
        exact absurd hb (fired_kinds hqf).2
  | false =>
  have n2 : r.kind.toList ≠ kCopy := fun e => by rw [e] at h2; simp at h2
  have hf : r.fired = true := by
    rcases rule_kinds hg.1 hr with g | g | g
    · exact absurd g n1
    · exact absurd g n2
    · exact g
  obtain ⟨k1, k2, k3, k4, k5⟩ := fires_objs hg hc hr hf (s.objs r.pivot) (hcore0 n1 n2) fun o ho => by
    obtain ⟨h0, hb⟩ := mem_objs.1 ho
    exact h.core.bit (r.pivot, o) hb h0
  rw [cond_false, cond_false]
  refine ⟨⟨k1, fun q hq => by rw [k3] at hq; exact hof q hq, fun q hq hqf o h0 hbt => ?_⟩, k2, k3⟩
  rw [k3] at hq
  rw [bit_has k2] at hbt
  rcases List.mem_append.1 hq with hq | hq
  · exact told_more k4 (h.told q hq hqf o h0 hbt)
  · obtain rfl := List.mem_singleton.1 hq
    exact k5 o (mem_objs.2 ⟨h0, hbt⟩)
end Go.Proofs.YtamblahkckaaaaaDoor
