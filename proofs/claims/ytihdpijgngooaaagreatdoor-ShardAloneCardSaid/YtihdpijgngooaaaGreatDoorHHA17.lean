/- Texts of one proof, put together: ZZYp E3 E4 E5 E6 ZZYq ZZYm ZZYn ZZYr ZW ZX ZY. -/
import Derived.Test.YtihdpijgngooaaaGreatDoorHHA03
import Derived.Test.YtihdpijgngooaaaGreatDoorHHA08
import Derived.Test.YtihdpijgngooaaaGreatDoorHHA10
import Derived.Test.YtihdpijgngooaaaGreatDoorHHA12
import Derived.Test.YtihdpijgngooaaaGreatDoorHHA13
import Derived.Test.YtihdpijgngooaaaGreatDoorHHA14
import Derived.Test.YtihdpijgngooaaaGreatDoorHHA16
import Derived.OwnWalk
import Derived.Test.YtihdpijgngooaaaGreatDoorHHA01
set_option linter.unusedSimpArgs false
set_option linter.unusedVariables false
namespace Go.Proofs.YtihdpijgngooaaaGreatDoor
open Go Go.RowKit
section
variable {P : Program} {ops : Array Oper} {X : Nat → Prop} {w0 : World} {Q : Act → World → Prop} {L : List Nat}
theorem Flow.par2j {listed : Array Bool} {C : World → Prop} {a : Act} (i j : Nat) (oi oj : Oper) (hoi : ops[i]? = some oi) (hoj : ops[j]? = some oj) (hij : i ≠ j)
    (hsi : ∀ cs b, oi.op ≠ .select cs b) (hsj : ∀ cs b, oj.op ≠ .select cs b) (hap : oi.apart ops oj = true)
    (r0 : (Region.ready .any ops listed == [i, j]) = true) (r1 : (Region.ready .any ops (listed.setIfInBounds i true) == [j]) = true) (r2 : (Region.ready .any ops (listed.setIfInBounds j true) == [i]) = true)
    (A B : Value → World → Prop) (D : Value → Value → World → Prop) (hC : ∀ w w', C w → Ext w w' → C w') (hA : ∀ v w w', A v w → Ext w w' → A v w') (hB : ∀ v w w', B v w → Ext w w' → B v w') (hD : ∀ u v w w', D u v w → Ext w w' → D u v w')
    (hi : ∀ w, C w → Keep X w0 w → does P ops oi a w (GenR w A)) (hj : ∀ w, C w → Keep X w0 w → does P ops oj a w (GenR w B))
    (hi2 : ∀ vi w, C w → A vi w → Keep X w0 w → does P ops oj a w (GenR w (D vi))) (hj2 : ∀ vj w, C w → B vj w → Keep X w0 w → does P ops oi a w (GenR w fun vi w' => D vi vj w'))
    (k : ∀ vi vj, (∃ w, D vi vj w) → Flow P ops w0 Q X L ((listed.setIfInBounds i true).setIfInBounds j true) (fun w => C w ∧ D vi vj w) ((a.put oi.dst vi).put oj.dst vj)) :
    Flow P ops w0 Q X L listed C a := by
  have hs := Oper.apart_spec hap
  refine Flow.acts [i, j] r0 (by simp) (fun n => if n = i then oi else oj) (fun n v w => C w ∧ if n = i then A v w else B v w) ?_ ?_ ?_
  · intro n v w w' ⟨h1, h2⟩ hx
    refine ⟨hC _ _ h1 hx, ?_⟩
    split
    · rename_i e; rw [if_pos e] at h2; exact hA _ _ _ h2 hx
    · rename_i e; rw [if_neg e] at h2; exact hB _ _ _ h2 hx
  · intro n hn
    rcases (by simpa using hn : n = i ∨ n = j) with rfl | rfl
    · refine ⟨by simpa using hoi, fun w h1 h2 => ?_⟩
      simp only [if_true]
      exact does_mono (hi w h1 h2) fun v w' ⟨hx, hv⟩ => ⟨h2.ext_r hx, hC _ _ h1 hx, by simpa using hv⟩
    · refine ⟨by simpa [Ne.symm hij] using hoj, fun w h1 h2 => ?_⟩
      simp only [Ne.symm hij, if_false]
      exact does_mono (hj w h1 h2) fun v w' ⟨hx, hv⟩ => ⟨h2.ext_r hx, hC _ _ h1 hx, by simpa [Ne.symm hij] using hv⟩
  · intro n hn v hv
    rcases (by simpa using hn : n = i ∨ n = j) with rfl | rfl
    · simp only [if_true] at hv ⊢
      refine Flow.acts [j] r1 (by simp) (fun _ => oj) (fun _ u w => C w ∧ D v u w) (fun _ u w w' ⟨h1, h2⟩ hx => ⟨hC _ _ h1 hx, hD _ _ _ _ h2 hx⟩) ?_ ?_
      · intro m hm
        obtain rfl : m = j := by simpa using hm
        refine ⟨hoj, fun w ⟨h1, h2⟩ h3 => ?_⟩
        rw [does_put hsj hs.1]
        exact does_mono (hi2 v w h1 h2 h3) fun u w' ⟨hx, hu⟩ => ⟨h3.ext_r hx, hC _ _ h1 hx, hu⟩
      · intro m hm u ⟨w2, _, hu⟩
        obtain rfl : m = j := by simpa using hm
        exact k v u ⟨w2, hu⟩
    · simp only [Ne.symm hij, if_false] at hv ⊢
      refine Flow.acts [i] r2 (by simp) (fun _ => oi) (fun _ u w => C w ∧ D u v w) (fun _ u w w' ⟨h1, h2⟩ hx => ⟨hC _ _ h1 hx, hD _ _ _ _ h2 hx⟩) ?_ ?_
      · intro m hm
        obtain rfl : m = i := by simpa using hm
        refine ⟨hoi, fun w ⟨h1, h2⟩ h3 => ?_⟩
        rw [does_put hsi hs.2.2]
        exact does_mono (hj2 v w h1 h2 h3) fun u w' ⟨hx, hu⟩ => ⟨h3.ext_r hx, hC _ _ h1 hx, hu⟩
      · intro m hm u ⟨w2, _, hu⟩
        obtain rfl : m = i := by simpa using hm
        have := k u v ⟨w2, hu⟩
        rw [Array.setIfInBounds_comm _ _ hij, Act.put_comm a u v hs.2.1] at this
        exact this
end
def NewM (w0 : World) (m : Nat) (w : World) : Prop := KMap Tryz.prog 3 (Value.int .i64) w m (fun _ => none) ∧ Stm w m ∧ w0.heap.size ≤ m
theorem NewM.ext {w0 w w' : World} {m : Nat} (h : NewM w0 m w) (x : Ext w w') : NewM w0 m w' := ⟨h.1.ext x, h.2.1.keep (x.keep fun _ => False) fun h => h, h.2.2⟩
theorem NewM.keep {w0 w w' : World} {m : Nat} {X : Nat → Prop} (h : NewM w0 m w) (k : Keep X w w') (hx : ¬ X m) : NewM w0 m w' := ⟨h.1.keep k hx, h.2.1.keep k hx, h.2.2⟩
theorem NewM.made {w0 w : World} (h : Ext w0 w) : NewM w0 w.heap.size (w.alloc (.map #[] 0)) := ⟨KMap.new _ _ _ _, Stm.new _, h.size⟩
structure MkS (w0 w : World) (g m1 m2 : Nat) (cs : Value → Array Value) (vf : Value) (fs : List F2) : Prop where
  ext : Ext w0 w
  blk : Blk w g (cs vf) 88
  map1 : NewM w0 m1 w
  map2 : NewM w0 m2 w
  gg : w0.heap.size ≤ g
  ne : m1 ≠ m2
  funs : w.ownsRow w0.heap.size 75 3 vf fs.length (fs.flatMap F2.cells)
  pars : ∀ x ∈ fs, IRow w0.heap.size w x.v x.f.params
section
variable {w0 w w' : World} {g m1 m2 : Nat} {cs : Value → Array Value} {vf : Value} {fs : List F2}
theorem MkS.xt (h : MkS w0 w g m1 m2 cs vf fs) (x : Ext w w') : MkS w0 w' g m1 m2 cs vf fs :=
  ⟨h.ext.trans x, h.blk.ext x, h.map1.ext x, h.map2.ext x, h.gg, h.ne, own_ext h.funs x, fun y hy => own_ext (h.pars y hy) x⟩
theorem MkS.push (h : MkS w0 w g m1 m2 cs vf fs) (hcs : ∀ u v, (cs u).setIfInBounds 1 v = cs v) (k : Keep (fun q => vf.ownBlock = some q) w w') {x : F2} {vf' : Value} (hr : w'.ownsRow w0.heap.size 75 3 vf' (fs.length + 1) (fs.flatMap F2.cells ++ x.cells)) (hx : IRow w0.heap.size w' x.v x.f.params) :
    MkS w0 (w'.setCell ⟨g, 1, none⟩ vf') g m1 m2 cs vf' (fs ++ [x]) := by
  have hX : ∀ {b : Nat}, vf.ownBlock = some b → ∃ c, Blk w b c 75 := fun hb => own_ty h.funs hb
  have hg : ¬ vf.ownBlock = some g := fun hb => by
    obtain ⟨c', hc⟩ := hX hb
    exact off_of hc (by decide) ⟨_, h.blk⟩
  have k1 := h.blk.keep k hg
  have kg : Keep (fun q => q = g) w' (w'.setCell ⟨g, 1, none⟩ vf') := (Keep.refl (fun q => q = g) w').set rfl _
  have kk : Keep (fun q => q = g ∨ vf.ownBlock = some q) w (w'.setCell ⟨g, 1, none⟩ vf') := (k.mono fun _ _ h => .inr h).set (.inl rfl) _
  have hoff : ∀ {e : TypeId}, 75 ≠ e → 88 ≠ e → ∀ b, (b = g ∨ vf.ownBlock = some b) → ¬ ∃ c, Blk w b c e := fun he1 he2 b hb => hb.elim (fun e => by rw [e]; exact off_of h.blk he2) fun hb => by
    obtain ⟨c', hc⟩ := hX hb
    exact off_of hc he1
  have hmap : ∀ {m : Nat}, NewM w0 m w → ¬ (m = g ∨ vf.ownBlock = some m) := fun hm hb => hb.elim (fun e => hm.1.not_blk (e ▸ h.blk)) fun hb => by
    obtain ⟨c', hc⟩ := hX hb
    exact hm.1.not_blk hc
  refine ⟨Keep.new h.ext kk fun b hb => hb.elim (fun e => e ▸ h.gg) fun e => (World.ownsRow.lt h.funs b e).1, ?_, h.map1.keep kk (hmap h.map1), h.map2.keep kk (hmap h.map2), h.gg, h.ne, ?_, fun y hy => ?_⟩
  · have := k1.set 1 vf'
    rwa [hcs] at this
  · rw [List.length_append, List.length_singleton, List.flatMap_append]
    have e : [x].flatMap F2.cells = x.cells := by simp
    rw [e]
    exact own_off hr kg fun b hb => by rw [hb]; exact off_of k1 (by decide)
  · rcases List.mem_append.1 hy with hy | hy
    · exact own_off (h.pars y hy) kk (hoff (by decide) (by decide))
    · rw [List.mem_singleton.1 hy]
      exact own_off hx kg fun b hb => by rw [hb]; exact off_of k1 (by decide)
end
theorem IntsF.ofRow {w : World} {F : Nat → Prop} {base : Nat} {v : Value} {l : List Int} (h : IRow base w v l) (hF : ∀ b, v.ownBlock = some b → F b) : IntsF w F v l := by
  rcases id h.2 with ⟨h1, h2⟩ | ⟨g', cap, cur, h1, h2, h3, h4, h5, _⟩
  · exact ⟨none, 0, by rw [h1, h2], by omega, by omega, fun h => by omega, fun y hy => by cases hy⟩
  · subst h1
    refine ⟨_, _, rfl, h4, by unfold maxLen at h5; omega, fun _ => ⟨_, rfl⟩, fun y hy h0 => ?_⟩
    obtain rfl := Option.some.inj hy
    refine ⟨hF _ rfl, fun i hi z hz => ?_⟩
    rw [Addr.add_lit, Nat.zero_add]
    exact own_i h hz
theorem IntsF.ofT {w : World} {F : Nat → Prop} {v : Value} {l : List Int} (h : IntsT w v l) (hF : ∀ b, IsInt w b → F b) : IntsF w F v l := by
  obtain ⟨⟨a, cap, h1, h2, h3, h4, h5⟩, hi⟩ := h
  exact ⟨a, cap, h1, h2, h3, h4, fun y hy h0 => ⟨hF _ (hi _ (by rw [h1, hy]; rfl)), (h5 y hy h0).2⟩⟩
theorem FunsF.ofRow {w : World} {F : Nat → Prop} {base : Nat} {v : Value} {fs : List F2} (h : w.ownsRow base 75 3 v fs.length (fs.flatMap F2.cells)) (hp : ∀ x ∈ fs, IntsF w F x.v x.f.params) (hF : ∀ b, v.ownBlock = some b → F b) : FunsF w F v (fs.map F2.f) := by
  rcases id h.2 with ⟨h1, h2⟩ | ⟨g', cap, cur, h1, h2, h3, h4, h5, _⟩
  · exact ⟨none, 0, by rw [h1, List.length_map, h2], by rw [List.length_map]; omega, by omega, fun h => by rw [List.length_map] at h; omega, fun y hy => by cases hy⟩
  · subst h1
    refine ⟨_, _, by rw [List.length_map], by rw [List.length_map]; exact h4, by unfold maxLen at h5; omega, fun _ => ⟨_, rfl⟩, fun y hy h0 => ?_⟩
    obtain rfl := Option.some.inj hy
    refine ⟨hF _ rfl, fun i hi f hf => ?_⟩
    rw [List.getElem?_map] at hf
    obtain ⟨x, hx, rfl⟩ := Option.map_eq_some_iff.1 hf
    have c : ∀ j u, x.cells[j]? = some u → j < 3 → w.cell? ⟨g', i * 3 + j, none⟩ = some u := fun j u hu hj => own_get h _ ((fm_get F2.cells 3 F2.cells_len fs i j x hx hj).trans hu)
    rw [Addr.add_lit, Nat.zero_add, Addr.add_lit, Addr.add_lit]
    exact ⟨x.v, c 0 _ rfl (by omega), c 1 _ rfl (by omega), c 2 _ rfl (by omega), hp x (List.mem_of_getElem? hx)⟩
theorem MkS.sh {w w0 wr : World} {g m1 m2 : Nat} {vv vs vr vf : Value} {P : PP} {me k : Nat} {fs : List F2} {rs : List R2} (h : MkS w0 wr g m1 m2 (fun vf => shCells ⟨P, me, k, vv, vf, vs, vr, rs⟩ m1 m2 (.slice none 0 0) (.slice none 0 0)) vf fs) (hx : Ext w w0) (hf : fs.map F2.f = P.funs) (hw : P.Well) (hr : RulesT wr w.heap.size vr P.rulesV rs) (hrl : ∀ b, vr.ownBlock = some b → b < w0.heap.size) (hm : me < k ∧ k ≤ 6) :
    ShAt wr (fun b => IsInt wr b ∨ (w.heap.size ≤ b ∧ b < wr.heap.size ∧ b ≠ g ∧ b ≠ m1 ∧ b ≠ m2)) (fun b => b < wr.heap.size ∧ b ≠ g ∧ b ≠ m1 ∧ b ≠ m2) g ⟨P, me, k, vv, vf, vs, vr, rs⟩ SH.none := by
  have hs := hx.size
  have hs2 := h.ext.size
  have nb : ∀ {b : Nat} {cs : Array Value} {e : TypeId}, Blk wr b cs e → e ≠ 88 → b ≠ g ∧ b ≠ m1 ∧ b ≠ m2 := fun hb he => ⟨fun e => off_of hb he ⟨_, e ▸ h.blk⟩, fun e => h.map1.1.not_blk (e ▸ hb), fun e => h.map2.1.not_blk (e ▸ hb)⟩
  have ib : ∀ {b : Nat}, IsInt wr b → b ≠ g ∧ b ≠ m1 ∧ b ≠ m2 := fun {b} hb => ⟨fun e => by
    obtain ⟨c', z, hz⟩ := hb
    have := (e ▸ h.blk : Blk wr b _ _).symm.trans hz
    simp at this, fun e => h.map1.1.not_int (e ▸ hb), fun e => h.map2.1.not_int (e ▸ hb)⟩
  refine ⟨m1, m2, fun _ => none, fun _ => none, .slice none 0 0, .slice none 0 0, [], [], h.blk, fun b hb hF => ?_, fun b hb => ?_, fun b hb => hb.1, ⟨hw, ?_, own_low hr.row (Nat.zero_le _), hr.eq, fun b hb => ?_, fun x hx => IntsF.ofT (hr.args x hx) fun b hb => .inl hb, hm⟩, ⟨h.map1.1, fun q ⟨_, hq⟩ => (by cases hq), fun n => .inl ⟨rfl, fun o ho => (by cases ho)⟩, fun _ _ _ _ hq => (by cases hq)⟩, ⟨h.map2.1, fun q ⟨_, hq⟩ => (by cases hq), fun n => .inl ⟨rfl, fun o ho => (by cases ho)⟩, fun _ _ _ _ hq => (by cases hq)⟩, h.ne, fun q ⟨_, hq⟩ => (by cases hq), fun q ⟨_, hq⟩ => (by cases hq), OwnsQ.nil _ _ _ _, rfl, fun _ hx => (by cases hx), OwnsQ.nil _ _ _ _, rfl, fun _ hx => (by cases hx), fun _ hb => (by cases hb)⟩
  · rcases hb with rfl | rfl | rfl | ⟨_, hq⟩ | ⟨_, hq⟩ | hq | hq
    · exact hF.2.1 rfl
    · exact hF.2.2.1 rfl
    · exact hF.2.2.2 rfl
    · cases hq
    · cases hq
    · cases hq
    · cases hq
  · rcases hb with hb | hb
    · exact ⟨hb.lt, ib hb⟩
    · exact hb.2
  · have h1 := FunsF.ofRow (F := fun b => IsInt wr b ∨ (w.heap.size ≤ b ∧ b < wr.heap.size ∧ b ≠ g ∧ b ≠ m1 ∧ b ≠ m2)) h.funs (fun x hx => IntsF.ofRow (h.pars x hx) fun b hb => by
      obtain ⟨c', hc⟩ := own_ty (h.pars x hx) hb
      exact .inl ⟨_, _, hc⟩) fun b hb => by
        obtain ⟨c', hc⟩ := own_ty h.funs hb
        have := World.ownsRow.lt h.funs b hb
        exact .inr ⟨by omega, this.2, nb hc (by decide)⟩
    rw [hf] at h1
    exact h1
  · have h1 := World.ownsRow.lt hr.row b hb
    obtain ⟨c', hc⟩ := own_ty hr.row hb
    exact .inr ⟨h1.1, h1.2, nb hc (by decide)⟩
theorem ext_take {α : Type} {a b : List α} (hl : a.length = b.length) (h : ∀ j, j < a.length → a[j]? = b[j]?) : a = b :=
  List.ext_getElem? fun i => by
    by_cases hi : i < a.length
    · exact h i hi
    · rw [List.getElem?_eq_none (by omega), List.getElem?_eq_none (by omega)]
theorem Made.put {w : World} {base g cap N : Nat} {vs : List Value} {L : List (List Int)} {n : Nat} {v : Value} {l : List Int} (hr : w.ownsRow base 43 1 (.slice (some ⟨g, 0, none⟩) N cap) N vs) (hm : Made w vs L) (hL : L.length = N) (hv : IntsT w v l) (hn : n < N) :
    (w.setCell ⟨g, n, none⟩ v).ownsRow base 43 1 (.slice (some ⟨g, 0, none⟩) N cap) N (vs.set n v) ∧ Made (w.setCell ⟨g, n, none⟩ v) (vs.set n v) (L.set n l) ∧ Keep (fun q => q = g) w (w.setCell ⟨g, n, none⟩ v) := by
  have k : Keep (fun q => q = g) w (w.setCell ⟨g, n, none⟩ v) := Keep.set (X := fun q => q = g) (Keep.refl _ _) rfl _
  have hni : ∀ b, b = g → ¬ IsInt w b := fun b e => by
    subst e
    obtain ⟨c, hc⟩ := own_ty hr (k := b) rfl
    exact notInt hc (by decide)
  have hvs := hm.1
  refine ⟨own_set hr n (by omega) v, ⟨by rw [List.length_set, List.length_set]; exact hvs, fun i u m hu hl => ?_⟩, k⟩
  by_cases hi : n = i
  · subst hi
    rw [List.getElem?_set_self (by omega)] at hu hl
    obtain rfl := Option.some.inj hu
    obtain rfl := Option.some.inj hl
    exact hv.keep k hni
  · rw [List.getElem?_set_ne hi] at hu hl
    exact (hm.2 i u m hu hl).keep k hni
theorem Made.one {w : World} {base g cap N : Nat} {vs : List Value} {S : List (List Int)} (hr : w.ownsRow base 43 1 (.slice (some ⟨g, 0, none⟩) N cap) N vs) (hm : Made w vs S) (hL : S.length = N) {n : Nat} (hn : n < N) : ∃ a c, w.cell? ⟨g, n, none⟩ = some (.slice a (S.getD n []).length c) ∧ IntsR w w.heap.size (.slice a (S.getD n []).length c) (S.getD n []) := by
  have hvs := hm.1
  have h1 : vs[n]? = some (vs[n]'(by omega)) := List.getElem?_eq_getElem (by omega)
  have h2 : S[n]? = some (S[n]'(by omega)) := List.getElem?_eq_getElem (by omega)
  have hT := hm.2 n _ _ h1 h2
  obtain ⟨a, c, ha⟩ := hT.form
  have e : S.getD n [] = S[n]'(by omega) := by rw [List.getD_eq_getElem?_getD, h2]; rfl
  rw [e]
  rw [ha] at h1
  exact ⟨a, c, own_get hr n h1, by rw [← ha]; exact hT.1⟩
theorem first_of {p : Nat → Prop} : ∀ n, p n → ∃ m, p m ∧ ∀ k, k < m → ¬ p k := fun n => by
  induction n using Nat.strongRecOn with
  | _ n ih =>
    intro hn
    rcases Classical.em (∃ k, k < n ∧ p k) with ⟨k, hk, hp⟩ | h
    · exact ih k hk hp
    · exact ⟨n, hn, fun k hk hp => h ⟨k, hk, hp⟩⟩
theorem iter_total {P : PP} (hw : P.Well) : ∀ n, (∀ m, m < n → P.roundV (P.iterV m) ≠ P.iterV m) → n ≤ total (P.iterV n)
  | 0, _ => Nat.zero_le _
  | n + 1, h => by
    have h1 := iter_total hw n fun m hm => h m (by omega)
    have h2 := iter_grows hw n (h n (by omega))
    omega
theorem least_exists {P : PP} (hw : P.Well) : ∃ n S, LeastAt P n S := by
  have h : ∃ n, P.roundV (P.iterV n) = P.iterV n := by
    rcases Classical.em (∃ n, P.roundV (P.iterV n) = P.iterV n) with h | h
    · exact h
    · have h1 := iter_total hw 200000 fun m _ e => h ⟨m, e⟩
      have h2 := iter_few hw 200000
      omega
  obtain ⟨n, hn⟩ := h
  obtain ⟨m, hm, hf⟩ := first_of (p := fun n => P.roundV (P.iterV n) = P.iterV n) n hn
  exact ⟨m, P.iterV m, rfl, hm, hf⟩
theorem LeastAt.few {P : PP} (hw : P.Well) {n : Nat} {S : List (List Int)} (h : LeastAt P n S) : n ≤ 120000 := by
  have h1 := iter_total hw n fun m hm => h.first m hm
  have h2 := iter_few hw n
  omega
theorem made_nil (w : World) (N : Nat) : Made w (List.replicate N (.slice none 0 0)) (List.replicate N []) := by
  refine ⟨by simp, fun i v l hv hl => ?_⟩
  obtain rfl := List.eq_of_mem_replicate (List.mem_of_getElem? hv)
  obtain rfl := List.eq_of_mem_replicate (List.mem_of_getElem? hl)
  exact IntsT.nil w
theorem setok_few {l : List Int} (h : chkE l = 0) (i : Nat) : l.getD i 0 ≤ 9223372036854775807 := by
  rw [List.getD_eq_getElem?_getD]
  cases hx : l[i]? with
  | none => exact (by decide : (0 : Int) ≤ 9223372036854775807)
  | some x =>
    have := (chkE_zero.1 h).1 x (List.mem_of_getElem? hx)
    show x ≤ _
    omega
set_option maxRecDepth 100000 in
set_option maxHeartbeats 1600000 in
theorem samesets_any (va vb : Value) (A B : List (List Int)) (w : World) (n0 : Nat) (ha : SetsR w n0 va A) (hb : SetsR w n0 vb B) (ka : ∀ l ∈ A, chkE l = 0) (kb : ∀ l ∈ B, chkE l = 0) :
    Calls Tryz.prog 41 #[va, vb] w fun e w' => e = .returned (.bool (decide (A = B))) ∧ Ext w w' := by
  have hal := ha.len
  have hbl := hb.len
  have HA := hid ha
  have HB := hid hb
  have HKa := hid ka
  have HKb := hid kb
  obtain ⟨aa, ca, rfl⟩ := ha.form
  obtain ⟨ab, cb, rfl⟩ := hb.form
  clear ha hb ka kb
  by_cases hl : A.length = B.length
  · have Hl := hid hl
    have e0 : ((A.length : Int) != (B.length : Int)) = false := by rw [hl]; simp
    clear hl
    go_enter Tryz.func41, Tryz.ntmps41
    go_wp2
    clear e0
    go_loopw [5] (fun t5 wr => ∃ k : Nat, t5 = .int .i64 (k : Int) ∧ k ≤ A.length ∧ (∀ j, j < k → A[j]? = B[j]?) ∧ Ext w wr) (fun t5 _ => A.length - (intOf t5).toNat)
    case atStart => exact ⟨0, rfl, Nat.zero_le _, fun j h => by omega, Ext.refl _⟩
    case round =>
      obtain ⟨k, rfl, hk, hp, hx⟩ := hrel
      have Hp := hid hp
      have Hx := hid hx
      clear hp hx
      by_cases hlt : k < A.length
      · have hlt2 : k < B.length := by rw [← Hl.out]; exact hlt
        obtain ⟨ya, l, bl, cl, hya, hpk, hcp, hI⟩ := (HA.out.ext Hx.out).at hlt
        subst hya
        obtain ⟨yb, m, bm, cm, hyb, hqk, hcq, hI'⟩ := (HB.out.ext Hx.out).at hlt2
        subst hyb
        have hll := hI.len
        have hml := hI'.len
        have HC := fun w1 (x : Ext wr w1) => hid (sameints_any bl bm l.length m.length cl cm l m w1 (IntsR.ints (hI.old (x.old _)) (setok_few (HKa.out l (List.mem_of_getElem? hpk)))) (IntsR.ints (hI'.old (x.old _)) (setok_few (HKb.out m (List.mem_of_getElem? hqk)))) hll hml)
        have c0 : ∀ w1, Keep (fun _ => False) wr w1 → w1.cell? (ya.add k) = some (.slice bl l.length cl) := fun w1 k => k.ext.cellx hcp
        have c1 : ∀ w1, Keep (fun _ => False) wr w1 → w1.cell? (yb.add k) = some (.slice bm m.length cm) := fun w1 k => k.ext.cellx hcq
        obtain ⟨d, hd⟩ : ∃ d, d = decide (l = m) := ⟨_, rfl⟩
        rw [← hd] at HC
        have Hd := hid hd
        have Hpk := hid hpk
        have Hqk := hid hqk
        clear hpk hqk hI hI' hd hcp hcq
        go_wp2
        refine wp_flowT (fun _ => False) (by kernel_rfl) (by kernel_rfl) ?_
        repeat (apply FlowT.d; (intro w1 hk; unfold does; go_simp; (try go_ints); (first | exact DetR.mk | (simp only [↓IntWalk.iteOmega, Oper.doesUpon_value]; exact DetR.mk) | (simp only [↓IntWalk.iteOmega]; go_simp; (try go_ints); exact DetR.mk))); simp only [Act.put, qS0, qS1, qS2])
        apply FlowT.d
        · intro w1 hk
          unfold does
          go_simp
          exact CallR.det ((HC w1 hk.ext).out)
        simp only [Act.put, qS0, qS1, qS2]
        repeat (apply FlowT.d; (intro w1 hk; unfold does; go_simp; (try go_ints); (first | exact DetR.mk | (simp only [↓IntWalk.iteOmega, Oper.doesUpon_value]; exact DetR.mk) | (simp only [↓IntWalk.iteOmega]; go_simp; (try go_ints); exact DetR.mk))); simp only [Act.put, qS0, qS1, qS2])
        refine FlowT.fin fun w1 hx1 hk1 => ?_
        have Hx1 := hid (Hx.out.trans hx1)
        clear HC hx1 hk1 c0 c1
        cases d with
        | true =>
          have He : Hid (l = m) := hid (of_decide_eq_true Hd.out.symm)
          go_wp2
          go_roundw
          case rel =>
            refine ⟨k + 1, by go_num, by omega, fun j hj => ?_, Hx1.out⟩
            by_cases hjk : j = k
            · subst hjk; rw [Hpk.out, Hqk.out, He.out]
            · exact Hp.out j (by omega)
          case measure => simp [intOf]; omega
        | false =>
          have Hne : Hid (decide (A = B) = false) := hid (decide_eq_false fun h => (of_decide_eq_false Hd.out.symm) (by
            have h1 := Hpk.out
            rw [h] at h1
            exact Option.some.inj (h1.symm.trans Hqk.out)))
          go_wp2
          go_ret
          exact ⟨by rw [Hne.out]; rfl, Hx1.out⟩
      · have Heq : Hid (decide (A = B) = true) := hid (decide_eq_true (ext_take Hl.out fun j hj => Hp.out j (by omega)))
        obtain rfl : k = A.length := by omega
        go_wp2
        go_ret
        exact ⟨by rw [Heq.out]; rfl, Hx.out⟩
  · have e0 : ((A.length : Int) != (B.length : Int)) = true := bne_iff_ne.2 (fun h => hl (Int.ofNat_inj.1 h))
    have Hne : Hid (decide (A = B) = false) := hid (decide_eq_false fun h => hl (by rw [h]))
    clear hl
    go_enter Tryz.func41, Tryz.ntmps41
    go_wp2
    go_ret
    exact ⟨by rw [Hne.out]; rfl, Ext.refl _⟩
def fixedP : PP := ⟨[⟨#[97]⟩, ⟨#[98]⟩], [], [⟨⟨#[97, 100, 100, 114]⟩, 0, 1, []⟩, ⟨⟨#[99, 111, 112, 121]⟩, 1, 0, []⟩]⟩
theorem fixed_well : fixedP.Well := by
  refine ⟨by decide +kernel, fun j t hj ht => ?_⟩
  have hj2 : j < 2 := hj
  rcases (by omega : j = 0 ∨ j = 1) with rfl | rfl
  · obtain rfl := Option.some.inj ht
    decide +kernel
  · obtain rfl := Option.some.inj ht
    decide +kernel
theorem fixed_least : LeastAt fixedP 2 [[1], [1]] := by
  refine ⟨by decide +kernel, by decide +kernel, fun m hm => ?_⟩
  rcases (by omega : m = 0 ∨ m = 1) with rfl | rfl <;> decide +kernel
theorem fixed_nodes : fixedP.nodesV = 2 := by decide +kernel
def fixedS : Array Value := #[.string ⟨#[97, 100, 100, 114]⟩, .int .i64 0, .int .i64 1, .slice none 0 0, .string ⟨#[99, 111, 112, 121]⟩, .int .i64 1, .int .i64 0, .slice none 0 0]
theorem fixed_prog {w : World} {a b n0 : Nat} (ha : Blk w a #[.string ⟨#[97]⟩, .string ⟨#[98]⟩] 9) (hb : Blk w b fixedS 73) (h1 : a < n0) (h2 : b < n0) : ProgR w n0 (.slice (some ⟨a, 0, none⟩) 2 2) (.slice none 0 0) (.slice (some ⟨b, 0, none⟩) 2 2) fixedP := by
  refine ⟨⟨_, 2, rfl, by decide, by decide, fun _ => ⟨_, rfl⟩, fun y hy _ => ?_⟩, ⟨_, 0, rfl, by decide, by decide, fun h => absurd h (by decide), fun y hy => by cases hy⟩, ⟨_, 2, rfl, by decide, by decide, fun _ => ⟨_, rfl⟩, fun y hy _ => ?_⟩⟩
  · obtain rfl := Option.some.inj hy
    refine ⟨h1, fun i hi s hs => ?_⟩
    have hi2 : i < 2 := hi
    rcases (by omega : i = 0 ∨ i = 1) with rfl | rfl
    · obtain rfl := Option.some.inj hs
      exact ha.av 0 rfl
    · obtain rfl := Option.some.inj hs
      exact ha.av 1 rfl
  · obtain rfl := Option.some.inj hy
    refine ⟨h2, fun i hi s hs => ?_⟩
    have hi2 : i < 2 := hi
    have hn : IntsR w n0 (.slice none 0 0) [] := ⟨none, 0, rfl, by decide, by decide, fun h => absurd h (by decide), fun y hy => by cases hy⟩
    rcases (by omega : i = 0 ∨ i = 1) with rfl | rfl
    · obtain rfl := Option.some.inj hs
      exact ⟨.slice none 0 0, hb.av 0 rfl, hb.av 1 rfl, hb.av 2 rfl, hb.av 3 rfl, hn⟩
    · obtain rfl := Option.some.inj hs
      exact ⟨.slice none 0 0, hb.av 4 rfl, hb.av 5 rfl, hb.av 6 rfl, hb.av 7 rfl, hn⟩
theorem IsInt.back {w w' : World} {b : Nat} (h : IsInt w' b) (x : Ext w w') (hb : b < w.heap.size) : IsInt w b := by
  obtain ⟨c, z, hz⟩ := h
  obtain ⟨o, ho⟩ : ∃ o, w.heap[b]? = some o := ⟨_, Array.getElem?_eq_getElem hb⟩
  have := (Ext.get x ho).symm.trans hz
  exact ⟨c, z, ho.trans this⟩
def NewV (w0 : World) (v : Value) (w : World) : Prop := ∃ m, v = .map (some m) ∧ NewM w0 m w
theorem NewV.ext {w0 w w' : World} {v : Value} (h : NewV w0 v w) (x : Ext w w') : NewV w0 v w' := by
  obtain ⟨m, h1, h2⟩ := h
  exact ⟨m, h1, h2.ext x⟩
theorem NewV.made {w0 w : World} (h : Ext w0 w) : NewV w0 (.map (some w.heap.size)) (w.alloc (.map #[] 0)) := ⟨_, rfl, NewM.made h⟩
def NewVV (w0 : World) (u v : Value) (w : World) : Prop := ∃ m1 m2, u = .map (some m1) ∧ v = .map (some m2) ∧ m1 ≠ m2 ∧ NewM w0 m1 w ∧ NewM w0 m2 w
theorem NewVV.ext {w0 w w' : World} {u v : Value} (h : NewVV w0 u v w) (x : Ext w w') : NewVV w0 u v w' := by
  obtain ⟨m1, m2, h1, h2, h3, h4, h5⟩ := h
  exact ⟨m1, m2, h1, h2, h3, h4.ext x, h5.ext x⟩
theorem NewV.two {w0 w : World} {u : Value} (h : NewV w0 u w) (x : Ext w0 w) : NewVV w0 u (.map (some w.heap.size)) (w.alloc (.map #[] 0)) ∧ NewVV w0 (.map (some w.heap.size)) u (w.alloc (.map #[] 0)) := by
  obtain ⟨m, rfl, hM⟩ := h
  have hlt := hM.1.lt
  exact ⟨⟨m, _, rfl, rfl, by omega, hM.ext ((Ext.refl _).alloc _), NewM.made x⟩, ⟨_, m, rfl, rfl, by omega, NewM.made x, hM.ext ((Ext.refl _).alloc _)⟩⟩
def NewBox (w0 : World) (m1 m2 : Nat) (cs : Array Value) (v : Value) (w : World) : Prop := ∃ g, v = .pointer (some ⟨g, 0, none⟩) ∧ Blk w g cs 88 ∧ w0.heap.size ≤ g ∧ NewM w0 m1 w ∧ NewM w0 m2 w ∧ Ext w0 w
theorem NewBox.ext {w0 w w' : World} {m1 m2 : Nat} {cs : Array Value} {v : Value} (h : NewBox w0 m1 m2 cs v w) (x : Ext w w') : NewBox w0 m1 m2 cs v w' := by
  obtain ⟨g, h1, h2, h3, h4, h5, h6⟩ := h
  exact ⟨g, h1, h2.ext x, h3, h4.ext x, h5.ext x, h6.trans x⟩
theorem NewBox.made {w0 w : World} {m1 m2 : Nat} (h : Ext w0 w) (h1 : NewM w0 m1 w) (h2 : NewM w0 m2 w) (cs : Array Value) : NewBox w0 m1 m2 cs (.pointer (some ⟨w.heap.size, 0, none⟩)) (w.alloc (.cells cs 88)) :=
  ⟨_, rfl, Blk.new _ _ _, h.size, h1.ext ((Ext.refl _).alloc _), h2.ext ((Ext.refl _).alloc _), h.alloc _⟩
def NewSh (P : PP) (me kk : Nat) (w w' : World) (e : Ending) : Prop :=
  ∃ (g : Nat) (c : SC) (G F : Nat → Prop) (u : Value) (t : SH) (os : List N2), e = .returned (.tuple #[.pointer (some ⟨g, 0, none⟩), u, .nilIface]) ∧ c.P = P ∧ c.me = me ∧ c.k = kk ∧ Runs P (me : Nat) (kk : Nat) (SH.start P (me : Nat) (kk : Nat)) t ∧ t.todo = [] ∧ ShAt w' G F g c { t with out := [] } ∧ NotesR w' F u t.out os ∧ (∀ b, b < w.heap.size → F b) ∧ (∀ b, IsInt w' b → F b) ∧ (∀ b, G b → IsInt w b ∨ w.heap.size ≤ b) ∧ Ext w w'
set_option maxRecDepth 100000 in
set_option maxHeartbeats 12800000 in
theorem shardnew_yes (a1 a2 a3 : Option Addr) (c1 c2 c3 : Nat) (P : PP) (me kk : Nat) (w : World) (n0 : Nat) (ad : Nat → Addr) (h : PW w n0 ad a1 a2 a3 c1 c2 c3 P) (hn0 : n0 ≤ w.heap.size) (hm : me < kk ∧ kk ≤ 6) :
    Calls Tryz.prog 11 #[pval a1 a2 a3 c1 c2 c3 P, .int .i64 (me : Int), .int .i64 (kk : Int)] w fun e w' => NewSh P me kk w w' e := by
  obtain ⟨hf1, hf2, hf3⟩ := h.well.few
  obtain ⟨hnn, hoo⟩ := h.well.nodes
  obtain ⟨W, hW⟩ : ∃ W, W = w.alloc (.cells (pcells a1 a2 a3 c1 c2 c3 P) 26) := ⟨_, rfl⟩
  have HX : Hid (Ext w W) := hid (by rw [hW]; exact (Ext.refl _).alloc _)
  have HBx : Hid (Blk W w.heap.size (pcells a1 a2 a3 c1 c2 c3 P) 26) := hid (by rw [hW]; exact Blk.new _ _ _)
  have HWe : Hid (W = w.alloc (.cells #[.slice a1 P.vars.length c1, .slice a2 P.funs.length c2, .slice a3 P.stmts.length c3] 26)) := hid (by rw [hW]; rfl)
  have HPW := hid (h.ext HX.out)
  have Hwl := hid h.well
  have HC := hid (consof_yes a1 a2 a3 c1 c2 c3 P W n0 ad HPW.out)
  have Hn0 := hid (Nat.le_trans hn0 HX.out.size)
  have d0 := HBx.out.av 0 rfl
  have d1 := HBx.out.av 1 rfl
  have d2 := HBx.out.av 2 rfl
  simp only [pcells, qA0, qA1, qA2] at d0 d1 d2
  rw [HWe.out] at d0 d1 d2
  have Hm := hid hm
  have i1 : decide ((kk : Int) < 1) = false := decide_eq_false (by omega)
  have i2 : decide ((6 : Int) < (kk : Int)) = false := decide_eq_false (by omega)
  have i3 : decide ((me : Int) < 0) = false := decide_eq_false (by omega)
  have i4 : decide ((kk : Int) ≤ (me : Int)) = false := decide_eq_false (by omega)
  have j1 : (kk = 0) = False := by simp; omega
  have j2 : (6 < kk) = False := by simp; omega
  have j3 : (kk ≤ me) = False := by simp; omega
  have j4 : ((kk : Int) < 1) = False := by simp; omega
  have j5 : ((6 : Int) < (kk : Int)) = False := by simp; omega
  unfold pval at HC ⊢
  clear hW h hn0 hm
  go_enter Tryz.func11, Tryz.ntmps11
  go_wp2_with fail
  rw [← HWe.out]
  refine HC.out.mono ?_
  intro e w1 hx
  obtain ⟨v, rs, rfl, hi, hx1⟩ := hx
  obtain ⟨av, cv, rfl⟩ := row_form hi.row
  have HI := hid hi
  have Hx1 := hid hx1
  clear HC hi hx1 d0 d1 d2
  have d0 := (HBx.out.ext Hx1.out).kc (X := fun _ => False) (fun e => e) 0 rfl
  have d1 := (HBx.out.ext Hx1.out).kc (X := fun _ => False) (fun e => e) 1 rfl
  have d2 := (HBx.out.ext Hx1.out).kc (X := fun _ => False) (fun e => e) 2 rfl
  simp only [pcells, qA0, qA1, qA2] at d0 d1 d2
  have HNo := fun w3 (x : Ext w1 w3) => hid (prognodes_any a1 a2 a3 c1 c2 c3 P w3 n0 ad (HPW.out.ext (Hx1.out.trans x)).errs (HPW.out.ext (Hx1.out.trans x)).prog HPW.out.z1 HPW.out.z2 HPW.out.well)
  have HOb := fun w3 (x : Ext w1 w3) => hid (progobjects_any a1 a2 a3 c1 c2 c3 P w3 n0 ad (HPW.out.ext (Hx1.out.trans x)))
  unfold pval at HNo HOb
  have hmm := @run_makeMap Tryz.prog
  go_wp2
  refine wp_flow (fun _ => False) (by kernel_rfl) (by kernel_rfl) ?_
  apply Flow.d 0 _ rfl (by simp) (by kernel_rfl)
  · intro w1 hk; unfold does; go_simp; (try go_ints); exact DetR.mk
  simp only [qA0, qA1, qA2, Act.put, qS0, qS1, qS2]
  apply Flow.d 1 _ rfl (by simp) (by kernel_rfl)
  · intro w1 hk; unfold does; go_simp; (try go_ints); exact DetR.mk
  simp only [qA0, qA1, qA2, Act.put, qS0, qS1, qS2]
  apply Flow.d 2 _ rfl (by simp) (by kernel_rfl)
  · intro w1 hk; unfold does; go_simp; (try go_ints); exact DetR.mk
  simp only [qA0, qA1, qA2, Act.put, qS0, qS1, qS2]
  apply Flow.d 3 _ rfl (by simp) (by kernel_rfl)
  · intro w1 hk; unfold does; go_simp; (try go_ints); exact DetR.mk
  simp only [qA0, qA1, qA2, Act.put, qS0, qS1, qS2]
  apply Flow.d 4 _ rfl (by simp) (by kernel_rfl)
  · intro w1 hk; unfold does; go_simp; (try go_ints); exact DetR.mk
  simp only [qA0, qA1, qA2, Act.put, qS0, qS1, qS2]
  apply Flow.d 5 _ rfl (by simp) (by kernel_rfl)
  · intro w3 hk
    unfold does
    go_simp
    exact CallR.det (HNo w3 hk.ext).out
  simp only [qA0, qA1, qA2, Act.put, qS0, qS1, qS2]
  apply Flow.d 6 _ rfl (by simp) (by kernel_rfl)
  · intro w1 hk; unfold does; go_simp; (try go_ints); exact DetR.mk
  simp only [qA0, qA1, qA2, Act.put, qS0, qS1, qS2]
  apply Flow.d 7 _ rfl (by simp) (by kernel_rfl)
  · intro w3 hk
    unfold does
    go_simp
    exact CallR.det (HOb w3 hk.ext).out
  simp only [qA0, qA1, qA2, Act.put, qS0, qS1, qS2]
  refine Flow.par2j 8 9 _ _ rfl rfl (by decide) (fun _ _ h => by cases h) (fun _ _ h => by cases h) (by kernel_rfl) (by kernel_rfl) (by kernel_rfl) (by kernel_rfl)
    (NewV w1) (NewV w1) (NewVV w1) (fun _ _ h x => h.trans x) (fun _ _ _ h x => h.ext x) (fun _ _ _ h x => h.ext x) (fun _ _ _ _ h x => h.ext x) ?_ ?_ ?_ ?_ ?_
  · intro w3 hC hk
    unfold does
    go_simp
    exact ⟨(Ext.refl _).alloc _, NewV.made hC⟩
  · intro w3 hC hk
    unfold does
    go_simp
    exact ⟨(Ext.refl _).alloc _, NewV.made hC⟩
  · intro vi w3 hC hA hk
    unfold does
    go_simp
    exact ⟨(Ext.refl _).alloc _, (hA.two hC).1⟩
  · intro vi w3 hC hA hk
    unfold does
    go_simp
    exact ⟨(Ext.refl _).alloc _, (hA.two hC).2⟩
  rintro _ _ ⟨_, m1, m2, rfl, rfl, hm12, _⟩
  simp only [qA0, qA1, qA2, Act.put, qS0, qS1, qS2]
  apply Flow.d 10 _ rfl (by simp) (by kernel_rfl)
  · intro w1 hk; unfold does; go_simp; (try go_ints); exact DetR.mk
  simp only [qA0, qA1, qA2, Act.put, qS0, qS1, qS2]
  refine Flow.one 11 _ rfl (by kernel_rfl) (NewBox w1 m1 m2 #[.slice a1 P.vars.length c1, .slice a2 P.funs.length c2, .slice a3 P.stmts.length c3, .slice av P.rulesV.length cv, .int .i64 (me : Int), .int .i64 (kk : Int), .int .i64 (P.nodesV : Int), .int .i64 (P.objectsV : Int), .map (some m1), .map (some m2), .slice none 0 0, .slice none 0 0]) (fun _ _ _ h y => h.ext y) (fun w3 hC hk => ?_) ?_
  · obtain ⟨hx3, m1', m2', e1, e2, _, hM1, hM2⟩ := hC
    simp only [Value.map.injEq, Option.some.injEq] at e1 e2
    subst e1
    subst e2
    unfold does
    go_simp
    exact ⟨hk.alloc _, NewBox.made hx3 hM1 hM2 _⟩
  rintro _ ⟨_, g, rfl, _⟩
  simp only [qA0, qA1, qA2, Act.put, qS0, qS1, qS2]
  apply Flow.d 12 _ rfl (by simp) (by kernel_rfl)
  · intro w1 hk; unfold does; go_simp; (try go_ints); exact DetR.mk
  simp only [qA0, qA1, qA2, Act.put, qS0, qS1, qS2]
  refine Flow.fin (by kernel_rfl) fun w4 hC4 hk4 => ?_
  obtain ⟨g', eg, hB4, hg4, hM1, hM2, hx4⟩ := hC4
  simp only [Value.pointer.injEq, Option.some.injEq, Addr.mk.injEq, and_true] at eg
  subst eg
  have f1 := hB4.free 1
  have hgw : g ≠ w.heap.size := by
    have := HBx.out.lt
    have := Hx1.out.size
    omega
  obtain ⟨W4, hW4⟩ : ∃ W4, W4 = w4.setCell ⟨g, 1, none⟩ (.slice none 0 0) := ⟨_, rfl⟩
  have kW4 : Keep (fun q => q = g) w4 W4 := by rw [hW4]; exact (Keep.refl (fun q => q = g) w4).set rfl _
  have HMk : Hid (MkS w1 W4 g m1 m2 (fun vf => shCells ⟨P, me, kk, .slice a1 P.vars.length c1, vf, .slice a3 P.stmts.length c3, .slice av P.rulesV.length cv, rs⟩ m1 m2 (.slice none 0 0) (.slice none 0 0)) (.slice none 0 0) []) := hid ⟨Keep.new hx4 kW4 fun b hb => hb ▸ hg4, (by
    have := hB4.set 1 (.slice none 0 0)
    rw [← hW4] at this
    exact this), hM1.keep kW4 (fun e => hM1.1.ne hB4 e.symm), hM2.keep kW4 (fun e => hM2.1.ne hB4 e.symm), hg4, hm12, World.ownsRow_nil _ _ _ _, fun _ h => (by cases h)⟩
  have e1 := ((HBx.out.ext (Hx1.out.trans hx4)).keep kW4 hgw.symm).av 1 rfl
  have b1 := hB4.av 1 rfl
  simp only [pcells, qA0, qA1, qA2] at e1 b1
  rw [hW4] at e1
  have HW4 := hid hW4
  clear d0 d1 d2 hB4 hM1 hM2 hx4 hk4 HNo HOb hmm hW4 kW4 hgw hg4 i1 i2 i3 i4 j1 j2 j3 j4 j5
  go_wp2
  rw [← HW4.out]
  go_loopw [59] (fun t59 wr => ∃ (k : Nat) (vf : Value) (fs : List F2), t59 = .int .i64 (k : Int) ∧ k ≤ P.funs.length ∧ fs.length = k ∧ fs.map F2.f = P.funs.take k ∧ MkS w1 wr g m1 m2 (fun vf => shCells ⟨P, me, kk, .slice a1 P.vars.length c1, vf, .slice a3 P.stmts.length c3, .slice av P.rulesV.length cv, rs⟩ m1 m2 (.slice none 0 0) (.slice none 0 0)) vf fs) (fun t59 _ => P.funs.length - (intOf t59).toNat)
  case atStart => exact ⟨0, _, [], rfl, Nat.zero_le _, rfl, by simp, HMk.out⟩
  case round =>
    clear HMk e1 b1 f1
    obtain ⟨k, vf, fs, rfl, hk, hfl, hfm, hMk⟩ := hrel
    have HMk := hid hMk
    have Hfm := hid hfm
    clear hMk hfm
    by_cases hlt : k < P.funs.length
    ·
      obtain ⟨y, f, av2, cv2, rfl, hq, e0, e1, e2, hI⟩ := (HPW.out.ext (Hx1.out.trans HMk.out.ext)).prog.funs.at hlt
      have hpf := (PP.goodF (PP.funs_ok Hwl.out.1) (List.mem_of_getElem? hq)).few
      obtain ⟨fa, fc, hfv⟩ := row_form HMk.out.funs
      rw [hfl] at hfv
      subst hfv
      obtain ⟨W5, hW5⟩ : ∃ W5, W5 = wr.alloc (.cells #[.string f.name, .slice av2 f.params.length cv2, .int .i64 f.ret] 75) := ⟨_, rfl⟩
      have hx5 : Ext wr W5 := by rw [hW5]; exact (Ext.refl _).alloc _
      have HB5 : Hid (Blk W5 wr.heap.size #[.string f.name, .slice av2 f.params.length cv2, .int .i64 f.ret] 75) := hid (by rw [hW5]; exact Blk.new _ _ _)
      have HN := hid (clone_big _ f.params W5 n0 (hI.old (hx5.old _)) (by omega))
      have Hnx : Hid (∀ v, (fs ++ [(⟨f, v⟩ : F2)]).map F2.f = P.funs.take (k + 1)) := hid fun v => by
        rw [List.map_append, Hfm.out, List.take_add_one, hq]; rfl
      have Hx5 := hid hx5
      have HW5 := hid hW5
      have Hfl := hid hfl
      have y1 := HB5.out.av 1 rfl
      simp only [qA0, qA1, qA2] at y1
      rw [hW5] at y1
      clear hq hI hfl hx5 hW5 hpf
      go_wp2_with fail
      rw [← HW5.out]
      refine HN.out.mono ?_
      intro e w6 hx
      obtain ⟨v6, rfl, hx6, hr6⟩ := hx
      obtain ⟨b6, c6, rfl⟩ := row_form hr6
      have hB6 := HB5.out.ext hx6
      have z1 := hB6.av 1 rfl
      have fz1 := hB6.free 1
      have hB7 := hB6.set 1 (.slice b6 f.params.length c6)
      obtain ⟨W7, hW7⟩ : ∃ W7, W7 = w6.setCell ⟨wr.heap.size, 1, none⟩ (.slice b6 f.params.length c6) := ⟨_, rfl⟩
      rw [← hW7] at hB7
      have k7 : Keep (fun q => q = wr.heap.size) w6 W7 := by rw [hW7]; exact Keep.set (X := fun q => q = wr.heap.size) (Keep.refl _ _) rfl _
      simp only [qS0, qS1, qS2, qA0, qA1, qA2] at z1 hB7
      have hx7 : Ext wr W7 := Keep.new (Hx5.out.trans hx6) k7 fun q e => Nat.le_of_eq e.symm
      have HM7 := hid (HMk.out.xt hx7)
      have HR7 : Hid (IRow w1.heap.size W7 (.slice b6 f.params.length c6) f.params) := hid (own_low (row_keep hr6 k7 fun b hb e => by
        have := hr6.lt hb
        rw [e] at this
        have := Hx5.out.size
        have h3 : W5.heap.size = wr.heap.size + 1 := by rw [HW5.out, heap_size_alloc]
        omega) (Nat.le_trans HMk.out.ext.size Hx5.out.size))
      have hXq : ∀ (b : Nat) (e : TypeId), (Value.slice fa k fc).ownBlock = some b → 75 ≠ e → ∀ c, ¬ Blk W7 b c e := fun _ _ hb he c' hc => by
        have h1 := HM7.out.funs
        obtain ⟨c'', hc'⟩ := own_ty h1 hb
        exact off_of hc' he ⟨_, hc⟩
      have hXw : ¬ (Value.slice fa k fc).ownBlock = some wr.heap.size := fun hb => by
        have := World.ownsRow.lt HMk.out.funs _ hb
        omega
      have q1 := HM7.out.blk.kc (X := fun q => (Value.slice fa k fc).ownBlock = some q) (fun hb => hXq _ _ hb (by decide) _ HM7.out.blk) 1 rfl
      have y0 := hB7.kc (X := fun q => (Value.slice fa k fc).ownBlock = some q) hXw 0 rfl
      have y1 := hB7.kc (X := fun q => (Value.slice fa k fc).ownBlock = some q) hXw 1 rfl
      have y2 := hB7.kc (X := fun q => (Value.slice fa k fc).ownBlock = some q) hXw 2 rfl
      simp only [shCells, qA0, qA1, qA2] at y0 y1 y2 q1
      have Hx7 := hid hx7
      have HW7 := hid hW7
      have HXq := hid hXq
      have HRo : Hid (W7.ownsRow w1.heap.size 75 3 (.slice fa k fc) k (fs.flatMap F2.cells)) := hid (by have := HM7.out.funs; rwa [Hfl.out] at this)
      clear HN hx6 hr6 hB6 hB7 k7 hx7 hW7 hXq hXw
      go_wp2
      rw [← HW7.out]
      refine wp_flowT (fun q => (Value.slice fa k fc).ownBlock = some q) (by kernel_rfl) (by kernel_rfl) ?_
      repeat (apply FlowT.d; (intro w1 hk; unfold does; go_simp; (try go_ints); (first | exact DetR.mk | (simp only [↓IntWalk.iteOmega, Oper.doesUpon_value]; exact DetR.mk) | (simp only [↓IntWalk.iteOmega]; go_simp; (try go_ints); exact DetR.mk))); simp only [Act.put, qS0, qS1, qS2])
      refine FlowT.s (fun v' w' => ∃ q, v' = .slice (some ⟨q, 0, none⟩) 1 1 ∧ Blk w' q #[.string f.name, .slice b6 f.params.length c6, .int .i64 f.ret] 75 ∧ Ext W7 w') 7 rfl (by kernel_rfl) (fun _ _ _ ⟨q, h1, h2, h3⟩ he => ⟨q, h1, h2.ext he, h3.trans he⟩) (fun w8 hC hk => ?_) ?_
      · unfold does
        go_simp
        exact ⟨hk.alloc _, _, rfl, Blk.new _ _ _, hC.alloc _⟩
      rintro _ ⟨_, q3, rfl, _, _⟩
      simp only [Act.put, qS0, qS1, qS2]
      refine FlowT.s (fun v' w' => (∃ a c, v' = .slice a (k + 1) c) ∧ w'.ownsRow w1.heap.size 75 3 v' (k + 1) (fs.flatMap F2.cells ++ F2.cells ⟨f, .slice b6 f.params.length c6⟩)) 8 rfl (by kernel_rfl) (fun _ _ _ ⟨h1, h2⟩ he => ⟨h1, own_ext h2 he⟩) (fun w8 hC hk => ?_) ?_
      · obtain ⟨q', e, hg, hE⟩ := hC
        obtain rfl : q3 = q' := by simpa using e
        exact does_append_el w1.heap.size (Nat.le_trans HM7.out.ext.size hE.size) 23 75 (.agg #[.string ⟨#[]⟩, .slice none 0 0, .int .i64 0]) 3 48 Tryz.underlying23 fun_info rfl (by omega) (by omega) rfl _ _ rfl _ _ _ rfl (own_ext HRo.out hE) q3 (F2.cells ⟨f, .slice b6 f.params.length c6⟩) rfl (by simp [F2.cells, Value.oneCell']) rfl hg (by omega) fun v' w' h1 h2 h3 => ⟨hk.trans h2, row_form h1, h1⟩
      rintro _ ⟨_, ⟨a9, c9, rfl⟩, _⟩
      simp only [Act.put, qS0, qS1, qS2]
      apply FlowT.l 9 rfl
      · intro w1; unfold does; go_simp; exact DetR.mk
      simp only [Act.put, qS0, qS1, qS2]
      repeat (apply FlowT.d; (intro w1 hk; unfold does; go_simp; (try go_ints); (first | exact DetR.mk | (simp only [↓IntWalk.iteOmega, Oper.doesUpon_value]; exact DetR.mk) | (simp only [↓IntWalk.iteOmega]; go_simp; (try go_ints); exact DetR.mk))); simp only [Act.put, qS0, qS1, qS2])
      refine FlowT.t (fun q => q = g ∨ (Value.slice fa k fc).ownBlock = some q) (fun _ w' => MkS w1 w' g m1 m2 (fun vf => shCells ⟨P, me, kk, .slice a1 P.vars.length c1, vf, .slice a3 P.stmts.length c3, .slice av P.rulesV.length cv, rs⟩ m1 m2 (.slice none 0 0) (.slice none 0 0)) (.slice a9 (k + 1) c9) (fs ++ [⟨f, .slice b6 f.params.length c6⟩])) 12 rfl (by kernel_rfl) (by kernel_rfl) (fun _ _ _ h y => h.xt y) (fun w8 hC hk => ?_) ?_
      · obtain ⟨_, hq⟩ := hC
        have q8 := q1 w8 hk
        have f8 := (HM7.out.blk.keep hk fun hb => HXq.out _ _ hb (by decide) _ HM7.out.blk).free 1
        unfold does
        go_simp
        refine ⟨(hk.mono fun _ _ h => .inr h).set (.inl rfl) _, HM7.out.push (fun _ _ => rfl) hk (by rw [Hfl.out]; exact hq) ?_⟩
        exact own_off HR7.out hk fun b hb ⟨c', hc⟩ => HXq.out _ _ hb (by decide) c' hc
      rintro _ ⟨_, _⟩
      simp only [Act.put, qS0, qS1, qS2]
      refine FlowT.fin fun w9 hR hk9 => ?_
      have HM9 := hid hR
      clear hR hk9 q1 y0 y1 y2
      go_wp2
      go_roundw
      case rel => exact ⟨k + 1, _, _, by go_num, by omega, by rw [List.length_append, Hfl.out]; rfl, Hnx.out _, HM9.out⟩
      case measure => simp [intOf]; omega
    · obtain rfl : k = P.funs.length := by omega
      rw [List.take_length] at Hfm
      have hx := HX.out.trans Hx1.out
      have hRw : RulesT wr w.heap.size (.slice av P.rulesV.length cv) P.rulesV rs := (HI.out.ext HMk.out.ext).low HX.out.size
      have hSA := HMk.out.sh (w := w) hx Hfm.out Hwl.out hRw (fun b hb => (World.ownsRow.lt HI.out.row b hb).2) Hm.out
      obtain ⟨c, hc⟩ : ∃ c, c = (⟨P, me, kk, .slice a1 P.vars.length c1, vf, .slice a3 P.stmts.length c3, .slice av P.rulesV.length cv, rs⟩ : SC) := ⟨_, rfl⟩
      rw [← hc] at hSA
      have HcR : Hid (c.vr = .slice av P.rulesV.length cv ∧ c.rs = rs ∧ c.P = P ∧ P.rulesV.length = rs.length ∧ rs.map R2.r = P.rulesV ∧ c.me = me ∧ c.k = kk) := hid ⟨by rw [hc], by rw [hc], by rw [hc], by rw [← hRw.eq, List.length_map], hRw.eq, by rw [hc], by rw [hc]⟩
      have HXwr := hid (hx.trans HMk.out.ext)
      have HGi : Hid (∀ b, (IsInt wr b ∨ (w.heap.size ≤ b ∧ b < wr.heap.size ∧ b ≠ g ∧ b ≠ m1 ∧ b ≠ m2)) → IsInt w b ∨ w.heap.size ≤ b) := hid fun b hb => by
        rcases hb with hb | hb
        · rcases Nat.lt_or_ge b w.heap.size with h1 | h1
          · exact .inl (hb.back HXwr.out h1)
          · exact .inr h1
        · exact .inr hb.1
      have HFo : Hid (∀ b, b < w.heap.size → b < wr.heap.size ∧ b ≠ g ∧ b ≠ m1 ∧ b ≠ m2) := hid fun b hb => by
        have h1 := hx.size
        have h2 := HXwr.out.size
        have h3 := HMk.out.gg
        have h4 := HMk.out.map1.2.2
        have h5 := HMk.out.map2.2.2
        omega
      have HFn : Hid (∀ b, b < wr.heap.size ∧ b ≠ g ∧ b ≠ m1 ∧ b ≠ m2 → True) := hid fun _ _ => trivial
      have HSA := hid hSA
      generalize hG : (fun b => IsInt wr b ∨ (w.heap.size ≤ b ∧ b < wr.heap.size ∧ b ≠ g ∧ b ≠ m1 ∧ b ≠ m2)) = G at HSA
      generalize hF : (fun b => b < wr.heap.size ∧ b ≠ g ∧ b ≠ m1 ∧ b ≠ m2) = F at HSA
      have HG : Hid (∀ b, G b → IsInt w b ∨ w.heap.size ≤ b) := hid fun b hb => HGi.out b (by rw [← hG] at hb; exact hb)
      have HF : Hid (∀ b, b < w.heap.size → F b) := hid fun b hb => by rw [← hF]; exact HFo.out b hb
      have hrl : P.rulesV.length ≤ 80 := by rw [rulesV_len]; exact hf3
      obtain ⟨wA, hwA⟩ : ∃ wA, wA = wr := ⟨_, rfl⟩
      rw [← hwA] at HXwr
      have HwA := hid hwA
      clear HMk Hfm hx hRw hSA hc HGi HFo HFn hG hF hwA HI HPW HBx hlt hk hfl
      go_wp2
      go_loopw [82] (fun t82 wr => ∃ j : Nat, t82 = .int .i64 (j : Int) ∧ j ≤ P.rulesV.length ∧ ShAt wr G F g c ((P.rulesV.take j).foldl (SH.begin (me : Nat) (kk : Nat)) SH.none) ∧ Keep (fun b => ¬ F b) wA wr) (fun t82 _ => P.rulesV.length - (intOf t82).toNat)
      case atStart => exact ⟨0, rfl, Nat.zero_le _, HSA.out, by rw [HwA.out]; exact Keep.refl _ _⟩
      case round =>
        clear HSA HwA
        obtain ⟨j, rfl, hj, hS9, hK9⟩ := hrel
        have HK9 := hid hK9
        clear hK9
        by_cases hlt : j < P.rulesV.length
        ·
          obtain ⟨T0, hT0⟩ : ∃ T0, T0 = (P.rulesV.take j).foldl (SH.begin (me : Nat) (kk : Nat)) SH.none := ⟨_, rfl⟩
          rw [← hT0] at hS9
          have HS9 := hid hS9
          obtain ⟨m1b, m2b, f1b, f2b, vtb, vob, tsb, osb, hh⟩ := hS9
          have hrr := hh.con.rrow
          rw [HcR.out.1, HcR.out.2.1, HcR.out.2.2.1] at hrr
          obtain ⟨gr, cr', hge⟩ := own_some hrr (by omega)
          simp only [Value.slice.injEq] at hge
          obtain ⟨rfl, -, rfl⟩ := hge
          obtain ⟨x, hxk⟩ : ∃ x, rs[j]? = some x := ⟨_, List.getElem?_eq_getElem (by rw [← HcR.out.2.2.2.1]; exact hlt)⟩
          obtain ⟨q0, q1, q2, q3, q4⟩ := own_r hrr hxk
          have hI := hh.con.rargs x (by rw [HcR.out.2.1]; exact List.mem_of_getElem? hxk)
          obtain ⟨aa, ca, hav, -⟩ := hI.form
          have hsk : P.rulesV[j]? = some x.r := by rw [← HcR.out.2.2.2.2.1, List.getElem?_map, hxk]; rfl
          obtain ⟨r, xv⟩ := x
          simp only at hav q0 q1 q2 q3 q4 hI hsk
          subst hav
          have hrm : r ∈ P.rulesV := List.mem_of_getElem? hsk
          have hra := rule_a Hwl.out hrm
          have hld : T0.load ≤ 80 := by
            rw [hT0]
            have := (begins_adds (me := (me : Nat)) (k := (kk : Nat)) Hwl.out j).load
            have h0 : SH.none.load = 0 := rfl
            omega
          have Hcp := hid (fun h => rule_copy Hwl.out hrm h)
          have Hn : Hid ((P.rulesV.take (j + 1)).foldl (SH.begin (me : Nat) (kk : Nat)) SH.none = SH.begin (me : Nat) (kk : Nat) T0 r) := hid (by rw [List.take_add_one, hsk, List.foldl_append, hT0]; rfl)
          obtain ⟨V, hV⟩ : ∃ V, V = wr.alloc (.cells #[.string r.kind, .int .i64 r.a, .int .i64 r.b, .int .i64 r.k, .slice aa r.args.length ca] 90) := ⟨_, rfl⟩
          have HVx : Hid (Ext wr V) := hid (by rw [hV]; exact (Ext.refl _).alloc _)
          have hBr : Blk V wr.heap.size #[.string r.kind, .int .i64 r.a, .int .i64 r.b, .int .i64 r.k, .slice aa r.args.length ca] 90 := by rw [hV]; exact Blk.new _ _ _
          obtain ⟨a, ha⟩ := Int.eq_ofNat_of_zero_le hra.1
          have HVe := hid hV
          have HO := hid (shardowner_any c T0 a V G F g (HS9.out.ext HVx.out) (by omega))
          rw [HcR.out.2.2.2.2.2.2] at HO
          have m1' := hBr.av 1 rfl
          simp only [qA0, qA1, qA2] at m1'
          rw [hV, ha] at m1'
          have hal : (r.args.length : Int) ≤ 9223372036854775807 := by obtain ⟨_, cap, h1, h2, h3, _⟩ := hI.form; omega
          have Hra := hid ha
          have hra1 := hid (show (a : Int) < 120 by have := hra.2; rw [ha] at this; omega)
          have Hld := hid hld
          have HBr := hid hBr
          have Hmc : Hid (r.a % ((kk : Nat) : Int) = ((a % kk : Nat) : Int)) := hid (by rw [ha, natmod])
          obtain ⟨ow, how⟩ : ∃ ow, ow = a % kk := ⟨_, rfl⟩
          rw [← how] at HO Hmc
          clear hh hrr hxk hI hsk hV hT0 hBr hra hrm hld ha how
          rw [Hra.out] at q1 HVe
          go_wp2_with fail
          rw [← HVe.out]
          refine HO.out.mono ?_
          intro z w5 hx
          obtain ⟨rfl, hx5⟩ := hx
          have HxV := hid (HVx.out.trans hx5)
          have HS5 := hid (HS9.out.ext HxV.out)
          have HB5 := hid (HBr.out.ext hx5)
          have HK5 := hid (HK9.out.ext_r HxV.out)
          clear HO hx5 m1' q0 q1 q2 q3 q4 HBr HVe HVx HS9 HK9
          have m0 := HB5.out.av 0 rfl
          have m1' := HB5.out.av 1 rfl
          have m2' := HB5.out.av 2 rfl
          simp only [qA0, qA1, qA2] at m0 m1' m2'
          rw [Hra.out] at m1'
          by_cases ho : ow = me
          · have hb : ((ow : Int) == (me : Int)) = true := by rw [ho]; simp
            have hb2 : ((ow : Int) != (me : Int)) = false := by simp only [bne, hb]; rfl
            have Hcon : Hid (r.a % ((kk : Nat) : Int) = ((me : Nat) : Int)) := hid (by rw [Hmc.out, ho])
            have hbb := eq_of_beq bBase_list
            clear ho
            cases hk1 : (r.kind.toList == [98, 97, 115, 101]) with
            | true =>
              have Hnx : Hid ((P.rulesV.take (j + 1)).foldl (SH.begin (me : Nat) (kk : Nat)) SH.none = T0.tell (me : Nat) (kk : Nat) (a : Nat) 100 [(a : Int), r.b]) := hid (by
                rw [Hn.out]
                unfold SH.begin
                rw [if_pos Hcon.out, hbb, hk1, cond_true, Hra.out])
              obtain ⟨W6, hW6⟩ : ∃ W6, W6 = w5.alloc (.cells #[.int .i64 (a : Int), .int .i64 r.b] 3) := ⟨_, rfl⟩
              have hx6 : Ext w5 W6 := by rw [hW6]; exact (Ext.refl _).alloc _
              have HX6 := hid hx6
              have HT := hid (shardtell_any c T0 a 100 [(a : Int), r.b] _ W6 G F g (HS5.out.ext hx6) (by rw [hW6]; exact irow_two w5 a r.b) (by have := hra1.out; omega) (by have := Hld.out; omega))
              rw [HcR.out.2.2.2.2.2.1, HcR.out.2.2.2.2.2.2] at HT
              have HW6 := hid hW6
              clear hW6 hx6
              go_wp2_with fail
              rw [← HW6.out]
              refine HT.out.mono ?_
              intro z w7 hx
              obtain ⟨rfl, hS6, hK6⟩ := hx
              have HS6 := hid hS6
              have HK6 := hid hK6
              clear hS6 hK6 m0 m1' m2'
              go_wp2
              go_roundw
              case rel => exact ⟨j + 1, by go_num, by omega, by rw [Hnx.out]; exact HS6.out, (HK5.out.ext_r HX6.out).trans HK6.out⟩
              case measure => simp [intOf]; omega
            | false =>
            cases hk2 : (r.kind.toList == [99, 111, 112, 121]) with
            | true =>
              obtain ⟨_, hb0, hb1⟩ := Hcp.out (eq_of_beq hk2)
              simp only at hb0 hb1
              obtain ⟨d, hd⟩ := Int.eq_ofNat_of_zero_le hb0
              rw [hd] at hb1 m2'
              have Hnx : Hid ((P.rulesV.take (j + 1)).foldl (SH.begin (me : Nat) (kk : Nat)) SH.none = T0.edge (me : Nat) (kk : Nat) ((a : Int), (d : Int))) := hid (by
                rw [Hn.out]
                unfold SH.begin kCopy
                rw [if_pos Hcon.out, hbb, hk1, cond_false, hk2, cond_true, Hra.out, hd])
              have HT := hid (shardedge_any c T0 a d w5 G F g HS5.out (by have := hra1.out; omega) (by omega) (by have := Hld.out; omega))
              rw [HcR.out.2.2.2.2.2.1, HcR.out.2.2.2.2.2.2] at HT
              clear hb0 hb1 hd
              go_wp2_with fail
              refine HT.out.mono ?_
              intro z w6 hx
              obtain ⟨rfl, hS6, hK6⟩ := hx
              have HS6 := hid hS6
              have HK6 := hid hK6
              clear hS6 hK6 m0 m1' m2'
              go_wp2
              go_roundw
              case rel => exact ⟨j + 1, by go_num, by omega, by rw [Hnx.out]; exact HS6.out, HK5.out.trans HK6.out⟩
              case measure => simp [intOf]; omega
            | false =>
              have Hnx : Hid ((P.rulesV.take (j + 1)).foldl (SH.begin (me : Nat) (kk : Nat)) SH.none = T0) := hid (by
                rw [Hn.out]
                unfold SH.begin kCopy
                rw [if_pos Hcon.out, hbb, hk1, cond_false, hk2]; rfl)
              go_wp2
              go_roundw
              case rel => exact ⟨j + 1, by go_num, by omega, by rw [Hnx.out]; exact HS5.out, HK5.out⟩
              case measure => simp [intOf]; omega
          · have hb : ((ow : Int) == (me : Int)) = false := beq_eq_false_iff_ne.2 (by omega)
            have hb2 : ((ow : Int) != (me : Int)) = true := by simp only [bne, hb]; rfl
            have Hnx : Hid ((P.rulesV.take (j + 1)).foldl (SH.begin (me : Nat) (kk : Nat)) SH.none = T0) := hid (by
              rw [Hn.out]
              unfold SH.begin
              rw [if_neg (by rw [Hmc.out]; omega)])
            clear ho
            go_wp2
            go_roundw
            case rel => exact ⟨j + 1, by go_num, by omega, by rw [Hnx.out]; exact HS5.out, HK5.out⟩
            case measure => simp [intOf]; omega
        · obtain rfl : j = P.rulesV.length := by omega
          rw [← start_take] at hS9
          obtain ⟨hso1, hso2⟩ := start_okS (me := (me : Nat)) (k := (kk : Nat)) Hwl.out
          have HWk := hid (shardwork_any c (SH.start P (me : Nat) (kk : Nat)) wr G F g hS9 (by rw [HcR.out.2.2.1, HcR.out.2.2.2.2.2.1, HcR.out.2.2.2.2.2.2]; exact hso1) (by omega))
          rw [HcR.out.2.2.1, HcR.out.2.2.2.2.2.1, HcR.out.2.2.2.2.2.2] at HWk
          clear hS9 hso1 hso2
          go_wp2_with fail
          refine HWk.out.mono ?_
          intro e w7 hx
          obtain ⟨u, t, os7, F', rfl, h1, h2, h3, h4, h5, h7, h6⟩ := hx
          have H := hid (And.intro h1 (And.intro h2 (And.intro h3 (And.intro h4 (And.intro h5 h7)))))
          have HK7 := hid (HK9.out.trans h6)
          clear HWk h1 h2 h3 h4 h5 h6 h7
          go_wp2
          go_ret3
          refine ⟨g, c, G, F', u, t, os7, rfl, HcR.out.2.2.1, HcR.out.2.2.2.2.2.1, HcR.out.2.2.2.2.2.2, H.out.1, H.out.2.1, H.out.2.2.1, H.out.2.2.2.1, fun b hb => H.out.2.2.2.2.1 b (HF.out b hb), H.out.2.2.2.2.2, HG.out, Keep.new HXwr.out HK7.out fun b hb => Nat.le_of_not_lt fun h => hb (HF.out b h)⟩
def SC.own (c : SC) (n : Int) : Bool := decide (0 ≤ n ∧ n < (c.P.nodesV : Int) ∧ n % (c.k : Int) = (c.me : Int))
set_option maxRecDepth 100000 in
set_option maxHeartbeats 3200000 in
theorem shardown_any (c : SC) (s : SH) (n : Int) (w : World) (G F : Nat → Prop) (g : Nat) (hS : ShAt w G F g c s) :
    Calls Tryz.prog 50 #[.pointer (some ⟨g, 0, none⟩), .int .i64 n] w fun e w' => e = .returned (.bool (c.own n)) ∧ Ext w w' := by
  have hS0 := hS
  obtain ⟨m1, m2, f1, f2, vt, vo, ts, os, h⟩ := hS
  have hnn := h.con.well.nodes.1
  have b6 := h.blk.kc (X := fun _ => False) (fun e => e) 6 rfl
  have b4 := h.blk.kc (X := fun _ => False) (fun e => e) 4 rfl
  simp only [shCells, qA0, qA1, qA2] at b6 b4
  by_cases hn0 : 0 ≤ n
  · by_cases hn1 : n < (c.P.nodesV : Int)
    · obtain ⟨i, rfl⟩ := Int.eq_ofNat_of_zero_le hn0
      have HO := fun w1 (x : Ext w w1) => hid (shardowner_any c s i w1 G F g (hS0.ext x) (by omega))
      have hr : c.own (i : Int) = decide ((i % c.k : Nat) = c.me) := by
        unfold SC.own
        rw [natmod]
        by_cases hm : i % c.k = c.me
        · rw [decide_eq_true hm, decide_eq_true ⟨hn0, hn1, by rw [hm]⟩]
        · rw [decide_eq_false hm, decide_eq_false fun h => hm (by have := h.2.2; omega)]
      have Hr := hid hr
      generalize i % c.k = r at HO Hr
      have g0 : decide ((0 : Int) ≤ (i : Int)) = true := decide_eq_true hn0
      have g1 : decide ((i : Int) < (c.P.nodesV : Int)) = true := decide_eq_true hn1
      have g2 : ((r : Int) == (c.me : Int)) = decide (r = c.me) := by
        by_cases hm : r = c.me
        · rw [hm]; simp
        · rw [decide_eq_false hm]; exact beq_eq_false_iff_ne.2 (by omega)
      clear hS0 h hr
      generalize c.P.nodesV = NN at *
      go_enter Tryz.func50, Tryz.ntmps50
      go_wp2
      refine wp_flowT (fun _ => False) (by kernel_rfl) (by kernel_rfl) ?_
      repeat (apply FlowT.d; (intro w1 hk; unfold does; go_simp; (try go_ints); (first | exact DetR.mk | (simp only [↓IntWalk.iteOmega, Oper.doesUpon_value]; exact DetR.mk) | (simp only [↓IntWalk.iteOmega]; go_simp; (try go_ints); exact DetR.mk))); simp only [Act.put, qS0, qS1, qS2])
      apply FlowT.d
      · intro w1 hk
        unfold does
        go_simp
        exact CallR.det ((HO w1 hk.ext).out)
      simp only [Act.put, qS0, qS1, qS2]
      repeat (apply FlowT.d; (intro w1 hk; unfold does; go_simp; (try go_ints); (first | exact DetR.mk | (simp only [↓IntWalk.iteOmega, Oper.doesUpon_value]; exact DetR.mk) | (simp only [↓IntWalk.iteOmega]; go_simp; (try go_ints); exact DetR.mk))); simp only [Act.put, qS0, qS1, qS2])
      refine FlowT.fin fun w2 hx2 hk2 => ?_
      go_wp2
      go_ret
      exact ⟨by rw [Hr.out]; rfl, hx2⟩
    · have hr : c.own n = false := decide_eq_false fun h => hn1 h.2.1
      have Hr := hid hr
      clear hS0 h hr
      generalize c.P.nodesV = NN at *
      go_enter Tryz.func50, Tryz.ntmps50
      go_wp2
      refine wp_flowT (fun _ => False) (by kernel_rfl) (by kernel_rfl) ?_
      repeat (apply FlowT.d; (intro w1 hk; unfold does; go_simp; (try go_ints); (first | exact DetR.mk | (simp only [↓IntWalk.iteOmega, Oper.doesUpon_value]; exact DetR.mk) | (simp only [↓IntWalk.iteOmega]; go_simp; (try go_ints); exact DetR.mk))); simp only [Act.put, qS0, qS1, qS2])
      refine FlowT.fin fun w2 hx2 hk2 => ?_
      go_wp2
      go_ret
      exact ⟨by rw [Hr.out]; rfl, hx2⟩
  · have hr : c.own n = false := decide_eq_false fun h => hn0 h.1
    have Hr := hid hr
    clear hS0 h hr
    generalize c.P.nodesV = NN at *
    go_enter Tryz.func50, Tryz.ntmps50
    go_wp2
    refine wp_flowT (fun _ => False) (by kernel_rfl) (by kernel_rfl) ?_
    repeat (apply FlowT.d; (intro w1 hk; unfold does; go_simp; (try go_ints); (first | exact DetR.mk | (simp only [↓IntWalk.iteOmega, Oper.doesUpon_value]; exact DetR.mk) | (simp only [↓IntWalk.iteOmega]; go_simp; (try go_ints); exact DetR.mk))); simp only [Act.put, qS0, qS1, qS2])
    refine FlowT.fin fun w2 hx2 hk2 => ?_
    go_wp2
    go_ret
    exact ⟨by rw [Hr.out]; rfl, hx2⟩
def SC.hasL (c : SC) (s : SH) (n : Int) : List Int := if c.own n = true then keysL s.has n else []
set_option maxRecDepth 100000 in
set_option maxHeartbeats 1600000 in
theorem shardhas_any (c : SC) (s : SH) (n : Int) (w : World) (G F : Nat → Prop) (g : Nat) (hS : ShAt w G F g c s) (hok : s.Ok c.P (c.me : Nat) (c.k : Nat)) :
    Calls Tryz.prog 14 #[.pointer (some ⟨g, 0, none⟩), .int .i64 n] w fun e w' => ∃ v, e = .returned v ∧ IRow w.heap.size w' v (c.hasL s n) ∧ Ext w w' := by
  have HO := hid (shardown_any c s n w G F g hS)
  cases hb : c.own n with
  | false =>
    have Hr : Hid (c.hasL s n = []) := hid (by unfold SC.hasL; rw [hb]; rfl)
    rw [hb] at HO
    clear hb hok
    go_enter Tryz.func14, Tryz.ntmps14
    go_wp2_with fail
    refine HO.out.mono ?_
    intro e w1 hx
    obtain ⟨rfl, hx1⟩ := hx
    have Hx1 := hid hx1
    clear HO hx1
    go_wp2
    go_ret
    exact ⟨_, rfl, by rw [Hr.out]; exact IRow.nil _ _, Hx1.out⟩
  | true =>
    have Hr : Hid (c.hasL s n = keysL s.has n) := hid (by unfold SC.hasL; rw [hb]; rfl)
    rw [hb] at HO
    have hin := of_decide_eq_true hb
    obtain ⟨m1, m2, f1, f2, vt, vo, ts, os, h⟩ := hS
    have hnn := h.con.well.nodes.1
    obtain ⟨i, rfl⟩ := Int.eq_ofNat_of_zero_le hin.1
    have hi : i < 1000000 := by omega
    have Hh126 := hid (hok.has126 h.con.well)
    have HS := hid h
    clear hb hok hin h
    go_enter Tryz.func14, Tryz.ntmps14
    go_wp2_with fail
    refine HO.out.mono ?_
    intro e w1 hx
    obtain ⟨rfl, hx1⟩ := hx
    have HS1 := hid (HS.out.ext hx1)
    have l4 := HS1.out.mm1.look1 (b := (i : Int)) (by omega)
    have HKy := hid (shardkeys_any (i : Int) w1 HS1.out.mm1 Hh126.out)
    obtain ⟨vk, hvk⟩ : ∃ vk, vk = (f1 (i : Int)).getD (.map none) := ⟨_, rfl⟩
    rw [← hvk] at l4 HKy
    have b8 := HS1.out.blk.av 8 rfl
    simp only [shCells, qA0, qA1, qA2] at b8
    have Hx1 := hid hx1
    clear HO hx1 hvk
    go_wp2_with fail
    refine HKy.out.mono ?_
    intro e w4 hx
    obtain ⟨v4, rfl, hr4, hx4⟩ := hx
    have HR4 : Hid (IRow w.heap.size w4 v4 (keysL s.has (i : Int))) := hid (own_low hr4 Hx1.out.size)
    have Hx4 := hid (Hx1.out.trans hx4)
    clear HKy hr4 hx4 l4 b8
    go_wp2
    go_ret
    exact ⟨_, rfl, by rw [Hr.out]; exact HR4.out, Hx4.out⟩
def SC.most (c : SC) (kd : Int) : Int := if kd = 101 then (c.P.nodesV : Int) else (c.P.objectsV : Int)
def SC.bnd (c : SC) (kd : Int) (x : Int) (l : List Int) : Bool := c.own x && !(l.any fun n => decide (n < 0) || decide (c.most kd ≤ n))
def SH.push (s : SH) (x : NV) : SH := { s with todo := s.todo ++ [x] }
theorem wait_in {P : PP} {S : List (List Int)} {s : SV} (hg : P.GoodS S) (h : Core P S s) : ∀ f ∈ s.wait, (0 ≤ f.1 ∧ f.1 < P.nodesV) ∧ (0 ≤ f.2 ∧ f.2 < P.objectsV) := fun f hf => by
  have hfw := h.wait f hf
  have hlen := hg.2.1
  have hin : f.2 ∈ S.getD f.1.toNat [] := hfw.2
  rw [List.getD_eq_getElem?_getD, List.getElem?_eq_getElem (show f.1.toNat < S.length by omega)] at hin
  have hk := hg.ok.ok _ (List.getElem_mem (show f.1.toNat < S.length by omega))
  exact ⟨hfw.1, ((chkE_zero.1 hk.1).1 _ hin).1, hk.2 _ hin⟩
def lenAt (w : World) (g : Nat) : Nat := match w.cell? ⟨g, 8, none⟩ with
  | some (.slice _ n _) => n
  | _ => 0
end Go.Proofs.YtihdpijgngooaaaGreatDoor
