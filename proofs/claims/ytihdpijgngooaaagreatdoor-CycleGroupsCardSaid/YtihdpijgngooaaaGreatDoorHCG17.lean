/- Texts of one proof, put together: MQ MR ZQ ZR ZS ZU ZV ZZXe S6. -/
import Derived.Test.YtihdpijgngooaaaGreatDoorHCG04
import Derived.Test.YtihdpijgngooaaaGreatDoorHCG06
import Derived.Test.YtihdpijgngooaaaGreatDoorHCG08
import Derived.Test.YtihdpijgngooaaaGreatDoorHCG10
import Derived.Test.YtihdpijgngooaaaGreatDoorHCG11
import Derived.Test.YtihdpijgngooaaaGreatDoorHCG13
import Derived.Test.YtihdpijgngooaaaGreatDoorHCG15
import Derived.Test.YtihdpijgngooaaaGreatDoorHCG16
import Derived.Maps.Keyed
import Derived.DeepKeys4
import Derived.Test.YtihdpijgngooaaaGreatDoorHCG01
set_option linter.unusedSimpArgs false
set_option linter.unusedVariables false
namespace Go.Proofs.YtihdpijgngooaaaGreatDoor
open Go Go.RowKit Go.MapKept
open Go.Maps (Keyed)
section
variable {κ : Type} [DecidableEq κ]
def kget (m : List (κ × Value)) (k : κ) : Option Value := (m.find? fun x => decide (x.1 = k)).map (·.2)
theorem kget_none {m : List (κ × Value)} {k : κ} (h : ∀ x ∈ m, x.1 ≠ k) : kget m k = none := by
  unfold kget
  rw [List.find?_eq_none.2 fun x hx => by simpa using h x hx]; rfl
theorem kget_at {m : List (κ × Value)} (hn : (m.map (·.1)).Nodup) {j : Nat} {k : κ} {v : Value} (h : m[j]? = some (k, v)) : kget m k = some v := by
  induction m generalizing j with
  | nil => simp at h
  | cons x r ih =>
    rw [List.map_cons, List.nodup_cons] at hn
    unfold kget
    rw [List.find?_cons]
    cases j with
    | zero =>
      rw [List.getElem?_cons_zero] at h
      obtain rfl := Option.some.inj h
      simp
    | succ j =>
      rw [List.getElem?_cons_succ] at h
      have hx : x.1 ≠ k := fun e => hn.1 (by rw [e]; exact List.mem_map.2 ⟨(k, v), List.mem_of_getElem? h, rfl⟩)
      rw [decide_eq_false hx]
      exact ih hn.2 h
def KMap (P : Program) (kt : TypeId) (enc : κ → Value) (w : World) (b : Nat) (f : κ → Option Value) : Prop :=
  ∃ es clock, ∃ m : List (κ × Value), w.heap[b]? = some (.map es clock) ∧ es.toList.map (fun x => (x.key, x.val)) = m.map (fun x => (enc x.1, x.2)) ∧ (m.map (·.1)).Nodup ∧ (∀ x ∈ m, ∃ l, keyOf P kt (enc x.1) = some l) ∧ ∀ k, kget m k = f k
variable {P : Program} {kt : TypeId} {enc : κ → Value} {w : World} {b : Nat} {f : κ → Option Value}
theorem KMap.keep {X : Nat → Prop} {w' : World} (h : KMap P kt enc w b f) (x : Keep X w w') (hx : ¬ X b) : KMap P kt enc w' b f := by
  obtain ⟨es, c, m, hb, he⟩ := h
  exact ⟨es, c, m, Keep.get x hb hx, he⟩
theorem KMap.ext {w' : World} (h : KMap P kt enc w b f) (x : Ext w w') : KMap P kt enc w' b f := by
  obtain ⟨es, c, m, hb, he⟩ := h
  exact ⟨es, c, m, Ext.get x hb, he⟩
theorem KMap.lt (h : KMap P kt enc w b f) : b < w.heap.size := by
  obtain ⟨es, c, m, hb, he⟩ := h
  exact (Array.getElem?_eq_some_iff.1 hb).1
theorem KMap.ne {g : Nat} (h : KMap P kt enc w b f) {c : Array Value} {e : TypeId} (hb : Blk w g c e) : g ≠ b := by
  rintro rfl
  obtain ⟨es, c, m, h1, _⟩ := h
  have := h1.symm.trans hb
  cases this
theorem KMap.eq {g : κ → Option Value} (h : KMap P kt enc w b f) (e : ∀ k, f k = g k) : KMap P kt enc w b g := by
  obtain ⟨es, c, m, h1, h2, h3, h4, h5⟩ := h
  exact ⟨es, c, m, h1, h2, h3, h4, fun k => (h5 k).trans (e k)⟩
theorem KMap.new (P : Program) (kt : TypeId) (enc : κ → Value) (w : World) : KMap P kt enc (w.alloc (.map #[] 0)) w.heap.size (fun _ => none) := ⟨#[], 0, [], heap_alloc_new w _, rfl, List.nodup_nil, fun _ h => by simp at h, fun _ => rfl⟩
omit [DecidableEq κ] in
theorem KMap.found (K : Keyed P kt) (hinj : ∀ a c : κ, enc a = enc c → a = c) {es : Array MapEntry} {m : List (κ × Value)} (he : es.toList.map (fun x => (x.key, x.val)) = m.map (fun x => (enc x.1, x.2))) (hn : (m.map (·.1)).Nodup) (hk : ∀ x ∈ m, ∃ l, keyOf P kt (enc x.1) = some l)
    {k : κ} {l : Lit} (hl : keyOf P kt (enc k) = some l) : ((Instr.findKey kt (enc k) es.toList).run P w = .ok none w ∧ ∀ x ∈ m, x.1 ≠ k) ∨ ∃ j e v, (Instr.findKey kt (enc k) es.toList).run P w = .ok (some (j, v)) w ∧ m[j]? = some (k, v) ∧ es[j]? = some e ∧ e.key = enc k := by
  have hall : ∀ e ∈ es.toList, ∃ l, keyOf P kt e.key = some l := fun e h => by
    have : (e.key, e.val) ∈ m.map (fun x => (enc x.1, x.2)) := by rw [← he]; exact List.mem_map.2 ⟨e, h, rfl⟩
    obtain ⟨x, hx, h2⟩ := List.mem_map.1 this
    obtain ⟨l, hl⟩ := hk x hx
    exact ⟨l, by rw [← (Prod.mk.inj h2).1]; exact hl⟩
  rcases K.find w hl es.toList hall with ⟨h1, h2⟩ | ⟨j, e, h1, h2, h3⟩
  · refine .inl ⟨h1, fun x hx hxk => ?_⟩
    have : (enc x.1, x.2) ∈ es.toList.map (fun x => (x.key, x.val)) := by rw [he]; exact List.mem_map.2 ⟨x, hx, rfl⟩
    obtain ⟨e, he1, he2⟩ := List.mem_map.1 this
    exact h2 e he1 (by rw [(Prod.mk.inj he2).1, hxk])
  · have h2' : es.toList[j]? = some e := by simpa using h2
    have h4 : (es.toList.map (fun x => (x.key, x.val)))[j]? = some (e.key, e.val) := by rw [List.getElem?_map, h2']; rfl
    rw [he, List.getElem?_map] at h4
    obtain ⟨x, hx⟩ : ∃ x, m[j]? = some x := by
      cases hx : m[j]? with
      | none => rw [hx] at h4; simp at h4
      | some x => exact ⟨x, rfl⟩
    rw [hx] at h4
    obtain ⟨q1, q2⟩ := Prod.mk.inj (Option.some.inj h4)
    refine .inr ⟨j, e, e.val, h1, ?_, by simpa using h2', h3⟩
    rw [hx]
    have : x.1 = k := hinj _ _ (by rw [q1, h3])
    rw [← this, ← q2]
theorem run_kmap_lookup (K : Keyed P kt) (hinj : ∀ a c : κ, enc a = enc c → a = c) {t et : TypeId} (ht : P.underlying t = some (.map kt et)) (h : KMap P kt enc w b f) {k : κ} {l : Lit} (hl : keyOf P kt (enc k) = some l) {z : Value} (hz : (zeroValue et).run P w = .ok z w) (c : Bool) :
    (Instr.lookup t (.map (some b)) (enc k) c).run P w = .ok (if c then .tuple #[(f k).getD z, .bool (f k).isSome] else (f k).getD z) w := by
  obtain ⟨es, cl, m, hb, he, hn, hk, hf⟩ := h
  unfold Instr.lookup
  rcases KMap.found (w := w) K hinj he hn hk hl with ⟨h1, h2⟩ | ⟨j, e, v, h1, h2, h3, h4⟩
  · rw [← hf k, kget_none h2]
    cases c <;> simp [run_underlying ht, Go.MapKept.run_getObj_map hb, K.check w _ hl, h1, hz, Result.andThen]
  · rw [← hf k, kget_at hn h2]
    cases c <;> simp [run_underlying ht, Go.MapKept.run_getObj_map hb, K.check w _ hl, h1, Result.andThen]
theorem run_kmap_put (K : Keyed P kt) (hinj : ∀ a c : κ, enc a = enc c → a = c) {t et : TypeId} (ht : P.underlying t = some (.map kt et)) (h : KMap P kt enc w b f) {k : κ} {l : Lit} (hl : keyOf P kt (enc k) = some l) (v : Value) :
    ∃ w', (Instr.mapUpdate t (.map (some b)) (enc k) v).run P w = .ok () w' ∧ KMap P kt enc w' b (fun q => if q = k then some v else f q) ∧ Keep (fun q => q = b) w w' := by
  obtain ⟨es, cl, m, hb, he, hn, hk, hf⟩ := h
  rcases KMap.found (w := w) K hinj he hn hk hl with ⟨h1, h2⟩ | ⟨j, e, u, h1, h2, h3, h4⟩
  · refine ⟨_, ?_, ⟨es.push { key := enc k, val := v, born := cl }, cl + 1, m ++ [(k, v)], (heap_set hb).1, ?_, ?_, ?_, fun q => ?_⟩, map_setBlock hb _⟩
    · unfold Instr.mapUpdate
      simp [run_underlying ht, Go.MapKept.run_getObj_map hb, K.check w _ hl, h1, Go.MapKept.run_setObj_map _ hb, Result.andThen]
    · simp [he]
    · rw [List.map_append, List.nodup_append]
      refine ⟨hn, by simp, fun a ha c hc => ?_⟩
      obtain ⟨x, hx, rfl⟩ := List.mem_map.1 ha
      simp at hc
      rw [hc]; exact h2 x hx
    · intro x hx
      rcases List.mem_append.1 hx with hx | hx
      · exact hk x hx
      · rw [List.mem_singleton.1 hx]; exact ⟨l, hl⟩
    · show _ = if q = k then some v else f q
      rw [← hf q]
      unfold kget
      rw [List.find?_append]
      by_cases hq : q = k
      · subst hq
        rw [if_pos rfl, List.find?_eq_none.2 fun x hx => by simpa using h2 x hx]
        simp
      · rw [if_neg hq]
        have : List.find? (fun x : κ × Value => decide (x.1 = q)) [(k, v)] = none := by
          rw [List.find?_eq_none]
          intro x hx
          rw [List.mem_singleton.1 hx]
          simpa using fun e => hq e.symm
        rw [this]
        cases List.find? (fun x : κ × Value => decide (x.1 = q)) m <;> rfl
  · have hj : j < m.length := by
      rcases Nat.lt_or_ge j m.length with g | g
      · exact g
      · rw [List.getElem?_eq_none g] at h2; cases h2
    have hkeys : (m.set j (k, v)).map (·.1) = m.map (·.1) := by
      rw [List.map_set]
      refine List.ext_getElem? fun i => ?_
      rw [List.getElem?_set]
      by_cases hi : j = i
      · subst hi
        rw [if_pos rfl, List.getElem?_map, h2]; simp [hj]
      · rw [if_neg hi]
    refine ⟨_, ?_, ⟨es.modify j fun e => { e with key := enc k, val := v }, cl, m.set j (k, v), (heap_set hb).1, ?_, ?_, ?_, fun q => ?_⟩, map_setBlock hb _⟩
    · unfold Instr.mapUpdate
      simp [run_underlying ht, Go.MapKept.run_getObj_map hb, K.check w _ hl, h1, h3, h4, K.stays w hl, Go.MapKept.run_setObj_map _ hb, Result.andThen]
    · have e1 : (es.modify j fun e => { e with key := enc k, val := v }).toList.map (fun x => (x.key, x.val)) = (es.toList.map (fun x => (x.key, x.val))).set j (enc k, v) := by
        refine List.ext_getElem? fun i => ?_
        rw [List.getElem?_map, List.getElem?_set, Array.getElem?_toList, Array.getElem?_modify]
        have hjs : j < (es.toList.map (fun x => (x.key, x.val))).length := by rw [he, List.length_map]; exact hj
        by_cases hi : j = i
        · subst hi
          rw [if_pos rfl, if_pos rfl, if_pos hjs, h3]; rfl
        · rw [if_neg hi, if_neg hi, List.getElem?_map, Array.getElem?_toList]
      rw [e1, he, List.map_set]
    · rw [hkeys]; exact hn
    · intro x hx
      rcases List.mem_or_eq_of_mem_set hx with hx | rfl
      · exact hk x hx
      · exact ⟨l, hl⟩
    · show _ = if q = k then some v else f q
      by_cases hq : q = k
      · subst hq
        rw [if_pos rfl]
        exact kget_at (by rw [hkeys]; exact hn) (j := j) (by rw [List.getElem?_set_self hj])
      · rw [if_neg hq, ← hf q]
        cases hg : kget m q with
        | none =>
          refine kget_none fun x hx => ?_
          rcases List.mem_or_eq_of_mem_set hx with hx | rfl
          · intro e
            unfold kget at hg
            have := List.find?_eq_none.1 (Option.map_eq_none_iff.1 hg) x hx
            simp [e] at this
          · exact fun e => hq e.symm
        | some u2 =>
          unfold kget at hg
          obtain ⟨x, hx, hx2⟩ := Option.map_eq_some_iff.1 hg
          have hxq : x.1 = q := by simpa using List.find?_some hx
          obtain ⟨i, hi⟩ := List.getElem?_of_mem (List.mem_of_find?_eq_some hx)
          have hij : j ≠ i := by
            rintro rfl
            rw [h2] at hi
            obtain rfl := Option.some.inj hi
            exact hq hxq.symm
          refine kget_at (by rw [hkeys]; exact hn) (j := i) ?_
          rw [List.getElem?_set_ne hij, hi, ← hxq, ← hx2]
variable {ops : Array Oper} {Q : Exit → Act → World → Prop} {rest : List Oper} {o : Oper} {a : Act}
theorem does_kmap_put (hg : o.guard = none) (mo x vo : Operand) (t et : TypeId) (hop : o.op = Op.mapUpdate t mo x vo) (K : Keyed P kt) (hinj : ∀ a c : κ, enc a = enc c → a = c) (ht : P.underlying t = some (.map kt et)) (h : KMap P kt enc w b f)
    (hm : a.eval mo = .map (some b)) (k : κ) (hx : a.eval x = enc k) {l : Lit} (hl : keyOf P kt (enc k) = some l) (v : Value) (hv : a.eval vo = v) {R : Value → World → Prop}
    (hK : ∀ w', KMap P kt enc w' b (fun q => if q = k then some v else f q) → Keep (fun q => q = b) w w' → R undef w') : does P ops o a w R := by
  obtain ⟨w', hrun, r1, r2⟩ := run_kmap_put K hinj ht h hl v
  unfold does
  rw [if_pos (by simp [Region.wanted, hg])]
  simp [execOp, hop, hm, hx, hv, hrun, Result.andThen]
  exact hK w' r1 r2
end
end Go.Proofs.YtihdpijgngooaaaGreatDoor
namespace Go.Proofs.YtihdpijgngooaaaGreatDoor
open Go Go.RowKit
open Go.Maps (Keyed)
def twoV (e : Int × Int) : Value := .agg #[.int .i64 e.1, .int .i64 e.2]
theorem intV_inj (a c : Int) (h : Value.int .i64 a = Value.int .i64 c) : a = c := by injection h
theorem wf_small {a : Int} (h : 0 ≤ a ∧ a < 1000000) : (Lit.int .i64 a).wf = true := by
  simp [Lit.wf, IntKind.min, IntKind.max, IntKind.signed, IntKind.bits]
  omega
theorem int_keyed64 : Keyed Tryz.prog 3 := Go.Maps.int_keyed Tryz.underlying3
theorem key_int {a : Int} (h : 0 ≤ a ∧ a < 1000000) : ∃ l, keyOf Tryz.prog 3 (Value.int .i64 a) = some l := by
  refine ⟨.int .i64 a, ?_⟩
  simp [keyOf, mapKey, Tryz.underlying3, wf_small h]
end Go.Proofs.YtihdpijgngooaaaGreatDoor
namespace Go.Proofs.YtihdpijgngooaaaGreatDoor
open Go Go.RowKit
structure ElF (F : Nat → Prop) (v : Value) (n : Nat) (E : Nat → Addr → Prop) : Prop where
  form : ∃ a cap, v = .slice a n cap ∧ n ≤ cap ∧ (cap : Int) ≤ 9223372036854775807 ∧ (0 < n → ∃ y, a = some y) ∧ ∀ y, a = some y → 0 < n → F y.block ∧ ∀ i, i < n → E i y
section
variable {F G X : Nat → Prop} {w w' : World} {n0 n : Nat} {v v1 v2 v3 : Value} {E E' : Nat → Addr → Prop}
theorem ElF.mono (h : ElF F v n E) (hF : ∀ b, F b → G b) (hE : ∀ i y, i < n → F y.block → E i y → E' i y) : ElF G v n E' := by
  obtain ⟨a, cap, h1, h2, h3, h4, h5⟩ := h
  exact ⟨a, cap, h1, h2, h3, h4, fun y hy h0 => ⟨hF _ (h5 y hy h0).1, fun i hi => hE i y hi (h5 y hy h0).1 ((h5 y hy h0).2 i hi)⟩⟩
theorem ElF.toR (h : ElF F v n E) (hF : ∀ b, F b → b < n0) (hE : ∀ i y, i < n → F y.block → E i y → E' i y) : ElR n0 v n E' := by
  obtain ⟨a, cap, h1, h2, h3, h4, h5⟩ := h
  exact ⟨a, cap, h1, h2, h3, h4, fun y hy h0 => ⟨hF _ (h5 y hy h0).1, fun i hi => hE i y hi (h5 y hy h0).1 ((h5 y hy h0).2 i hi)⟩⟩
theorem ElF.ofR (h : ElR n0 v n E) (hF : ∀ b, b < n0 → F b) (hE : ∀ i y, i < n → y.block < n0 → E i y → E' i y) : ElF F v n E' := by
  obtain ⟨a, cap, h1, h2, h3, h4, h5⟩ := h
  exact ⟨a, cap, h1, h2, h3, h4, fun y hy h0 => ⟨hF _ (h5 y hy h0).1, fun i hi => hE i y hi (h5 y hy h0).1 ((h5 y hy h0).2 i hi)⟩⟩
def StrsF (w : World) (F : Nat → Prop) (v : Value) (l : List ByteArray) : Prop := ElF F v l.length fun i y => ∀ s, l[i]? = some s → w.cell? (y.add i) = some (.string s)
def IntsF (w : World) (F : Nat → Prop) (v : Value) (l : List Int) : Prop := ElF F v l.length fun i y => ∀ s, l[i]? = some s → w.cell? (y.add i) = some (.int .i64 s)
def FunsF (w : World) (F : Nat → Prop) (v : Value) (l : List PF) : Prop := ElF F v l.length fun i y => ∀ f, l[i]? = some f → ∃ pv, w.cell? (y.add (i * 3)) = some (.string f.name) ∧ w.cell? ((y.add (i * 3)).add 1) = some pv ∧ w.cell? ((y.add (i * 3)).add 2) = some (.int .i64 f.ret) ∧ IntsF w F pv f.params
def StmtsF (w : World) (F : Nat → Prop) (v : Value) (l : List PS) : Prop := ElF F v l.length fun i y => ∀ s, l[i]? = some s → ∃ av, w.cell? (y.add (i * 4)) = some (.string s.kind) ∧ w.cell? ((y.add (i * 4)).add 1) = some (.int .i64 s.x) ∧ w.cell? ((y.add (i * 4)).add 2) = some (.int .i64 s.y) ∧ w.cell? ((y.add (i * 4)).add 3) = some av ∧ IntsF w F av s.args
structure ProgF (w : World) (F : Nat → Prop) (v1 v2 v3 : Value) (P : PP) : Prop where
  vars : StrsF w F v1 P.vars
  funs : FunsF w F v2 P.funs
  stmts : StmtsF w F v3 P.stmts
theorem StrsF.keep {l : List ByteArray} (h : StrsF w F v l) (k : Keep X w w') (hX : ∀ b, F b → ¬ X b) (hG : ∀ b, F b → G b) : StrsF w' G v l :=
  ElF.mono h hG fun i y _ hy hE s hs => k.cellx (hE s hs) (by rw [add_block]; exact hX _ hy)
theorem IntsF.keep {l : List Int} (h : IntsF w F v l) (k : Keep X w w') (hX : ∀ b, F b → ¬ X b) (hG : ∀ b, F b → G b) : IntsF w' G v l :=
  ElF.mono h hG fun i y _ hy hE s hs => k.cellx (hE s hs) (by rw [add_block]; exact hX _ hy)
theorem FunsF.keep {l : List PF} (h : FunsF w F v l) (k : Keep X w w') (hX : ∀ b, F b → ¬ X b) (hG : ∀ b, F b → G b) : FunsF w' G v l :=
  ElF.mono h hG fun i y _ hy hE s hs => by
    obtain ⟨pv, h1, h2, h3, h4⟩ := hE s hs
    exact ⟨pv, k.cellx h1 (by rw [add_block]; exact hX _ hy), k.cellx h2 (by rw [add_block, add_block]; exact hX _ hy), k.cellx h3 (by rw [add_block, add_block]; exact hX _ hy), h4.keep k hX hG⟩
theorem StmtsF.keep {l : List PS} (h : StmtsF w F v l) (k : Keep X w w') (hX : ∀ b, F b → ¬ X b) (hG : ∀ b, F b → G b) : StmtsF w' G v l :=
  ElF.mono h hG fun i y _ hy hE s hs => by
    obtain ⟨pv, h1, h2, h3, h4, h5⟩ := hE s hs
    exact ⟨pv, k.cellx h1 (by rw [add_block]; exact hX _ hy), k.cellx h2 (by rw [add_block, add_block]; exact hX _ hy), k.cellx h3 (by rw [add_block, add_block]; exact hX _ hy), k.cellx h4 (by rw [add_block, add_block]; exact hX _ hy), h5.keep k hX hG⟩
theorem ProgF.keep {P : PP} (h : ProgF w F v1 v2 v3 P) (k : Keep X w w') (hX : ∀ b, F b → ¬ X b) (hG : ∀ b, F b → G b) : ProgF w' G v1 v2 v3 P := ⟨h.vars.keep k hX hG, h.funs.keep k hX hG, h.stmts.keep k hX hG⟩
theorem IntsF.toR {l : List Int} (h : IntsF w F v l) (hF : ∀ b, F b → b < n0) : IntsR w n0 v l := ElF.toR h hF fun _ _ _ _ h => h
theorem IntsF.ofR {l : List Int} (h : IntsR w n0 v l) (hF : ∀ b, b < n0 → F b) : IntsF w F v l := ElF.ofR h hF fun _ _ _ _ h => h
theorem ProgF.toR {P : PP} (h : ProgF w F v1 v2 v3 P) (hF : ∀ b, F b → b < n0) : ProgR w n0 v1 v2 v3 P :=
  ⟨ElF.toR h.vars hF fun _ _ _ _ h => h,
   ElF.toR h.funs hF fun i y _ _ hE s hs => (let ⟨pv, h1, h2, h3, h4⟩ := hE s hs; ⟨pv, h1, h2, h3, h4.toR hF⟩),
   ElF.toR h.stmts hF fun i y _ _ hE s hs => (let ⟨pv, h1, h2, h3, h4, h5⟩ := hE s hs; ⟨pv, h1, h2, h3, h4, h5.toR hF⟩)⟩
theorem ProgF.ofR {P : PP} (h : ProgR w n0 v1 v2 v3 P) (hF : ∀ b, b < n0 → F b) : ProgF w F v1 v2 v3 P :=
  ⟨ElF.ofR h.vars hF fun _ _ _ _ h => h,
   ElF.ofR h.funs hF fun i y _ _ hE s hs => (let ⟨pv, h1, h2, h3, h4⟩ := hE s hs; ⟨pv, h1, h2, h3, IntsF.ofR h4 hF⟩),
   ElF.ofR h.stmts hF fun i y _ _ hE s hs => (let ⟨pv, h1, h2, h3, h4, h5⟩ := hE s hs; ⟨pv, h1, h2, h3, h4, IntsF.ofR h5 hF⟩)⟩
def ErrB (ad : Nat → Addr) (b : Nat) : Prop := b = 0 ∨ b = 2 ∨ b = 1 ∨ b = 4 ∨ b = 6 ∨ b = 7 ∨ b = 8 ∨ b = (ad 5).block ∨ b = (ad 7).block
theorem ErrsP.keep {ad : Nat → Addr} (h : ErrsP w ad) (k : Keep X w w') (hX : ∀ b, ErrB ad b → ¬ X b) : ErrsP w' ad :=
  ⟨k.cellx h.at2 (hX _ (.inl rfl)), k.cellx h.at3 (hX _ (.inr (.inl rfl))), k.cellx h.at4 (hX _ (.inr (.inr (.inl rfl)))), k.cellx h.at5 (hX _ (.inr (.inr (.inr (.inl rfl))))), k.cellx h.at7 (hX _ (.inr (.inr (.inr (.inr (.inl rfl)))))), k.cellx h.at8 (hX _ (.inr (.inr (.inr (.inr (.inr (.inl rfl))))))), k.cellx h.at9 (hX _ (.inr (.inr (.inr (.inr (.inr (.inr (.inl rfl)))))))), h.ne57,
   (let ⟨cs, t, e⟩ := h.row5; ⟨cs, t, k.get e (hX _ (.inr (.inr (.inr (.inr (.inr (.inr (.inr (.inl rfl)))))))))⟩), (let ⟨cs, t, e⟩ := h.row7; ⟨cs, t, k.get e (hX _ (.inr (.inr (.inr (.inr (.inr (.inr (.inr (.inr rfl)))))))))⟩)⟩
theorem ErrsP.lt {ad : Nat → Addr} (h : ErrsP w ad) {b : Nat} (hb : ErrB ad b) : b < w.heap.size := by
  rcases hb with rfl | rfl | rfl | rfl | rfl | rfl | rfl | rfl | rfl
  · exact cell_lt h.at2
  · exact cell_lt h.at3
  · exact cell_lt h.at4
  · exact cell_lt h.at5
  · exact cell_lt h.at7
  · exact cell_lt h.at8
  · exact cell_lt h.at9
  · obtain ⟨cs, t, e⟩ := h.row5; exact (Array.getElem?_eq_some_iff.1 e).1
  · obtain ⟨cs, t, e⟩ := h.row7; exact (Array.getElem?_eq_some_iff.1 e).1
structure PWF (w : World) (F : Nat → Prop) (ad : Nat → Addr) (a1 a2 a3 : Option Addr) (c1 c2 c3 : Nat) (P : PP) : Prop where
  lt : ∀ b, F b → b < w.heap.size
  ef : ∀ b, ErrB ad b → F b
  errs : ErrsP w ad
  prog : ProgF w F (.slice a1 P.vars.length c1) (.slice a2 P.funs.length c2) (.slice a3 P.stmts.length c3) P
  z1 : ∀ s ∈ P.vars, s.size ≤ 1000000
  z2 : ∀ s ∈ P.names, s.size ≤ 1000000
  well : P.Well
variable {ad : Nat → Addr} {a1 a2 a3 : Option Addr} {c1 c2 c3 : Nat} {P : PP}
theorem PWF.pw (h : PWF w F ad a1 a2 a3 c1 c2 c3 P) : PW w w.heap.size ad a1 a2 a3 c1 c2 c3 P := ⟨h.errs, h.prog.toR h.lt, h.z1, h.z2, h.well⟩
theorem PWF.keep (h : PWF w F ad a1 a2 a3 c1 c2 c3 P) (k : Keep X w w') (hX : ∀ b, F b → ¬ X b) : PWF w' F ad a1 a2 a3 c1 c2 c3 P :=
  ⟨fun b hb => Nat.lt_of_lt_of_le (h.lt b hb) k.size, h.ef, h.errs.keep k fun b hb => hX b (h.ef b hb), h.prog.keep k hX fun _ h => h, h.z1, h.z2, h.well⟩
theorem PWF.ext (h : PWF w F ad a1 a2 a3 c1 c2 c3 P) (x : Ext w w') : PWF w' F ad a1 a2 a3 c1 c2 c3 P := h.keep (x.keep fun _ => False) fun _ _ h => h
theorem PWF.more (h : PWF w F ad a1 a2 a3 c1 c2 c3 P) (hF : ∀ b, F b → G b) (hG : ∀ b, G b → b < w.heap.size) : PWF w G ad a1 a2 a3 c1 c2 c3 P :=
  ⟨hG, fun b hb => hF b (h.ef b hb), h.errs, h.prog.keep (Keep.refl (fun _ => False) w) (fun _ _ h => h) hF, h.z1, h.z2, h.well⟩
theorem PWF.of (h : PW w n0 ad a1 a2 a3 c1 c2 c3 P) (hn : n0 ≤ w.heap.size) : PWF w (fun b => b < w.heap.size) ad a1 a2 a3 c1 c2 c3 P :=
  ⟨fun _ h => h, fun b hb => h.errs.lt hb, h.errs, ProgF.ofR h.prog fun b hb => Nat.lt_of_lt_of_le hb hn, h.z1, h.z2, h.well⟩
end
def OwnsQ (w : World) (base : Nat) (e : TypeId) (size : Nat) (v : Value) (n : Nat) (xs : List Value) : Prop :=
  xs.length = n * size ∧ ((v = .slice none 0 0 ∧ n = 0) ∨ ∃ g off cap cur, v = .slice (some ⟨g, off, none⟩) n cap ∧ base ≤ g ∧ Blk w g cur e ∧ n ≤ cap ∧ off + cap * size ≤ cur.size ∧ (cur.toList.drop off).take (n * size) = xs)
section
variable {w w' : World} {base : Nat} {e : TypeId} {size n : Nat} {v : Value} {xs : List Value}
theorem OwnsQ.ofRow (h : w.ownsRow base e size v n xs) : OwnsQ w base e size v n xs := by
  refine ⟨h.1, h.2.imp id ?_⟩
  rintro ⟨g, cap, cur, h1, h2, h3, h4, h5, h6, h7⟩
  exact ⟨g, 0, cap, cur, h1, h2, h3, h4, by omega, h7⟩
theorem OwnsQ.nil (w : World) (base : Nat) (e : TypeId) (size : Nat) : OwnsQ w base e size (.slice none 0 0) 0 [] := .ofRow (World.ownsRow_nil _ _ _ _)
theorem OwnsQ.form (h : OwnsQ w base e size v n xs) : ∃ a c, v = .slice a n c := by
  rcases h.2 with ⟨h1, h2⟩ | ⟨g, off, cap, cur, h1, _⟩
  · exact ⟨none, 0, by rw [h1, h2]⟩
  · exact ⟨_, _, h1⟩
theorem OwnsQ.keep {X : Nat → Prop} (h : OwnsQ w base e size v n xs) (k : Keep X w w') (hx : ∀ i, v.ownBlock = some i → ¬ X i) : OwnsQ w' base e size v n xs := by
  refine ⟨h.1, h.2.imp id ?_⟩
  rintro ⟨g, off, cap, cur, rfl, h2, h3, h4⟩
  exact ⟨g, off, cap, cur, rfl, h2, h3.keep k (hx g rfl), h4⟩
theorem OwnsQ.ext (h : OwnsQ w base e size v n xs) (x : Ext w w') : OwnsQ w' base e size v n xs := h.keep (x.keep fun _ => False) fun _ _ h => h
theorem OwnsQ.ty (h : OwnsQ w base e size v n xs) {k : Nat} (hk : v.ownBlock = some k) : base ≤ k ∧ ∃ c, Blk w k c e := by
  rcases h.2 with ⟨rfl, _⟩ | ⟨g, off, cap, cur, rfl, h2, h3, _⟩
  · cases hk
  · obtain rfl := Option.some.inj hk
    exact ⟨h2, cur, h3⟩
theorem OwnsQ.get {g off cap : Nat} (h : OwnsQ w base e size (.slice (some ⟨g, off, none⟩) n cap) n xs) (i : Nat) {u : Value} (hu : xs[i]? = some u) : w.cell? ⟨g, off + i, none⟩ = some u := by
  rcases h.2 with ⟨h1, _⟩ | ⟨g', off', cap', cur, h1, h2, h3, h4, h5, h6⟩
  · cases h1
  · simp only [Value.slice.injEq, Option.some.injEq, Addr.mk.injEq, and_true, true_and] at h1
    obtain ⟨⟨rfl, rfl⟩, rfl⟩ := h1
    rw [h3.cell, ← Array.getElem?_toList]
    rw [← h6, List.getElem?_take] at hu
    split at hu
    · rwa [List.getElem?_drop] at hu
    · cases hu
theorem OwnsQ.tail {g off cap : Nat} (h : OwnsQ w base e size (.slice (some ⟨g, off, none⟩) n cap) n xs) (hn : 0 < n) : OwnsQ w base e size (.slice (some (if cap = 1 then ⟨g, off, none⟩ else ⟨g, off + size, none⟩)) (n - 1) (cap - 1)) (n - 1) (xs.drop size) := by
  rcases h.2 with ⟨h1, _⟩ | ⟨g', off', cap', cur, h1, h2, h3, h4, h5, h6⟩
  · cases h1
  · simp only [Value.slice.injEq, Option.some.injEq, Addr.mk.injEq, and_true, true_and] at h1
    obtain ⟨⟨rfl, rfl⟩, rfl⟩ := h1
    obtain ⟨m, rfl⟩ : ∃ m, n = m + 1 := ⟨n - 1, by omega⟩
    obtain ⟨c, rfl⟩ : ∃ c, cap = c + 1 := ⟨cap - 1, by omega⟩
    have e1 : (m + 1) * size = m * size + size := by rw [Nat.add_mul, Nat.one_mul]
    have e2 : (c + 1) * size = c * size + size := by rw [Nat.add_mul, Nat.one_mul]
    refine ⟨by rw [List.length_drop, h.1, e1]; simp, .inr ?_⟩
    by_cases hc : c = 0
    · subst hc
      obtain rfl : m = 0 := by omega
      refine ⟨g, off, 0, cur, by simp, h2, h3, Nat.le_refl _, by omega, ?_⟩
      have := h.1
      simp at this ⊢
      omega
    · refine ⟨g, off + size, c, cur, by rw [if_neg (by omega)]; simp, h2, h3, by omega, by omega, ?_⟩
      rw [← h6, List.drop_take, List.drop_drop, e1]
      congr 1
      · simp
end
def trCells (l : List Bool) : List Value := l.map Value.bool
theorem trCells_at {l : List Bool} {i : Nat} (h : i < l.length) : (trCells l)[i]? = some (.bool (l.getD i false)) := by
  unfold trCells
  rw [List.getElem?_map, List.getD_eq_getElem?_getD, List.getElem?_eq_getElem h]; rfl
def TrRow (base : Nat) (w : World) (v : Value) (l : List Bool) : Prop := w.ownsRow base 4 1 v l.length (trCells l)
def IsB (w : World) (b : Nat) : Prop := ∃ c, Blk w b c 4
structure BBags (w : World) (base : Nat) (vs : List Value) (B : List (List Bool)) : Prop where
  len : vs.length = B.length
  row : ∀ (i : Nat) v l, vs[i]? = some v → B[i]? = some l → TrRow base w v l
  apart : ∀ (i j : Nat) v u b, i ≠ j → vs[i]? = some v → vs[j]? = some u → v.ownBlock = some b → ¬ u.ownBlock = some b
section
variable {w w' : World} {base : Nat} {vs : List Value} {B : List (List Bool)}
theorem BBags.nil (w : World) (base : Nat) : BBags w base [] [] := ⟨rfl, fun _ _ _ h => by simp at h, fun _ _ _ _ _ _ h => by simp at h⟩
theorem BBags.keep {X : Nat → Prop} (h : BBags w base vs B) (k : Keep X w w') (hX : ∀ b, X b → ¬ IsB w b) : BBags w' base vs B :=
  ⟨h.len, fun i v l h1 h2 => row_keep (h.row i v l h1 h2) k fun b hb hx => hX b hx (own_ty (h.row i v l h1 h2) hb), h.apart⟩
theorem BBags.ext (h : BBags w base vs B) (x : Ext w w') : BBags w' base vs B := h.keep (x.keep fun _ => False) fun _ h => h.elim
theorem BBags.at (h : BBags w base vs B) {i : Nat} (hi : i < B.length) : ∃ v l, vs[i]? = some v ∧ B[i]? = some l ∧ TrRow base w v l :=
  ⟨vs[i]'(by rw [h.len]; exact hi), B[i], List.getElem?_eq_getElem _, List.getElem?_eq_getElem _, h.row i _ _ (List.getElem?_eq_getElem _) (List.getElem?_eq_getElem _)⟩
theorem BBags.push (h : BBags w base vs B) (x : Ext w w') {v : Value} {l : List Bool} (hr : TrRow base w' v l) (hn : ∀ b, v.ownBlock = some b → w.heap.size ≤ b) : BBags w' base (vs ++ [v]) (B ++ [l]) := by
  have hlt : ∀ (i : Nat) u b, vs[i]? = some u → u.ownBlock = some b → b < w.heap.size := fun i u b hu hb => by
    have hi : i < vs.length := by
      rcases Nat.lt_or_ge i vs.length with g | g
      · exact g
      · rw [List.getElem?_eq_none g] at hu; cases hu
    obtain ⟨m, hm⟩ : ∃ m, B[i]? = some m := ⟨_, List.getElem?_eq_getElem (by rw [← h.len]; exact hi)⟩
    exact (World.ownsRow.lt (h.row i u m hu hm) b hb).2
  have hat : ∀ (i : Nat) u, (vs ++ [v])[i]? = some u → (i < vs.length ∧ vs[i]? = some u) ∨ (i = vs.length ∧ u = v) := fun i u hu => by
    rcases Nat.lt_trichotomy i vs.length with g | g | g
    · rw [List.getElem?_append_left g] at hu
      exact .inl ⟨g, hu⟩
    · subst g
      rw [List.getElem?_concat_length] at hu
      exact .inr ⟨rfl, (Option.some.inj hu).symm⟩
    · rw [List.getElem?_eq_none (by rw [List.length_append, List.length_singleton]; omega)] at hu
      cases hu
  refine ⟨by rw [List.length_append, List.length_append, h.len]; rfl, fun i u m hu hm => ?_, fun i j u z b hij hu hz hb hz' => ?_⟩
  · rcases hat i u hu with ⟨hi, hu'⟩ | ⟨rfl, rfl⟩
    · rw [List.getElem?_append_left (by rw [← h.len]; exact hi)] at hm
      exact (h.ext x).row i u m hu' hm
    · rw [h.len, List.getElem?_concat_length] at hm
      obtain rfl := Option.some.inj hm
      exact hr
  · rcases hat i u hu with ⟨hi, hu'⟩ | ⟨hi, rfl⟩ <;> rcases hat j z hz with ⟨hj, hz''⟩ | ⟨hj, rfl⟩
    · exact h.apart i j u z b hij hu' hz'' hb hz'
    · have := hlt i u b hu' hb
      have := hn b hz'
      omega
    · have := hlt j z b hz'' hz'
      have := hn b hb
      omega
    · omega
theorem BBags.set {i j g cap n : Nat} {l : List Bool} (h : BBags w base vs B) (hv : vs[i]? = some (.slice (some ⟨g, 0, none⟩) n cap)) (hl : B[i]? = some l) (hj : j < l.length) (x : Bool) :
    BBags (w.setCell ⟨g, j, none⟩ (.bool x)) base vs (B.set i (l.set j x)) := by
  have hi : i < B.length := by
    rcases Nat.lt_or_ge i B.length with k | k
    · exact k
    · rw [List.getElem?_eq_none k] at hl; cases hl
  have hk : Keep (fun q => q = g) w (w.setCell ⟨g, j, none⟩ (.bool x)) := (Keep.refl (fun q => q = g) w).set rfl _
  refine ⟨by rw [List.length_set]; exact h.len, fun p u m hu hm => ?_, h.apart⟩
  by_cases hp : i = p
  · subst hp
    rw [List.getElem?_set_self hi] at hm
    obtain rfl := Option.some.inj hm
    obtain rfl := Option.some.inj (hv.symm.trans hu)
    have hr := h.row i _ l hv hl
    unfold TrRow at hr ⊢
    obtain ⟨a', c', e'⟩ := row_form hr
    simp only [Value.slice.injEq] at e'
    obtain ⟨rfl, rfl, rfl⟩ := e'
    rw [List.length_set, show trCells (l.set j x) = (trCells l).set j (.bool x) by unfold trCells; rw [List.map_set]]
    exact own_set hr j (by unfold trCells; rw [List.length_map]; exact hj) _
  · rw [List.getElem?_set_ne hp] at hm
    exact row_keep (h.row p u m hu hm) hk fun b hb1 hb2 => h.apart i p _ u b hp hv hu (by subst hb2; rfl) hb1
end
def fCells (f : Int × Int) : List Value := [.int .i64 f.1, .int .i64 f.2]
def rowOf (f1 : Int → Option Value) (n : Int) : Value := (f1 n).getD (.slice none 0 0)
def seenF (l : List (Int × Int)) (e : Int × Int) : Option Value := if e ∈ l then some (.bool true) else none
def solvCells (a1 a2 a3 : Option Addr) (c1 c2 c3 : Nat) (P : PP) (vr vh : Value) (m1 m2 : Nat) (vw : Value) : Array Value :=
  #[.slice a1 P.vars.length c1, .slice a2 P.funs.length c2, .slice a3 P.stmts.length c3, vr, vh, .map (some m1), .map (some m2), .slice none 0 0, vw]
theorem KMap.not_blk {κ : Type} [DecidableEq κ] {Q : Program} {kt : TypeId} {enc : κ → Value} {w : World} {b : Nat} {f : κ → Option Value} (h : KMap Q kt enc w b f) {c : Array Value} {e : TypeId} : ¬ Blk w b c e := fun hb => h.ne hb rfl
theorem OwnsQ.off {w w' : World} {base : Nat} {e : TypeId} {size n : Nat} {v : Value} {xs : List Value} {X : Nat → Prop} (h : OwnsQ w base e size v n xs) (k : Keep X w w') (hX : ∀ b, X b → ¬ ∃ c, Blk w b c e) : OwnsQ w' base e size v n xs :=
  h.keep k fun b hb hx => hX b hx (h.ty hb).2
theorem off_of {w : World} {b : Nat} {c : Array Value} {e e' : TypeId} (h : Blk w b c e) (hne : e ≠ e') : ¬ ∃ c, Blk w b c e' := by
  rintro ⟨c', h'⟩
  have := h.symm.trans h'
  simp at this
  exact hne this.2
section
variable {w w' : World} {G F : Nat → Prop} {g : Nat} {ad : Nat → Addr} {a1 a2 a3 : Option Addr} {c1 c2 c3 : Nat} {P : PP} {vr : Value} {rs : List R2} {vh : Value} {hs : List Value} {m1 m2 : Nat} {f1 : Int → Option Value} {vw : Value} {s : SV}
end
theorem int_info1 : (Tryz.prog.info? 3).map (fun i => (i.zero, i.size, i.bytes)) = some (some (.int .i64 0), 1, 8) := by kernel_rfl
theorem zero_bool (w : World) : (zeroValue 4).run Tryz.prog w = .ok (.bool false) w := by kernel_rfl
theorem zero_ints (w : World) : (zeroValue 43).run Tryz.prog w = .ok (.slice none 0 0) w := by kernel_rfl
def objsUp (l : List Bool) (k : Nat) : List Int := ((List.range k).filter fun o => l.getD o false).map fun o : Nat => (o : Int)
theorem look_succ {w : World} {m1 : Nat} {f1 : Int → Option Value} (h : KMap Tryz.prog 3 (Value.int .i64) w m1 f1) {n : Int} (hn : 0 ≤ n ∧ n < 1000000) :
    (Instr.lookup 106 (.map (some m1)) (.int .i64 n) false).run Tryz.prog w = .ok (rowOf f1 n) w := by
  obtain ⟨k, hk⟩ := key_int hn
  have := run_kmap_lookup int_keyed64 intV_inj Tryz.underlying106 h hk (zero_ints w) false
  rw [this]; rfl
structure NextB (w : World) (base m : Nat) (E : List (Int × Int)) (f : Int → Option Value) : Prop where
  map : KMap Tryz.prog 3 (Value.int .i64) w m f
  low : base ≤ m
  row : ∀ k, IRow base w (rowOf f k) (succL E k)
  apart : ∀ n k b, n ≠ k → (rowOf f n).ownBlock = some b → ¬ (rowOf f k).ownBlock = some b
def NextAt (w : World) (base m : Nat) (E : List (Int × Int)) : Prop := ∃ f, NextB w base m E f
section
variable {w w' : World} {base m : Nat} {E : List (Int × Int)} {f : Int → Option Value}
theorem NextB.ext (h : NextB w base m E f) (x : Ext w w') : NextB w' base m E f := ⟨h.map.ext x, h.low, fun k => own_ext (h.row k) x, h.apart⟩
theorem NextAt.ext (h : NextAt w base m E) (x : Ext w w') : NextAt w' base m E := by
  obtain ⟨f, h⟩ := h
  exact ⟨f, h.ext x⟩
theorem NextB.put (h : NextB w base m E f) {e : Int × Int} {wa wb : World} (x : Ext w wa) (k1 : Keep (fun q => (rowOf f e.1).ownBlock = some q) wa wb) {v : Value} (hv : IRow base wb v (succL E e.1 ++ [e.2])) (hvb : ∀ b, v.ownBlock = some b → (rowOf f e.1).ownBlock = some b ∨ w.heap.size ≤ b)
    (k2 : Keep (fun q => q = m) wb w') (hm : KMap Tryz.prog 3 (Value.int .i64) w' m (fun q => if q = e.1 then some v else f q)) : NextB w' base m (E ++ [e]) (fun q => if q = e.1 then some v else f q) := by
  have hro : ∀ k, rowOf (fun q => if q = e.1 then some v else f q) k = if k = e.1 then v else rowOf f k := fun k => by
    unfold rowOf
    simp only
    by_cases g : k = e.1
    · rw [if_pos g, if_pos g]; rfl
    · rw [if_neg g, if_neg g]
  have hnm : ∀ {k : Int} {b : Nat}, (rowOf f k).ownBlock = some b → b ≠ m := fun {k b} hb e2 => by
    obtain ⟨c, hc⟩ := own_ty (h.row k) hb
    rw [e2] at hc
    exact h.map.not_blk hc
  have hlt : ∀ {k : Int} {b : Nat}, (rowOf f k).ownBlock = some b → b < w.heap.size := fun hb => (World.ownsRow.lt (h.row _) _ hb).2
  refine ⟨hm, h.low, fun k => ?_, fun n k b hnk hb hb2 => ?_⟩
  · rw [hro, succL_add]
    by_cases g : k = e.1
    · subst g
      rw [if_pos rfl, if_pos rfl]
      refine row_keep hv k2 fun b hb e2 => ?_
      rcases hvb b hb with g | g
      · exact hnm g e2
      · have := h.map.lt; omega
    · rw [if_neg g, if_neg (fun e2 => g e2.symm), List.append_nil]
      exact row_keep (row_keep (own_ext (h.row k) x) k1 fun b hb hx => h.apart k e.1 b g hb hx) k2 fun b hb e2 => hnm hb e2
  · rw [hro] at hb hb2
    by_cases g1 : n = e.1
    · rw [if_pos g1] at hb
      rw [if_neg (fun e2 => hnk (g1.trans e2.symm))] at hb2
      rcases hvb b hb with g | g
      · exact h.apart e.1 k b (fun e2 => hnk (g1.trans e2)) g hb2
      · have := hlt hb2; omega
    · rw [if_neg g1] at hb
      by_cases g2 : k = e.1
      · rw [if_pos g2] at hb2
        rcases hvb b hb2 with g | g
        · exact h.apart n e.1 b g1 hb g
        · have := hlt hb; omega
      · rw [if_neg g2] at hb2
        exact h.apart n k b hnk hb hb2
end
set_option maxRecDepth 100000 in
set_option maxHeartbeats 6400000 in
theorem cyclenexts_any (v : Value) (E : List (Int × Int)) (w : World) (n0 n : Nat) (hr : EsR w n0 v E) (hl : E.length ≤ 100000) (hE : EIn n E) (hn : n ≤ 1000) :
    Calls Tryz.prog 59 #[v] w fun e w' => ∃ m, e = .returned (.map (some m)) ∧ NextAt w' w.heap.size m E ∧ Ext w w' := by
  obtain ⟨al, cl, rfl⟩ := hr.form2
  have HR0 := hid hr
  have HE := hid hE
  obtain ⟨W1, hW1⟩ : ∃ W1, W1 = w.alloc (.map #[] 0) := ⟨_, rfl⟩
  have HX1 : Hid (Ext w W1) := hid (by rw [hW1]; exact (Ext.refl _).alloc _)
  have HB1 : Hid (NextB W1 w.heap.size w.heap.size [] (fun _ => none)) := hid ⟨by rw [hW1]; exact KMap.new _ _ _ _, Nat.le_refl _, fun k => World.ownsRow_nil _ _ _ _, fun n k b _ hb => by simp [rowOf, Value.ownBlock] at hb⟩
  have HW1 := hid hW1
  have hmm := @run_makeMap Tryz.prog
  clear hr hE hW1
  go_enter Tryz.func59, Tryz.ntmps59
  go_wp2
  rw [← HW1.out]
  clear hmm
  obtain ⟨M, hM⟩ : ∃ M, M = w.heap.size := ⟨_, rfl⟩
  have HMe := hid hM
  rw [← hM]
  rw [← hM] at HB1
  clear hM
  go_loopw [9] (fun t9 wr => ∃ (i : Nat) (f : Int → Option Value), t9 = .int .i64 (i : Int) ∧ i ≤ E.length ∧ NextB wr M M (E.take i) f ∧ Ext w wr) (fun t9 _ => E.length - (intOf t9).toNat)
  case atStart => exact ⟨0, _, rfl, Nat.zero_le _, HB1.out, HX1.out⟩
  case round =>
    obtain ⟨i, f, rfl, hi, hB, hx⟩ := hrel
    have HB := hid hB
    have Hx := hid hx
    clear hB hx
    by_cases hlt : i < E.length
    · obtain ⟨e, he⟩ : ∃ e, E[i]? = some e := ⟨_, List.getElem?_eq_getElem hlt⟩
      obtain ⟨y, rfl, hyb, q0, q1⟩ := (HR0.out.ext Hx.out).at2 he
      have hein := HE.out e (List.mem_of_getElem? he)
      obtain ⟨x1, x2⟩ := e
      simp only at q0 q1 hein
      obtain ⟨wA, hwA⟩ : ∃ wA, wA = wr.alloc (.cells #[.int .i64 x1, .int .i64 x2] 95) := ⟨_, rfl⟩
      have HxA : Hid (Ext wr wA) := hid (by rw [hwA]; exact (Ext.refl _).alloc _)
      have HbA : Hid (Blk wA wr.heap.size #[.int .i64 x1, .int .i64 x2] 95) := hid (by rw [hwA]; exact Blk.new _ _ _)
      have HBA := hid (HB.out.ext HxA.out)
      have Htk : Hid (E.take (i + 1) = E.take i ++ [(x1, x2)]) := hid (by rw [List.take_add_one, he]; rfl)
      have hfew : (succL (E.take i) x1).length ≤ 100000 := by
        have h1 := succL_len (E.take i) x1
        rw [List.length_take] at h1
        omega
      obtain ⟨ar, cr, hro⟩ := row_form (HBA.out.row x1)
      have Hro := hid hro
      have hX : ∀ (b : Nat) (e : TypeId), (rowOf f x1).ownBlock = some b → 3 ≠ e → ∀ c, ¬ Blk wA b c e := fun b e hb he c hc => by
        obtain ⟨c', hc'⟩ := own_ty (HBA.out.row x1) hb
        exact off_of hc' he ⟨_, hc⟩
      have HXm : Hid (¬ (rowOf f x1).ownBlock = some M) := hid fun hb => by
        obtain ⟨c', hc'⟩ := own_ty (HBA.out.row x1) hb
        exact HBA.out.map.not_blk hc'
      have d0 := HbA.out.kc (X := fun q => (rowOf f x1).ownBlock = some q) (fun hb => hX _ _ hb (by decide) _ HbA.out) 0 rfl
      have d1 := HbA.out.kc (X := fun q => (rowOf f x1).ownBlock = some q) (fun hb => hX _ _ hb (by decide) _ HbA.out) 1 rfl
      simp only [qA0, qA1, qA2] at d0 d1
      have HLu : Hid (∀ w1, Keep (fun q => (rowOf f x1).ownBlock = some q) wA w1 → (Instr.lookup 106 (.map (some M)) (.int .i64 x1) false).run Tryz.prog w1 = .ok (.slice ar (succL (E.take i) x1).length cr) w1) := hid fun w1 k => by
        rw [look_succ (HBA.out.map.keep k HXm.out) (by omega), hro]
      obtain ⟨lk, hlk⟩ := key_int (a := x1) (by omega)
      have Hlk := hid hlk
      have HwA := hid hwA
      clear he hwA hX hlk hro
      go_wp2
      rw [← HwA.out]
      clear q0 q1
      refine wp_flowT (fun q => (rowOf f x1).ownBlock = some q) (by kernel_rfl) (by kernel_rfl) ?_
      repeat (apply FlowT.d; (intro w1 hk; unfold does; go_simp; (try go_ints); (first | exact DetR.mk | (simp only [↓IntWalk.iteOmega, Oper.doesUpon_value]; exact DetR.mk) | (simp only [↓IntWalk.iteOmega]; go_simp; (try go_ints); exact DetR.mk))); simp only [Act.put, qS0, qS1, qS2])
      apply FlowT.d
      · intro w1 hk
        unfold does
        go_simp
        rw [HLu.out w1 hk]
        go_simp
        exact DetR.mk
      simp only [Act.put, qS0, qS1, qS2]
      repeat (apply FlowT.d; (intro w1 hk; unfold does; go_simp; (try go_ints); (first | exact DetR.mk | (simp only [↓IntWalk.iteOmega, Oper.doesUpon_value]; exact DetR.mk) | (simp only [↓IntWalk.iteOmega]; go_simp; (try go_ints); exact DetR.mk))); simp only [Act.put, qS0, qS1, qS2])
      refine FlowT.s (fun v' w' => ∃ q, v' = .slice (some ⟨q, 0, none⟩) 1 1 ∧ Blk w' q #[.int .i64 x2] 3 ∧ Ext wA w') 9 rfl (by kernel_rfl) (fun _ _ _ ⟨q, h1, h2, h3⟩ he => ⟨q, h1, h2.ext he, h3.trans he⟩) (fun w4 hC hk => ?_) ?_
      · unfold does
        go_simp
        exact ⟨hk.alloc _, _, rfl, Blk.new _ _ _, hC.alloc _⟩
      rintro _ ⟨_, q3, rfl, _, _⟩
      simp only [Act.put, qS0, qS1, qS2]
      refine FlowT.s (fun v' w' => (∃ a c, v' = .slice a ((succL (E.take i) x1).length + 1) c) ∧ w'.ownsRow M 3 1 v' ((succL (E.take i) x1).length + 1) (icells (succL (E.take i) x1) ++ [.int .i64 x2]) ∧ ∀ b, v'.ownBlock = some b → (rowOf f x1).ownBlock = some b ∨ wA.heap.size ≤ b) 10 rfl (by kernel_rfl) (fun _ _ _ ⟨h1, h2, h3⟩ he => ⟨h1, own_ext h2 he, h3⟩) (fun w4 hC hk => ?_) ?_
      · obtain ⟨q', e, hg, hE⟩ := hC
        obtain rfl : q3 = q' := by simpa using e
        have hI : w4.ownsRow M 3 1 (.slice ar (succL (E.take i) x1).length cr) (succL (E.take i) x1).length (icells (succL (E.take i) x1)) := by rw [← Hro.out]; exact own_ext (HBA.out.row x1) hE
        refine does_append_el M (by have := HMe.out; have := (Hx.out.trans (HxA.out.trans hE)).size; omega) 43 3 (.int .i64 0) 1 8 Tryz.underlying43 int_info1 rfl (by omega) (by omega) rfl _ _ rfl _ _ _ rfl hI q3 [.int .i64 x2] rfl (by simp [Value.oneCell']) rfl hg (by omega) fun v' w' h1 h2 h3 => ?_
        rw [← Hro.out] at h2 h3
        refine ⟨hk.trans h2, row_form h1, h1, fun b hb => ?_⟩
        rcases h3 with k | k
        · exact .inl (k ▸ hb)
        · rw [k] at hb
          obtain rfl := Option.some.inj hb
          exact .inr hE.size
      rintro _ ⟨_, ⟨a6, c6, rfl⟩, _, _⟩
      simp only [Act.put, qS0, qS1, qS2]
      refine FlowT.last (fun _ w' => NextB w' M M (E.take (i + 1)) (fun q => if q = x1 then some (.slice a6 ((succL (E.take i) x1).length + 1) c6) else f q) ∧ Ext w w') 11 rfl (by kernel_rfl) (by kernel_rfl) (fun w5 hC hk => ?_) (fun _ w6 hR => ?_)
      · obtain ⟨_, hrw, hob⟩ := hC
        refine does_kmap_put rfl _ _ _ 106 43 rfl int_keyed64 intV_inj Tryz.underlying106 (HBA.out.map.keep hk HXm.out) rfl x1 rfl Hlk.out (.slice a6 ((succL (E.take i) x1).length + 1) c6) rfl fun w' k1 k2 => ?_
        rw [Htk.out]
        refine ⟨HBA.out.put (e := (x1, x2)) (Ext.refl _) hk (by unfold IRow; rw [List.length_append, icells_append]; exact hrw) hob k2 k1, ?_⟩
        refine Keep.new (X := fun q => (rowOf f x1).ownBlock = some q ∨ q = M) (Hx.out.trans HxA.out) ((hk.mono fun _ _ h => .inl h).trans (k2.mono fun _ _ h => .inr h)) fun b hb => ?_
        rcases hb with hb | hb
        · have := (World.ownsRow.lt (HBA.out.row x1) b hb).1
          have := HMe.out
          omega
        · have := HMe.out
          omega
      simp only [Act.put]
      obtain ⟨hB6, hx6⟩ := hR
      have HB6 := hid hB6
      have Hx6 := hid hx6
      clear hB6 hx6 d0 d1 HLu Hlk
      go_wp2
      go_roundw
      case rel => exact ⟨i + 1, _, by go_num, by omega, HB6.out, Hx6.out⟩
      case measure => simp [intOf]; omega
    · obtain rfl : i = E.length := by omega
      have HBz : Hid (NextAt wr w.heap.size M E) := hid (by
        have := HB.out
        rw [List.take_length] at this
        rw [← HMe.out]
        exact ⟨f, this⟩)
      go_wp2
      go_ret
      exact ⟨M, rfl, HBz.out, Hx.out⟩
theorem bools_info : (Tryz.prog.info? 4).map (fun i => (i.zero, i.size, i.bytes)) = some (some (.bool false), 1, 1) := by kernel_rfl
def seen (l : List Int) : List Value := (List.range 1000).map fun n : Nat => Value.bool (decide ((n : Int) ∈ l))
theorem seen_len (l : List Int) : (seen l).length = 1000 := by simp [seen]
theorem seen_at (l : List Int) {n : Nat} (h : n < 1000) : (seen l)[n]? = some (.bool (decide ((n : Int) ∈ l))) := by
  unfold seen
  rw [List.getElem?_map, List.getElem?_range h]
  rfl
theorem seen_snoc (l : List Int) (q : Nat) : (seen l).toArray.setIfInBounds q (.bool true) = (seen (l ++ [(q : Int)])).toArray := by
  apply Array.ext_getElem?
  intro i
  rw [Array.getElem?_setIfInBounds]
  simp only [List.getElem?_toArray, List.size_toArray, seen_len]
  by_cases hi : i < 1000
  · rw [seen_at _ hi, seen_at _ hi]
    by_cases hq : q = i
    · subst hq
      rw [if_pos rfl, if_pos hi, decide_eq_true (by simp)]
    · rw [if_neg hq]
      congr 2
      exact decide_eq_decide.2 ⟨fun h => List.mem_append_left _ h, fun h => (List.mem_append.1 h).elim id fun g => absurd (List.mem_singleton.1 g) (by omega)⟩
  · have hn : ∀ m : List Int, (seen m)[i]? = none := fun m => List.getElem?_eq_none (by rw [seen_len]; omega)
    rw [hn, hn]
    by_cases hq : q = i
    · subst hq; rw [if_pos rfl, if_neg hi]
    · rw [if_neg hq]
theorem made_seen : (madeCells (Value.bool false).cells (1000 * 1)).toList = seen [] := by
  rw [show (Value.bool false).cells = #[Value.bool false] from rfl, toList_madeCells_one]
  apply List.ext_getElem?
  intro i
  by_cases hi : i < 1000
  · rw [seen_at _ hi, List.getElem?_replicate, if_pos (by omega), decide_eq_false (by simp)]
  · rw [List.getElem?_eq_none (by rw [List.length_replicate]; omega), List.getElem?_eq_none (by rw [seen_len]; omega)]
def setUp (l : List Int) (n : Nat) : List Int := ((List.range n).filter fun k : Nat => decide ((k : Int) ∈ l)).map fun k : Nat => (k : Int)
theorem setUp_full (l : List Int) : setUp l 1000 = sset l := rfl
theorem setUp_succ (l : List Int) (n : Nat) : setUp l (n + 1) = setUp l n ++ (if decide ((n : Int) ∈ l) then [(n : Int)] else []) := by
  unfold setUp
  rw [List.range_succ, List.filter_append, List.map_append]
  congr 1
  by_cases h : decide ((n : Int) ∈ l) = true
  · rw [if_pos h]; simp [h]
  · rw [if_neg h]; simp [h]
theorem setUp_len (l : List Int) (n : Nat) : (setUp l n).length ≤ n := by
  unfold setUp
  rw [List.length_map]
  have := List.length_filter_le (fun k : Nat => decide ((k : Int) ∈ l)) (List.range n)
  rw [List.length_range] at this
  exact this
set_option maxRecDepth 100000 in
set_option maxHeartbeats 1600000 in
theorem rsetof_any (v : Value) (l : List Int) (w : World) (n0 : Nat) (h : IntsR w n0 v l) (hin : InR l) :
    Calls Tryz.prog 76 #[v] w fun e w' => ∃ v', e = .returned v' ∧ Ext w w' ∧ IRow w.heap.size w' v' (sset l) := by
  have HS := hid h
  obtain ⟨a, cap, rfl, h2, h3, h4, _⟩ := h
  have H4 := hid h4
  have Hin := hid hin
  have hml : (l.length : Int) ≤ 9223372036854775807 := by omega
  clear h2 h3 h4 hin
  go_enter Tryz.func76, Tryz.ntmps76
  obtain ⟨bi, hbi, hbz, hbs, hbb⟩ := info_parts bools_info
  go_wp2_with (at_make; refine wpList_make_full w rfl _ _ _ rfl w.heap.size 4 bi (.bool false) 1 Tryz.underlying109 hbi hbz hbs .i64 .i64 1000 1000 1000 rfl rfl rfl rfl (by rw [hbb]; omega) (by unfold maxLen; omega) (Nat.le_refl _) ?_; intro w1 hrow hgr)
  have hx1 : Ext w w1 := Keep.new (Ext.refl w) (grown_keep hgr) (fun k hk => by cases hk)
  have Hx1 := hid hx1
  have HB1 : Hid (Blk w1 w.heap.size (seen []).toArray 4) := hid (by
    rcases hrow.2 with ⟨h1, _⟩ | ⟨g', cap', cur, h1, h2, h3, h4, h5, h6, h7⟩
    · simp at h1
    · simp only [Value.slice.injEq, Option.some.injEq, Addr.mk.injEq, and_true] at h1
      obtain ⟨rfl, _, rfl⟩ := h1
      have e : cur = (seen []).toArray := by
        have e1 : cur.toList = seen [] := by
          rw [← made_seen, ← h7, List.take_of_length_le (by rw [Array.length_toList]; omega)]
        rw [← e1]
      rw [← e]; exact h3)
  clear hx1 hrow hgr hbi hbz hbs hbb
  go_wp2
  go_loopw [4] (fun t4 wr => ∃ k : Nat, t4 = .int .i64 (k : Int) ∧ k ≤ l.length ∧ Blk wr w.heap.size (seen (l.take k)).toArray 4 ∧ Ext w wr) (fun t4 _ => l.length - (intOf t4).toNat)
  case atStart => exact ⟨0, rfl, Nat.zero_le _, HB1.out, Hx1.out⟩
  case round =>
    obtain ⟨k, rfl, hk, hB, hx⟩ := hrel
    have HB := hid hB
    have Hx := hid hx
    clear hB
    by_cases hlt : k < l.length
    · obtain ⟨y, rfl⟩ := H4.out (by omega)
      obtain ⟨q, hq⟩ : ∃ q, l[k]? = some q := ⟨_, List.getElem?_eq_getElem hlt⟩
      have hq01 := Hin.out q (List.mem_of_getElem? hq)
      obtain ⟨Q, rfl⟩ := Int.eq_ofNat_of_zero_le hq01.1
      have hQ : Q < 1000 := by omega
      obtain ⟨a', cap', h1, _, _, _, h5⟩ := HS.out.old (hx.old n0)
      obtain ⟨rfl, rfl⟩ : some y = a' ∧ cap = cap' := by simpa using h1
      have hc := (h5 y rfl (by omega)).2 k hlt _ hq
      have z0 := HB.out.av Q (by rw [List.getElem?_toArray]; exact seen_at _ hQ)
      have f0 := HB.out.free Q
      have Hn : Hid (seen (l.take (k + 1)) = seen (l.take k ++ [(Q : Int)])) := hid (by rw [List.take_add_one, hq]; rfl)
      have hB2 := HB.out.set Q (.bool true)
      rw [seen_snoc, ← Hn.out] at hB2
      have HB2 := hid hB2
      have HX2 := hid (Keep.new Hx.out (Keep.set (X := fun b => b = w.heap.size) (Keep.refl _ wr) rfl (.bool true) : Keep (fun b => b = w.heap.size) wr (wr.setCell ⟨w.heap.size, Q, none⟩ (.bool true))) fun b e => by subst e; exact Nat.le_refl _)
      clear hq hq01 h1 h5 hx hB2
      go_wp2
      go_roundw
      case rel => exact ⟨k + 1, by go_num, by omega, HB2.out, HX2.out⟩
      case measure => simp [intOf]; omega
    · obtain rfl : k = l.length := by omega
      rw [List.take_of_length_le (Nat.le_refl _)] at HB
      clear hx
      go_wp2
      go_loopw [5, 6] (fun t5 t6 wr => ∃ n : Nat, t6 = .int .i64 (n : Int) ∧ n ≤ 1000 ∧ IRow w.heap.size wr t5 (setUp l n) ∧ Blk wr w.heap.size (seen l).toArray 4 ∧ Ext w wr) (fun _ t6 _ => 1000 - (intOf t6).toNat)
      case atStart => exact ⟨0, rfl, Nat.zero_le _, IRow.nil _ _, HB.out, Hx.out⟩
      case round =>
        obtain ⟨n, rfl, hn, hr, hB, hx⟩ := hrel
        have hml2 : (setUp l n).length ≤ 1000 := Nat.le_trans (setUp_len l n) hn
        have hsu := setUp_succ l n
        obtain ⟨m, hm⟩ : ∃ m, m = setUp l n := ⟨_, rfl⟩
        rw [← hm] at hr hml2 hsu
        have Hm := hid hm
        have Hsu := hid hsu
        obtain ⟨a5, c5, rfl⟩ := hr.form
        have Hr := hid hr
        have HBs := hid hB
        have Hx3 := hid hx
        clear hm hr hB hx hsu
        by_cases hlt : n < 1000
        · have z0 := HBs.out.av n (by rw [List.getElem?_toArray]; exact seen_at _ hlt)
          obtain ⟨bq, hbq⟩ : ∃ bq, bq = decide ((n : Int) ∈ l) := ⟨_, rfl⟩
          rw [← hbq] at z0 Hsu
          clear hbq
          cases bq with
          | true =>
            have Hn : Hid (setUp l (n + 1) = m ++ [(n : Int)]) := hid (by rw [Hsu.out]; rfl)
            have hxa : Hid (Ext w (wr.alloc (.cells #[.int .i64 (n : Int)] 3))) := hid (Hx3.out.alloc _)
            have Hra : Hid (IRow w.heap.size (wr.alloc (.cells #[.int .i64 (n : Int)] 3)) (.slice a5 m.length c5) m) := hid (Hr.out.ext ((Ext.refl _).alloc _))
            have HBa : Hid (Blk (wr.alloc (.cells #[.int .i64 (n : Int)] 3)) w.heap.size (seen l).toArray 4) := hid (HBs.out.ext ((Ext.refl _).alloc _))
            go_wp2_with (at_builtin; refine wpList_append_el w.heap.size hxa.out.size 43 3 (.int .i64 0) 1 8 Tryz.underlying43 ints_info rfl (by omega) (by omega) rfl _ _ rfl (.slice a5 m.length c5) m.length (icells m) rfl Hra.out wr.heap.size [.int .i64 (n : Int)] rfl (by simp [Value.oneCell']) rfl (Blk.new _ _ _) (by omega) ?_; intro v' w' h1 h2 h4; obtain ⟨a', c', rfl⟩ := row_form h1; have h3 := hid (Keep.new hxa.out h2 (fun k hk => (Hra.out.lt hk).1)); have hb5 := hid (HBa.out.keep h2 (fun e => by obtain ⟨c, hc⟩ := own_ty Hra.out e; exact Blk.ty_ne hc HBa.out (by decide) rfl)); have h1 := hid h1; clear h2 h4)
            go_roundw
            case rel => exact ⟨n + 1, by go_num, by omega, by rw [Hn.out]; have := h1.out; unfold IRow; rw [icells_append, List.length_append]; exact this, hb5.out, h3.out⟩
            case measure => simp [intOf]; omega
          | false =>
            have Hn : Hid (setUp l (n + 1) = m) := hid (by rw [Hsu.out]; simp)
            go_wp2
            go_roundw
            case rel => exact ⟨n + 1, by go_num, by omega, by rw [Hn.out]; exact Hr.out, HBs.out, Hx3.out⟩
            case measure => simp [intOf]; omega
        · obtain rfl : n = 1000 := by omega
          have Hn : Hid (m = sset l) := hid (by rw [Hm.out, setUp_full])
          go_wp2
          go_ret
          exact ⟨_, rfl, Hx3.out, by rw [← Hn.out]; exact Hr.out⟩
end Go.Proofs.YtihdpijgngooaaaGreatDoor
