/- Texts of one proof, put together: ZS ZU ZV ZZYd ZZYe ZZYf ZZYi ZZYg. -/
import Derived.Test.YtbagppdibncfdaaGreatDoorHHN07
import Derived.Test.YtbagppdibncfdaaGreatDoorHHN09
import Derived.Test.YtbagppdibncfdaaGreatDoorHHN11
import Derived.Test.YtbagppdibncfdaaGreatDoorHHN12
import Derived.Maps.RangeWalk
import Derived.Test.YtbagppdibncfdaaGreatDoorHHN01
set_option linter.unusedSimpArgs false
set_option linter.unusedVariables false
namespace Go.Proofs.YtbagppdibncfdaaGreatDoor
open Go Go.RowKit
def trCells (l : List Bool) : List Value := l.map Value.bool
def TrRow (base : Nat) (w : World) (v : Value) (l : List Bool) : Prop := w.ownsRow base 4 1 v l.length (trCells l)
def IsB (w : World) (b : Nat) : Prop := ∃ c, Blk w b c 4
structure BBags (w : World) (base : Nat) (vs : List Value) (B : List (List Bool)) : Prop where
  len : vs.length = B.length
  row : ∀ (i : Nat) v l, vs[i]? = some v → B[i]? = some l → TrRow base w v l
  apart : ∀ (i j : Nat) v u b, i ≠ j → vs[i]? = some v → vs[j]? = some u → v.ownBlock = some b → ¬ u.ownBlock = some b
section
variable {w w' : World} {base : Nat} {vs : List Value} {B : List (List Bool)}
theorem BBags.nil (w : World) (base : Nat) : BBags w base [] [] := ⟨rfl, fun _ _ _ h => by simp at h, fun _ _ _ _ _ _ h => by simp at h⟩
theorem BBags.keep {X : Nat → Prop} (h : BBags w base vs B) (k : Keep X w w') (hX : ∀ b, X b → ¬ IsB w b) : BBags w' base vs B :=
  ⟨h.len, fun i v l h1 h2 => row_keep (h.row i v l h1 h2) k fun b hb hx => hX b hx (own_ty (h.row i v l h1 h2) hb), h.apart⟩
theorem BBags.ext (h : BBags w base vs B) (x : Ext w w') : BBags w' base vs B := h.keep (x.keep fun _ => False) fun _ h => h.elim
theorem BBags.at (h : BBags w base vs B) {i : Nat} (hi : i < B.length) : ∃ v l, vs[i]? = some v ∧ B[i]? = some l ∧ TrRow base w v l :=
  ⟨vs[i]'(by rw [h.len]; exact hi), B[i], List.getElem?_eq_getElem _, List.getElem?_eq_getElem _, h.row i _ _ (List.getElem?_eq_getElem _) (List.getElem?_eq_getElem _)⟩
theorem BBags.push (h : BBags w base vs B) (x : Ext w w') {v : Value} {l : List Bool} (hr : TrRow base w' v l) (hn : ∀ b, v.ownBlock = some b → w.heap.size ≤ b) : BBags w' base (vs ++ [v]) (B ++ [l]) := by
  have hlt : ∀ (i : Nat) u b, vs[i]? = some u → u.ownBlock = some b → b < w.heap.size := fun i u b hu hb => by
    have hi : i < vs.length := by
      rcases Nat.lt_or_ge i vs.length with g | g
      · exact g
      · rw [List.getElem?_eq_none g] at hu; cases hu
    obtain ⟨m, hm⟩ : ∃ m, B[i]? = some m := ⟨_, List.getElem?_eq_getElem (by rw [← h.len]; exact hi)⟩
    exact (World.ownsRow.lt (h.row i u m hu hm) b hb).2
  have hat : ∀ (i : Nat) u, (vs ++ [v])[i]? = some u → (i < vs.length ∧ vs[i]? = some u) ∨ (i = vs.length ∧ u = v) := fun i u hu => by
    rcases Nat.lt_trichotomy i vs.length with g | g | g
    · rw [List.getElem?_append_left g] at hu
      exact .inl ⟨g, hu⟩
    · subst g
      rw [List.getElem?_concat_length] at hu
      exact .inr ⟨rfl, (Option.some.inj hu).symm⟩
    · rw [List.getElem?_eq_none (by rw [List.length_append, List.length_singleton]; omega)] at hu
      cases hu
  refine ⟨by rw [List.length_append, List.length_append, h.len]; rfl, fun i u m hu hm => ?_, fun i j u z b hij hu hz hb hz' => ?_⟩
  · rcases hat i u hu with ⟨hi, hu'⟩ | ⟨rfl, rfl⟩
    · rw [List.getElem?_append_left (by rw [← h.len]; exact hi)] at hm
      exact (h.ext x).row i u m hu' hm
    · rw [h.len, List.getElem?_concat_length] at hm
      obtain rfl := Option.some.inj hm
      exact hr
  · rcases hat i u hu with ⟨hi, hu'⟩ | ⟨hi, rfl⟩ <;> rcases hat j z hz with ⟨hj, hz''⟩ | ⟨hj, rfl⟩
    · exact h.apart i j u z b hij hu' hz'' hb hz'
    · have := hlt i u b hu' hb
      have := hn b hz'
      omega
    · have := hlt j z b hz'' hz'
      have := hn b hb
      omega
    · omega
theorem BBags.set {i j g cap n : Nat} {l : List Bool} (h : BBags w base vs B) (hv : vs[i]? = some (.slice (some ⟨g, 0, none⟩) n cap)) (hl : B[i]? = some l) (hj : j < l.length) (x : Bool) :
    BBags (w.setCell ⟨g, j, none⟩ (.bool x)) base vs (B.set i (l.set j x)) := by
  have hi : i < B.length := by
    rcases Nat.lt_or_ge i B.length with k | k
    · exact k
    · rw [List.getElem?_eq_none k] at hl; cases hl
  have hk : Keep (fun q => q = g) w (w.setCell ⟨g, j, none⟩ (.bool x)) := (Keep.refl (fun q => q = g) w).set rfl _
  refine ⟨by rw [List.length_set]; exact h.len, fun p u m hu hm => ?_, h.apart⟩
  by_cases hp : i = p
  · subst hp
    rw [List.getElem?_set_self hi] at hm
    obtain rfl := Option.some.inj hm
    obtain rfl := Option.some.inj (hv.symm.trans hu)
    have hr := h.row i _ l hv hl
    unfold TrRow at hr ⊢
    obtain ⟨a', c', e'⟩ := row_form hr
    simp only [Value.slice.injEq] at e'
    obtain ⟨rfl, rfl, rfl⟩ := e'
    rw [List.length_set, show trCells (l.set j x) = (trCells l).set j (.bool x) by unfold trCells; rw [List.map_set]]
    exact own_set hr j (by unfold trCells; rw [List.length_map]; exact hj) _
  · rw [List.getElem?_set_ne hp] at hm
    exact row_keep (h.row p u m hu hm) hk fun b hb1 hb2 => h.apart i p _ u b hp hv hu (by subst hb2; rfl) hb1
end
def fCells (f : Int × Int) : List Value := [.int .i64 f.1, .int .i64 f.2]
def rowOf (f1 : Int → Option Value) (n : Int) : Value := (f1 n).getD (.slice none 0 0)
def seenF (l : List (Int × Int)) (e : Int × Int) : Option Value := if e ∈ l then some (.bool true) else none
def solvCells (a1 a2 a3 : Option Addr) (c1 c2 c3 : Nat) (P : PP) (vr vh : Value) (m1 m2 : Nat) (vw : Value) : Array Value :=
  #[.slice a1 P.vars.length c1, .slice a2 P.funs.length c2, .slice a3 P.stmts.length c3, vr, vh, .map (some m1), .map (some m2), .slice none 0 0, vw]
theorem KMap.not_blk {κ : Type} [DecidableEq κ] {Q : Program} {kt : TypeId} {enc : κ → Value} {w : World} {b : Nat} {f : κ → Option Value} (h : KMap Q kt enc w b f) {c : Array Value} {e : TypeId} : ¬ Blk w b c e := fun hb => h.ne hb rfl
theorem own_off {w w' : World} {base : Nat} {e : TypeId} {size n : Nat} {v : Value} {xs : List Value} {X : Nat → Prop} (h : w.ownsRow base e size v n xs) (k : Keep X w w') (hX : ∀ b, X b → ¬ ∃ c, Blk w b c e) : w'.ownsRow base e size v n xs :=
  row_keep h k fun b hb hx => hX b hx (own_ty h hb)
theorem OwnsQ.off {w w' : World} {base : Nat} {e : TypeId} {size n : Nat} {v : Value} {xs : List Value} {X : Nat → Prop} (h : OwnsQ w base e size v n xs) (k : Keep X w w') (hX : ∀ b, X b → ¬ ∃ c, Blk w b c e) : OwnsQ w' base e size v n xs :=
  h.keep k fun b hb hx => hX b hx (h.ty hb).2
theorem off_of {w : World} {b : Nat} {c : Array Value} {e e' : TypeId} (h : Blk w b c e) (hne : e ≠ e') : ¬ ∃ c, Blk w b c e' := by
  rintro ⟨c', h'⟩
  have := h.symm.trans h'
  simp at this
  exact hne this.2
section
variable {w w' : World} {G F : Nat → Prop} {g : Nat} {ad : Nat → Addr} {a1 a2 a3 : Option Addr} {c1 c2 c3 : Nat} {P : PP} {vr : Value} {rs : List R2} {vh : Value} {hs : List Value} {m1 m2 : Nat} {f1 : Int → Option Value} {vw : Value} {s : SV}
end
theorem int_info1 : (Tryz.prog.info? 3).map (fun i => (i.zero, i.size, i.bytes)) = some (some (.int .i64 0), 1, 8) := by kernel_rfl
theorem zero_bool (w : World) : (zeroValue 4).run Tryz.prog w = .ok (.bool false) w := by kernel_rfl
def objsUp (l : List Bool) (k : Nat) : List Int := ((List.range k).filter fun o => l.getD o false).map fun o : Nat => (o : Int)
def Stm (w : World) (b : Nat) : Prop := ∃ es clock, w.heap[b]? = some (.map es clock) ∧ (∀ x ∈ es.toList, x.born < clock) ∧ (es.toList.map (·.born)).Nodup
theorem Stm.keep {X : Nat → Prop} {w w' : World} {b : Nat} (h : Stm w b) (k : Keep X w w') (hx : ¬ X b) : Stm w' b := by
  obtain ⟨es, c, h1, h2⟩ := h
  exact ⟨es, c, Keep.get k h1 hx, h2⟩
theorem Stm.new (w : World) : Stm (w.alloc (.map #[] 0)) w.heap.size := ⟨#[], 0, heap_alloc_new w _, fun _ h => by simp at h, List.nodup_nil⟩
def InM (f : Int → Option Value) (q : Nat) : Prop := ∃ n, f n = some (.map (some q))
def setF (M : List (Int × Int)) (n : Int) (o : Int) : Option Value := if (n, o) ∈ M then some (.bool true) else none
structure MM (w : World) (m : Nat) (M : List (Int × Int)) (f : Int → Option Value) : Prop where
  map : KMap Tryz.prog 3 (Value.int .i64) w m f
  ne : ∀ q, InM f q → q ≠ m
  val : ∀ n, (f n = none ∧ ∀ o, (n, o) ∉ M) ∨ ∃ q, f n = some (.map (some q)) ∧ KMap Tryz.prog 3 (Value.int .i64) w q (setF M n) ∧ Stm w q
  apart : ∀ n l q, n ≠ l → f n = some (.map (some q)) → f l ≠ some (.map (some q))
section
variable {w w' : World} {m : Nat} {M : List (Int × Int)} {f : Int → Option Value}
theorem MM.keep {X : Nat → Prop} (h : MM w m M f) (k : Keep X w w') (h0 : ¬ X m) (h1 : ∀ q, InM f q → ¬ X q) : MM w' m M f :=
  ⟨h.map.keep k h0, h.ne, fun n => (h.val n).imp id fun ⟨q, g1, g2, g3⟩ => ⟨q, g1, g2.keep k (h1 q ⟨n, g1⟩), g3.keep k (h1 q ⟨n, g1⟩)⟩, h.apart⟩
theorem MM.ext (h : MM w m M f) (x : Ext w w') : MM w' m M f := h.keep (x.keep fun _ => False) (fun h => h) fun _ _ h => h
theorem MM.in_map (h : MM w m M f) {q : Nat} (hq : InM f q) : ∃ g, KMap Tryz.prog 3 (Value.int .i64) w q g := by
  obtain ⟨n, hn⟩ := hq
  rcases h.val n with ⟨g, _⟩ | ⟨p, g1, g2, g3⟩
  · rw [g] at hn; cases hn
  · rw [g1] at hn
    simp only [Option.some.injEq, Value.map.injEq] at hn
    exact ⟨_, hn ▸ g2⟩
theorem MM.in_lt (h : MM w m M f) {q : Nat} (hq : InM f q) : q < w.heap.size := by
  obtain ⟨g, hg⟩ := h.in_map hq
  exact hg.lt
theorem MM.in_blk (h : MM w m M f) {q : Nat} (hq : InM f q) {c : Array Value} {e : TypeId} : ¬ Blk w q c e := by
  obtain ⟨g, hg⟩ := h.in_map hq
  exact hg.not_blk
theorem MM.look1 (h : MM w m M f) {b : Int} (hb : 0 ≤ b ∧ b < 1000000) : (Instr.lookup 119 (.map (some m)) (.int .i64 b) false).run Tryz.prog w = .ok ((f b).getD (.map none)) w := by
  obtain ⟨k, hk⟩ := key_int hb
  have := run_kmap_lookup int_keyed64 intV_inj Tryz.underlying119 h.map hk (Tryz.zeroValue163 w) false
  rw [this]; rfl
theorem look_nilm (w : World) {a : Int} (ha : 0 ≤ a ∧ a < 1000000) : (Instr.lookup 163 (.map none) (.int .i64 a) false).run Tryz.prog w = .ok (.bool false) w := by
  obtain ⟨k, hk⟩ := key_int ha
  unfold Instr.lookup
  simp [run_underlying Tryz.underlying163, int_keyed64.check w _ hk, Instr.findKey, Instr.findNow, zero_bool, Result.andThen]
theorem look_setm {w : World} {q : Nat} {n : Int} (h : KMap Tryz.prog 3 (Value.int .i64) w q (setF M n)) {a : Int} (ha : 0 ≤ a ∧ a < 1000000) : (Instr.lookup 163 (.map (some q)) (.int .i64 a) false).run Tryz.prog w = .ok (.bool (decide ((n, a) ∈ M))) w := by
  obtain ⟨l, hl⟩ := key_int ha
  have := run_kmap_lookup int_keyed64 intV_inj Tryz.underlying163 h hl (zero_bool w) false
  rw [this]
  unfold setF
  by_cases hm : (n, a) ∈ M
  · rw [if_pos hm, decide_eq_true hm]; rfl
  · rw [if_neg hm, decide_eq_false hm]; rfl
theorem MM.look2 (h : MM w m M f) {b a : Int} (hb : 0 ≤ b ∧ b < 1000000) (ha : 0 ≤ a ∧ a < 1000000) : ∃ v, (f b).getD (.map none) = .map v ∧ (Instr.lookup 119 (.map (some m)) (.int .i64 b) false).run Tryz.prog w = .ok (.map v) w ∧ (Instr.lookup 163 (.map v) (.int .i64 a) false).run Tryz.prog w = .ok (.bool (decide ((b, a) ∈ M))) w := by
  have h1 := h.look1 hb
  rcases h.val b with ⟨g1, g2⟩ | ⟨q, g1, g2, g3⟩
  · rw [g1] at h1 ⊢
    exact ⟨none, rfl, h1, by rw [decide_eq_false (g2 a)]; exact look_nilm w ha⟩
  · rw [g1] at h1 ⊢
    exact ⟨some q, rfl, h1, look_setm g2 ha⟩
end
theorem run_kmap_put_stm {w : World} {b : Nat} {f : Int → Option Value} {t et : TypeId} (ht : Tryz.prog.underlying t = some (.map 3 et)) (h : KMap Tryz.prog 3 (Value.int .i64) w b f) (hs : Stm w b) {k : Int} (hk0 : 0 ≤ k ∧ k < 1000000) (v : Value) :
    ∃ w', (Instr.mapUpdate t (.map (some b)) (.int .i64 k) v).run Tryz.prog w = .ok () w' ∧ KMap Tryz.prog 3 (Value.int .i64) w' b (fun q => if q = k then some v else f q) ∧ Stm w' b ∧ Keep (fun q => q = b) w w' := by
  obtain ⟨l, hl⟩ := key_int hk0
  obtain ⟨w', hrun, h1, h2⟩ := run_kmap_put int_keyed64 intV_inj ht h hl v
  refine ⟨w', hrun, h1, ?_, h2⟩
  obtain ⟨es, cl, hb, hlt, hnd⟩ := hs
  obtain ⟨es', cl', m, hb', he, hn, hkk, hf⟩ := h
  rw [hb] at hb'
  obtain ⟨rfl, rfl⟩ : es = es' ∧ cl = cl' := by simpa using hb'
  rcases KMap.found (w := w) int_keyed64 intV_inj he hn hkk hl with ⟨g1, _⟩ | ⟨j, e, u, g1, _, g3, g4⟩
  · have hr : (Instr.mapUpdate t (.map (some b)) (.int .i64 k) v).run Tryz.prog w = .ok () (Go.ChangeMaps.setBlock w b (.map (es.push { key := .int .i64 k, val := v, born := cl }) (cl + 1))) := by
      unfold Instr.mapUpdate
      simp [run_underlying ht, Go.MapKept.run_getObj_map hb, int_keyed64.check w _ hl, g1, Go.MapKept.run_setObj_map _ hb, Result.andThen, Go.ChangeMaps.setBlock]
    rw [hr] at hrun
    injection hrun with _ hw'
    subst hw'
    refine ⟨_, _, (Go.MapKept.heap_set hb).1, fun x hx => ?_, ?_⟩
    · rw [Array.toList_push] at hx
      rcases List.mem_append.1 hx with hx | hx
      · have := hlt x hx; omega
      · rw [List.mem_singleton.1 hx]; exact Nat.lt_succ_self _
    · rw [Array.toList_push, List.map_append, List.nodup_append]
      refine ⟨hnd, by simp, fun a ha c hc => ?_⟩
      obtain ⟨x, hx, rfl⟩ := List.mem_map.1 ha
      simp at hc
      have := hlt x hx
      omega
  · have hr : (Instr.mapUpdate t (.map (some b)) (.int .i64 k) v).run Tryz.prog w = .ok () (Go.ChangeMaps.setBlock w b (.map (es.modify j fun e => { e with key := .int .i64 k, val := v }) cl)) := by
      unfold Instr.mapUpdate
      simp [run_underlying ht, Go.MapKept.run_getObj_map hb, int_keyed64.check w _ hl, g1, g3, g4, int_keyed64.stays w hl, Go.MapKept.run_setObj_map _ hb, Result.andThen, Go.ChangeMaps.setBlock]
    rw [hr] at hrun
    injection hrun with _ hw'
    subst hw'
    have hbm : (es.modify j fun e => { e with key := .int .i64 k, val := v }).toList.map (·.born) = es.toList.map (·.born) := by
      refine List.ext_getElem? fun i => ?_
      rw [List.getElem?_map, List.getElem?_map, Array.getElem?_toList, Array.getElem?_modify, Array.getElem?_toList]
      by_cases hi : j = i
      · subst hi
        rw [if_pos rfl, g3]; rfl
      · rw [if_neg hi]
    refine ⟨_, _, (Go.MapKept.heap_set hb).1, fun x hx => ?_, by rw [hbm]; exact hnd⟩
    have : x.born ∈ es.toList.map (·.born) := by rw [← hbm]; exact List.mem_map.2 ⟨x, hx, rfl⟩
    obtain ⟨y, hy, hyx⟩ := List.mem_map.1 this
    rw [← hyx]; exact hlt y hy
structure N2 where
  n : NV
  v : Value
def N2.cells (x : N2) : List Value := [.int .i64 x.n.to, .int .u8 x.n.kind, x.v]
structure SC where
  P : PP
  me : Nat
  k : Nat
  vv : Value
  vf : Value
  vs : Value
  vr : Value
  rs : List R2
def shCells (c : SC) (m1 m2 : Nat) (vt vo : Value) : Array Value :=
  #[c.vv, c.vf, c.vs, c.vr, .int .i64 (c.me : Nat), .int .i64 (c.k : Nat), .int .i64 (c.P.nodesV : Nat), .int .i64 (c.P.objectsV : Nat), .map (some m1), .map (some m2), vt, vo]
structure ShK (w : World) (G : Nat → Prop) (c : SC) : Prop where
  well : c.P.Well
  funs : FunsF w G c.vf c.P.funs
  rrow : w.ownsRow 0 123 5 c.vr c.P.rulesV.length (c.rs.flatMap R2.cells)
  req : c.rs.map R2.r = c.P.rulesV
  rf : ∀ b, c.vr.ownBlock = some b → G b
  rargs : ∀ x ∈ c.rs, IntsF w G x.v x.r.args
  me : c.me < c.k ∧ c.k ≤ 6
theorem ShK.keep {w w' : World} {G X : Nat → Prop} {c : SC} (h : ShK w G c) (k : Keep X w w') (hX : ∀ b, G b → ¬ X b) : ShK w' G c :=
  ⟨h.well, h.funs.keep k hX fun _ h => h, row_keep h.rrow k fun b hb => hX b (h.rf b hb), h.req, h.rf, fun x hx => (h.rargs x hx).keep k hX fun _ h => h, h.me⟩
def ShOwn (g m1 m2 : Nat) (f1 f2 : Int → Option Value) (vt vo : Value) (b : Nat) : Prop :=
  b = g ∨ b = m1 ∨ b = m2 ∨ InM f1 b ∨ InM f2 b ∨ vt.ownBlock = some b ∨ vo.ownBlock = some b
structure ShB (w : World) (G F : Nat → Prop) (g : Nat) (c : SC) (m1 m2 : Nat) (f1 f2 : Int → Option Value) (vt vo : Value) (ts os : List N2) (s : SH) : Prop where
  blk : Blk w g (shCells c m1 m2 vt vo) 121
  own : ∀ b, ShOwn g m1 m2 f1 f2 vt vo b → ¬ F b
  gf : ∀ b, G b → F b
  flt : ∀ b, F b → b < w.heap.size
  con : ShK w G c
  mm1 : MM w m1 s.has f1
  mm2 : MM w m2 s.nxt f2
  m12 : m1 ≠ m2
  a12 : ∀ q, InM f1 q → q ≠ m2 ∧ ¬ InM f2 q
  a21 : ∀ q, InM f2 q → q ≠ m1
  tq : OwnsQ w 0 57 3 vt s.todo.length (ts.flatMap N2.cells)
  tn : ts.map N2.n = s.todo
  tr : ∀ x ∈ ts, IRow 0 w x.v x.n.nums
  oq : OwnsQ w 0 57 3 vo s.out.length (os.flatMap N2.cells)
  on : os.map N2.n = s.out
  or : ∀ x ∈ os, IRow 0 w x.v x.n.nums
  ne : ∀ b, vt.ownBlock = some b → ¬ vo.ownBlock = some b
def ShAt (w : World) (G F : Nat → Prop) (g : Nat) (c : SC) (s : SH) : Prop := ∃ m1 m2 f1 f2 vt vo ts os, ShB w G F g c m1 m2 f1 f2 vt vo ts os s
section
variable {w w' : World} {G F : Nat → Prop} {g : Nat} {c : SC} {m1 m2 : Nat} {f1 f2 : Int → Option Value} {vt vo : Value} {ts os : List N2} {s : SH}
theorem ShB.own_lt (h : ShB w G F g c m1 m2 f1 f2 vt vo ts os s) {b : Nat} (hb : ShOwn g m1 m2 f1 f2 vt vo b) : b < w.heap.size := by
  rcases hb with rfl | rfl | rfl | hb | hb | hb | hb
  · exact h.blk.lt
  · exact h.mm1.map.lt
  · exact h.mm2.map.lt
  · exact h.mm1.in_lt hb
  · exact h.mm2.in_lt hb
  · obtain ⟨_, c, hc⟩ := h.tq.ty hb; exact hc.lt
  · obtain ⟨_, c, hc⟩ := h.oq.ty hb; exact hc.lt
theorem ShB.keep {X : Nat → Prop} (h : ShB w G F g c m1 m2 f1 f2 vt vo ts os s) (k : Keep X w w') (hG : ∀ b, G b → ¬ X b) (hO : ∀ b, ShOwn g m1 m2 f1 f2 vt vo b → ¬ X b) (h1 : ∀ x ∈ ts, IRow 0 w' x.v x.n.nums) (h2 : ∀ x ∈ os, IRow 0 w' x.v x.n.nums) : ShB w' G F g c m1 m2 f1 f2 vt vo ts os s :=
  ⟨h.blk.keep k (hO _ (.inl rfl)), h.own, h.gf, fun b hb => Nat.lt_of_lt_of_le (h.flt b hb) k.size, h.con.keep k hG, h.mm1.keep k (hO _ (.inr (.inl rfl))) fun q hq => hO _ (.inr (.inr (.inr (.inl hq)))), h.mm2.keep k (hO _ (.inr (.inr (.inl rfl)))) fun q hq => hO _ (.inr (.inr (.inr (.inr (.inl hq))))), h.m12, h.a12, h.a21,
    h.tq.keep k fun b hb => hO _ (.inr (.inr (.inr (.inr (.inr (.inl hb)))))), h.tn, h1, h.oq.keep k fun b hb => hO _ (.inr (.inr (.inr (.inr (.inr (.inr hb)))))), h.on, h2, h.ne⟩
theorem ShB.ext (h : ShB w G F g c m1 m2 f1 f2 vt vo ts os s) (x : Ext w w') : ShB w' G F g c m1 m2 f1 f2 vt vo ts os s :=
  h.keep (x.keep fun _ => False) (fun _ _ h => h) (fun _ _ h => h) (fun y hy => own_ext (h.tr y hy) x) fun y hy => own_ext (h.or y hy) x
theorem ShAt.ext (h : ShAt w G F g c s) (x : Ext w w') : ShAt w' G F g c s := by
  obtain ⟨m1, m2, f1, f2, vt, vo, ts, os, h⟩ := h
  exact ⟨m1, m2, f1, f2, vt, vo, ts, os, h.ext x⟩
theorem ShB.turn {F' : Nat → Prop} (h : ShB w G F g c m1 m2 f1 f2 vt vo ts os s) (hO : ∀ b, ShOwn g m1 m2 f1 f2 vt vo b → ¬ F' b) (hG : ∀ b, G b → F' b) (hl : ∀ b, F' b → b < w.heap.size) : ShB w G F' g c m1 m2 f1 f2 vt vo ts os s :=
  ⟨h.blk, hO, hG, hl, h.con, h.mm1, h.mm2, h.m12, h.a12, h.a21, h.tq, h.tn, h.tr, h.oq, h.on, h.or, h.ne⟩
theorem ShB.frz (h : ShB w G F g c m1 m2 f1 f2 vt vo ts os s) (x : Ext w w') : ShB w' G (fun b => F b ∨ (w.heap.size ≤ b ∧ b < w'.heap.size)) g c m1 m2 f1 f2 vt vo ts os s :=
  (h.ext x).turn (fun b hb hx => hx.elim (h.own b hb) fun q => by have := h.own_lt hb; omega) (fun b hb => .inl (h.gf b hb)) fun b hb => hb.elim (fun q => Nat.lt_of_lt_of_le (h.flt b q) x.size) fun q => q.2
theorem ShAt.frz (h : ShAt w G F g c s) (x : Ext w w') : ShAt w' G (fun b => F b ∨ (w.heap.size ≤ b ∧ b < w'.heap.size)) g c s := by
  obtain ⟨m1, m2, f1, f2, vt, vo, ts, os, h⟩ := h
  exact ⟨m1, m2, f1, f2, vt, vo, ts, os, h.frz x⟩
theorem ShAt.less {F' : Nat → Prop} (h : ShAt w G F' g c s) (hG : ∀ b, G b → F b) (hF : ∀ b, F b → F' b) : ShAt w G F g c s := by
  obtain ⟨m1, m2, f1, f2, vt, vo, ts, os, h⟩ := h
  exact ⟨m1, m2, f1, f2, vt, vo, ts, os, h.turn (fun b hb hx => h.own b hb (hF b hx)) hG fun b hb => h.flt b (hF b hb)⟩
theorem ShAt.whole (h : ShAt w G F g c s) : ∃ F' : Nat → Prop, (∀ b, F b → F' b) ∧ ShAt w G F' g c s ∧ ∃ O : Nat → Prop, ∀ b, F' b ↔ b < w.heap.size ∧ ¬ O b := by
  obtain ⟨m1, m2, f1, f2, vt, vo, ts, os, h⟩ := h
  refine ⟨fun b => b < w.heap.size ∧ ¬ ShOwn g m1 m2 f1 f2 vt vo b, fun b hb => ⟨h.flt b hb, fun q => h.own b q hb⟩, ⟨m1, m2, f1, f2, vt, vo, ts, os, h.turn (fun b hb hx => hx.2 hb) (fun b hb => ⟨h.flt b (h.gf b hb), fun q => h.own b q (h.gf b hb)⟩) fun b hb => hb.1⟩, _, fun b => Iff.rfl⟩
theorem ShB.tblk (h : ShB w G F g c m1 m2 f1 f2 vt vo ts os s) {b : Nat} (hb : vt.ownBlock = some b) : ∃ c, Blk w b c 57 := (h.tq.ty hb).2
theorem ShB.oblk (h : ShB w G F g c m1 m2 f1 f2 vt vo ts os s) {b : Nat} (hb : vo.ownBlock = some b) : ∃ c, Blk w b c 57 := (h.oq.ty hb).2
theorem ShB.setTodo (h : ShB w G F g c m1 m2 f1 f2 vt vo ts os s) (k : Keep (fun q => vt.ownBlock = some q) w w') {vt' : Value} {ts' : List N2} {l : List NV} (hn : ts'.map N2.n = l) (hq : OwnsQ w' 0 57 3 vt' l.length (ts'.flatMap N2.cells)) (hr : ∀ x ∈ ts', IRow 0 w' x.v x.n.nums) (ho : ∀ b, vt'.ownBlock = some b → vt.ownBlock = some b ∨ w.heap.size ≤ b) :
    ShB (w'.setCell ⟨g, 10, none⟩ vt') G F g c m1 m2 f1 f2 vt' vo ts' os { s with todo := l } := by
  have hg : ¬ vt.ownBlock = some g := fun hb => by
    obtain ⟨c', hc⟩ := h.tblk hb
    exact off_of hc (by decide) ⟨_, h.blk⟩
  have k1 := h.blk.keep k hg
  have kk : Keep (fun q => q = g ∨ vt.ownBlock = some q) w (w'.setCell ⟨g, 10, none⟩ vt') := (k.mono fun _ _ h => .inr h).set (.inl rfl) _
  have hoff : ∀ {e : TypeId}, 57 ≠ e → 121 ≠ e → ∀ b, (b = g ∨ vt.ownBlock = some b) → ¬ ∃ c, Blk w b c e := fun he1 he2 b hb => hb.elim (fun e => by rw [e]; exact off_of h.blk he2) fun hb => by
    obtain ⟨c', hc⟩ := h.tblk hb
    exact off_of hc he1
  have hG : ∀ b, G b → ¬ (b = g ∨ vt.ownBlock = some b) := fun b hb hx => hx.elim (fun e => h.own b (.inl e) (h.gf b hb)) fun e => h.own b (.inr (.inr (.inr (.inr (.inr (.inl e)))))) (h.gf b hb)
  have hmap : ∀ {b : Nat} {f : Int → Option Value}, KMap Tryz.prog 3 (Value.int .i64) w b f → ¬ (b = g ∨ vt.ownBlock = some b) := fun hm hb => hb.elim (fun e => hm.not_blk (e ▸ h.blk)) fun hb => by
    obtain ⟨c', hc⟩ := h.tblk hb
    exact hm.not_blk hc
  have hlt : ∀ b, ShOwn g m1 m2 f1 f2 vt vo b → b < w.heap.size := fun b hb => h.own_lt hb
  refine ⟨?_, fun b hb => ?_, h.gf, fun b hb => Nat.lt_of_lt_of_le (h.flt b hb) kk.size, h.con.keep kk hG, h.mm1.keep kk (hmap h.mm1.map) fun q hq => (h.mm1.in_map hq).elim fun _ hm => hmap hm, h.mm2.keep kk (hmap h.mm2.map) fun q hq => (h.mm2.in_map hq).elim fun _ hm => hmap hm, h.m12, h.a12, h.a21, ?_, hn, fun x hx => ?_, ?_, h.on, fun x hx => own_off (h.or x hx) kk (hoff (by decide) (by decide)), fun b hb hb' => ?_⟩
  · have := k1.set 10 vt'
    rw [show (shCells c m1 m2 vt vo).setIfInBounds 10 vt' = shCells c m1 m2 vt' vo from rfl] at this
    exact this
  · rcases hb with hb | hb | hb | hb | hb | hb | hb
    · exact h.own b (.inl hb)
    · exact h.own b (.inr (.inl hb))
    · exact h.own b (.inr (.inr (.inl hb)))
    · exact h.own b (.inr (.inr (.inr (.inl hb))))
    · exact h.own b (.inr (.inr (.inr (.inr (.inl hb)))))
    · rcases ho b hb with e | e
      · exact h.own b (.inr (.inr (.inr (.inr (.inr (.inl e))))))
      · exact fun hb' => by have := h.flt _ hb'; omega
    · exact h.own b (.inr (.inr (.inr (.inr (.inr (.inr hb))))))
  · refine hq.off ((Keep.refl (fun q => q = g) w').set rfl _) fun b hb => ?_
    rw [hb]; exact off_of k1 (by decide)
  · refine own_off (hr x hx) ((Keep.refl (fun q => q = g) w').set rfl _) fun b hb => ?_
    rw [hb]; exact off_of k1 (by decide)
  · exact h.oq.keep kk fun b hb hx => hx.elim (fun e => by
      obtain ⟨c', hc⟩ := h.oblk hb
      exact off_of hc (by decide) ⟨_, e ▸ h.blk⟩) fun e => h.ne b e hb
  · rcases ho b hb with e | e
    · exact h.ne b e hb'
    · have := hlt b (.inr (.inr (.inr (.inr (.inr (.inr hb'))))))
      omega
theorem ShB.setOut (h : ShB w G F g c m1 m2 f1 f2 vt vo ts os s) (k : Keep (fun q => vo.ownBlock = some q) w w') {vo' : Value} {os' : List N2} {l : List NV} (hn : os'.map N2.n = l) (hq : OwnsQ w' 0 57 3 vo' l.length (os'.flatMap N2.cells)) (hr : ∀ x ∈ os', IRow 0 w' x.v x.n.nums) (ho : ∀ b, vo'.ownBlock = some b → vo.ownBlock = some b ∨ w.heap.size ≤ b) :
    ShB (w'.setCell ⟨g, 11, none⟩ vo') G F g c m1 m2 f1 f2 vt vo' ts os' { s with out := l } := by
  have hg : ¬ vo.ownBlock = some g := fun hb => by
    obtain ⟨c', hc⟩ := h.oblk hb
    exact off_of hc (by decide) ⟨_, h.blk⟩
  have k1 := h.blk.keep k hg
  have kk : Keep (fun q => q = g ∨ vo.ownBlock = some q) w (w'.setCell ⟨g, 11, none⟩ vo') := (k.mono fun _ _ h => .inr h).set (.inl rfl) _
  have hoff : ∀ {e : TypeId}, 57 ≠ e → 121 ≠ e → ∀ b, (b = g ∨ vo.ownBlock = some b) → ¬ ∃ c, Blk w b c e := fun he1 he2 b hb => hb.elim (fun e => by rw [e]; exact off_of h.blk he2) fun hb => by
    obtain ⟨c', hc⟩ := h.oblk hb
    exact off_of hc he1
  have hG : ∀ b, G b → ¬ (b = g ∨ vo.ownBlock = some b) := fun b hb hx => hx.elim (fun e => h.own b (.inl e) (h.gf b hb)) fun e => h.own b (.inr (.inr (.inr (.inr (.inr (.inr e)))))) (h.gf b hb)
  have hmap : ∀ {b : Nat} {f : Int → Option Value}, KMap Tryz.prog 3 (Value.int .i64) w b f → ¬ (b = g ∨ vo.ownBlock = some b) := fun hm hb => hb.elim (fun e => hm.not_blk (e ▸ h.blk)) fun hb => by
    obtain ⟨c', hc⟩ := h.oblk hb
    exact hm.not_blk hc
  have hlt : ∀ b, ShOwn g m1 m2 f1 f2 vt vo b → b < w.heap.size := fun b hb => h.own_lt hb
  refine ⟨?_, fun b hb => ?_, h.gf, fun b hb => Nat.lt_of_lt_of_le (h.flt b hb) kk.size, h.con.keep kk hG, h.mm1.keep kk (hmap h.mm1.map) fun q hq => (h.mm1.in_map hq).elim fun _ hm => hmap hm, h.mm2.keep kk (hmap h.mm2.map) fun q hq => (h.mm2.in_map hq).elim fun _ hm => hmap hm, h.m12, h.a12, h.a21, ?_, h.tn, fun x hx => own_off (h.tr x hx) kk (hoff (by decide) (by decide)), ?_, hn, fun x hx => ?_, fun b hb hb' => ?_⟩
  · have := k1.set 11 vo'
    rw [show (shCells c m1 m2 vt vo).setIfInBounds 11 vo' = shCells c m1 m2 vt vo' from rfl] at this
    exact this
  · rcases hb with hb | hb | hb | hb | hb | hb | hb
    · exact h.own b (.inl hb)
    · exact h.own b (.inr (.inl hb))
    · exact h.own b (.inr (.inr (.inl hb)))
    · exact h.own b (.inr (.inr (.inr (.inl hb))))
    · exact h.own b (.inr (.inr (.inr (.inr (.inl hb)))))
    · exact h.own b (.inr (.inr (.inr (.inr (.inr (.inl hb))))))
    · rcases ho b hb with e | e
      · exact h.own b (.inr (.inr (.inr (.inr (.inr (.inr e))))))
      · exact fun hb' => by have := h.flt _ hb'; omega
  · exact h.tq.keep kk fun b hb hx => hx.elim (fun e => by
      obtain ⟨c', hc⟩ := h.tblk hb
      exact off_of hc (by decide) ⟨_, e ▸ h.blk⟩) fun e => h.ne b hb e
  · refine hq.off ((Keep.refl (fun q => q = g) w').set rfl _) fun b hb => ?_
    rw [hb]; exact off_of k1 (by decide)
  · refine own_off (hr x hx) ((Keep.refl (fun q => q = g) w').set rfl _) fun b hb => ?_
    rw [hb]; exact off_of k1 (by decide)
  · rcases ho b hb' with e | e
    · exact h.ne b hb e
    · have := hlt b (.inr (.inr (.inr (.inr (.inr (.inl hb))))))
      omega
theorem ShB.setHas (h : ShB w G F g c m1 m2 f1 f2 vt vo ts os s) (k : Keep (fun q => q = m1 ∨ InM f1 q) w w') {M : List (Int × Int)} {f' : Int → Option Value} (hm : MM w' m1 M f') (hi : ∀ q, InM f' q → InM f1 q ∨ w.heap.size ≤ q) :
    ShB w' G F g c m1 m2 f' f2 vt vo ts os { s with has := M } := by
  have hX : ∀ {b : Nat} {c : Array Value} {e : TypeId}, Blk w b c e → ¬ (b = m1 ∨ InM f1 b) := fun hb hx => hx.elim (fun e => h.mm1.map.not_blk (e ▸ hb)) fun hq => h.mm1.in_blk hq hb
  have hG : ∀ b, G b → ¬ (b = m1 ∨ InM f1 b) := fun b hb hx => hx.elim (fun e => h.own b (.inr (.inl e)) (h.gf b hb)) fun e => h.own b (.inr (.inr (.inr (.inl e)))) (h.gf b hb)
  have hoff : ∀ {e : TypeId}, ∀ b, (b = m1 ∨ InM f1 b) → ¬ ∃ c, Blk w b c e := fun b hb ⟨c, hc⟩ => hX hc hb
  have hnew : ∀ q, w.heap.size ≤ q → ∀ b, ShOwn g m1 m2 f1 f2 vt vo b → q ≠ b := fun q hq b hb e => by have := h.own_lt hb; omega
  refine ⟨h.blk.keep k (hX h.blk), fun b hb => ?_, h.gf, fun b hb => Nat.lt_of_lt_of_le (h.flt b hb) k.size, h.con.keep k hG, hm, h.mm2.keep k (fun hx => hx.elim (fun e => h.m12 e.symm) fun hq => (h.a12 _ hq).1 rfl) (fun q hq hx => hx.elim (fun e => h.a21 q hq e) fun hq' => (h.a12 q hq').2 hq), h.m12, fun q hq => ?_, h.a21, h.tq.off k hoff, h.tn, fun x hx => own_off (h.tr x hx) k hoff, h.oq.off k hoff, h.on, fun x hx => own_off (h.or x hx) k hoff, h.ne⟩
  · rcases hb with hb | hb | hb | hb | hb | hb | hb
    · exact h.own b (.inl hb)
    · exact h.own b (.inr (.inl hb))
    · exact h.own b (.inr (.inr (.inl hb)))
    · rcases hi b hb with e | e
      · exact h.own b (.inr (.inr (.inr (.inl e))))
      · exact fun hb' => by have := h.flt _ hb'; omega
    · exact h.own b (.inr (.inr (.inr (.inr (.inl hb)))))
    · exact h.own b (.inr (.inr (.inr (.inr (.inr (.inl hb))))))
    · exact h.own b (.inr (.inr (.inr (.inr (.inr (.inr hb))))))
  · rcases hi q hq with e | e
    · exact h.a12 q e
    · exact ⟨hnew q e m2 (.inr (.inr (.inl rfl))), fun hq' => hnew q e q (.inr (.inr (.inr (.inr (.inl hq'))))) rfl⟩
theorem ShB.setNxt (h : ShB w G F g c m1 m2 f1 f2 vt vo ts os s) (k : Keep (fun q => q = m2 ∨ InM f2 q) w w') {M : List (Int × Int)} {f' : Int → Option Value} (hm : MM w' m2 M f') (hi : ∀ q, InM f' q → InM f2 q ∨ w.heap.size ≤ q) :
    ShB w' G F g c m1 m2 f1 f' vt vo ts os { s with nxt := M } := by
  have hX : ∀ {b : Nat} {c : Array Value} {e : TypeId}, Blk w b c e → ¬ (b = m2 ∨ InM f2 b) := fun hb hx => hx.elim (fun e => h.mm2.map.not_blk (e ▸ hb)) fun hq => h.mm2.in_blk hq hb
  have hG : ∀ b, G b → ¬ (b = m2 ∨ InM f2 b) := fun b hb hx => hx.elim (fun e => h.own b (.inr (.inr (.inl e))) (h.gf b hb)) fun e => h.own b (.inr (.inr (.inr (.inr (.inl e))))) (h.gf b hb)
  have hoff : ∀ {e : TypeId}, ∀ b, (b = m2 ∨ InM f2 b) → ¬ ∃ c, Blk w b c e := fun b hb ⟨c, hc⟩ => hX hc hb
  have hnew : ∀ q, w.heap.size ≤ q → ∀ b, ShOwn g m1 m2 f1 f2 vt vo b → q ≠ b := fun q hq b hb e => by have := h.own_lt hb; omega
  refine ⟨h.blk.keep k (hX h.blk), fun b hb => ?_, h.gf, fun b hb => Nat.lt_of_lt_of_le (h.flt b hb) k.size, h.con.keep k hG, h.mm1.keep k (fun hx => hx.elim (fun e => h.m12 e) fun hq => h.a21 _ hq rfl) (fun q hq hx => hx.elim (fun e => (h.a12 q hq).1 e) fun hq' => (h.a12 q hq).2 hq'), hm, h.m12, fun q hq => ⟨(h.a12 q hq).1, fun hq' => ?_⟩, fun q hq => ?_, h.tq.off k hoff, h.tn, fun x hx => own_off (h.tr x hx) k hoff, h.oq.off k hoff, h.on, fun x hx => own_off (h.or x hx) k hoff, h.ne⟩
  · rcases hb with hb | hb | hb | hb | hb | hb | hb
    · exact h.own b (.inl hb)
    · exact h.own b (.inr (.inl hb))
    · exact h.own b (.inr (.inr (.inl hb)))
    · exact h.own b (.inr (.inr (.inr (.inl hb))))
    · rcases hi b hb with e | e
      · exact h.own b (.inr (.inr (.inr (.inr (.inl e)))))
      · exact fun hb' => by have := h.flt _ hb'; omega
    · exact h.own b (.inr (.inr (.inr (.inr (.inr (.inl hb))))))
    · exact h.own b (.inr (.inr (.inr (.inr (.inr (.inr hb))))))
  · rcases hi q hq' with e | e
    · exact (h.a12 q hq).2 e
    · exact hnew q e q (.inr (.inr (.inr (.inl hq)))) rfl
  · rcases hi q hq with e | e
    · exact h.a21 q e
    · exact hnew q e m1 (.inr (.inl rfl))
end
theorem MM.room {w : World} {m : Nat} {M : List (Int × Int)} {f : Int → Option Value} (h : MM w m M f) {n : Int} (hf : f n = none) {w1 w2 : World} {q : Nat} (hq : q = w.heap.size) (x : Ext w w1) (hk : KMap Tryz.prog 3 (Value.int .i64) w1 q (fun _ => none)) (hs : Stm w1 q) (h2 : KMap Tryz.prog 3 (Value.int .i64) w2 m (fun l => if l = n then some (.map (some q)) else f l)) (k : Keep (fun l => l = m) w1 w2) :
    MM w2 m M (fun l => if l = n then some (.map (some q)) else f l) ∧ (∀ l, InM (fun l => if l = n then some (.map (some q)) else f l) l → InM f l ∨ w.heap.size ≤ l) ∧ Keep (fun l => l = m ∨ InM f l) w w2 := by
  have hin : ∀ l, InM (fun l => if l = n then some (.map (some q)) else f l) l → InM f l ∨ l = q := fun l ⟨a, ha⟩ => by
    simp only at ha
    split at ha
    · simp only [Option.some.injEq, Value.map.injEq] at ha
      exact .inr ha.symm
    · exact .inl ⟨a, ha⟩
  have hmq : m ≠ q := by have := h.map.lt; omega
  have hnone : ∀ o, (n, o) ∉ M := by
    rcases h.val n with ⟨_, g⟩ | ⟨p, g, _⟩
    · exact g
    · rw [hf] at g; cases g
  refine ⟨⟨h2, fun l hl => ?_, fun l => ?_, fun a l p hal ha hl => ?_⟩, fun l hl => (hin l hl).imp id fun e => by omega, (x.keep _).trans (k.mono fun _ _ e => .inl e)⟩
  · rcases hin l hl with e | e
    · exact h.ne l e
    · rw [e]; exact fun e => hmq e.symm
  · by_cases hl : l = n
    · subst hl
      refine .inr ⟨q, by simp, (hk.keep k fun e => hmq e.symm).eq fun o => ?_, hs.keep k fun e => hmq e.symm⟩
      unfold setF
      rw [if_neg (hnone o)]
    · simp only [if_neg hl]
      rcases h.val l with g | ⟨p, g1, g2, g3⟩
      · exact .inl g
      · exact .inr ⟨p, g1, (g2.ext x).keep k (h.ne p ⟨l, g1⟩), (g3.keep (x.keep fun _ => False) fun h => h).keep k (h.ne p ⟨l, g1⟩)⟩
  · have hlt : ∀ l, f l = some (.map (some q)) → False := fun l e => by have := h.in_lt ⟨l, e⟩; omega
    by_cases h3 : a = n <;> by_cases h4 : l = n
    · exact hal (h3.trans h4.symm)
    · rw [if_pos h3] at ha
      rw [if_neg h4] at hl
      simp only [Option.some.injEq, Value.map.injEq] at ha
      exact hlt l (ha ▸ hl)
    · rw [if_neg h3] at ha
      rw [if_pos h4] at hl
      simp only [Option.some.injEq, Value.map.injEq] at hl
      exact hlt a (hl ▸ ha)
    · rw [if_neg h3] at ha
      rw [if_neg h4] at hl
      exact h.apart a l p hal ha hl
theorem MM.put {w w' : World} {m : Nat} {M : List (Int × Int)} {f : Int → Option Value} (h : MM w m M f) {n o : Int} {q : Nat} (hf : f n = some (.map (some q))) (hk : KMap Tryz.prog 3 (Value.int .i64) w' q (fun l => if l = o then some (.bool true) else setF M n l)) (hs : Stm w' q) (k : Keep (fun l => l = q) w w') :
    MM w' m (M ++ [(n, o)]) f ∧ Keep (fun l => l = m ∨ InM f l) w w' := by
  refine ⟨⟨h.map.keep k fun e => h.ne q ⟨n, hf⟩ e.symm, h.ne, fun l => ?_, h.apart⟩, k.mono fun l _ e => .inr (e ▸ ⟨n, hf⟩)⟩
  by_cases hl : l = n
  · subst hl
    refine .inr ⟨q, hf, hk.eq fun p => ?_, hs⟩
    unfold setF
    by_cases hp : p = o
    · subst hp
      rw [if_pos rfl, if_pos (List.mem_append_right _ (List.mem_singleton.2 rfl))]
    · rw [if_neg hp]
      have : (l, p) ∈ M ++ [(l, o)] ↔ (l, p) ∈ M := by simp [hp]
      by_cases hm : (l, p) ∈ M
      · rw [if_pos hm, if_pos (this.2 hm)]
      · rw [if_neg hm, if_neg fun e => hm (this.1 e)]
  · have : ∀ p, (l, p) ∈ M ++ [(n, o)] ↔ (l, p) ∈ M := fun p => by simp [hl]
    rcases h.val l with ⟨g1, g2⟩ | ⟨p, g1, g2, g3⟩
    · exact .inl ⟨g1, fun p hp => g2 p ((this p).1 hp)⟩
    · have hpq : p ≠ q := fun e => h.apart n l q (fun e => hl e.symm) hf (e ▸ g1)
      refine .inr ⟨p, g1, (g2.keep k hpq).eq fun u => ?_, g3.keep k hpq⟩
      unfold setF
      by_cases hm : (l, u) ∈ M
      · rw [if_pos hm, if_pos ((this u).2 hm)]
      · rw [if_neg hm, if_neg fun e => hm ((this u).1 e)]
end Go.Proofs.YtbagppdibncfdaaGreatDoor
namespace Go.Proofs.YtbagppdibncfdaaGreatDoor
open Go Go.RowKit
open Go.ChangeMaps (setBlock)
def Rng (w : World) (b r : Nat) (h : Int → Option Value) (L : List Int) : Prop :=
  ∃ es clock since seen c0, ∃ m : List (Int × Value), w.heap[b]? = some (.map es clock) ∧ w.heap[r]? = some (.mapIter (some b) since seen c0) ∧ since ≤ c0 ∧ since ≤ clock ∧ (∀ x ∈ es.toList, x.born < since) ∧ (es.toList.map (·.born)).Nodup ∧
    es.toList.map (fun x => (x.key, x.val)) = m.map (fun x => (Value.int .i64 x.1, x.2)) ∧ (m.map (·.1)).Nodup ∧ (∀ k, kget m k = h k) ∧ L.Nodup ∧ ∀ k, k ∈ L ↔ ∃ e ∈ es.toList, e.key = Value.int .i64 k ∧ seen.contains e.born = true
section
variable {w : World} {b r : Nat} {h : Int → Option Value} {L : List Int}
theorem Rng.keep {w' : World} {X : Nat → Prop} (g : Rng w b r h L) (k : Keep X w w') (h1 : ¬ X b) (h2 : ¬ X r) : Rng w' b r h L := by
  obtain ⟨es, cl, si, se, c0, m, g1, g2, g3⟩ := g
  exact ⟨es, cl, si, se, c0, m, Keep.get k g1 h1, Keep.get k g2 h2, g3⟩
theorem Rng.left {w' : World} {X : Nat → Prop} (g : Rng w b r h L) (k : Keep X w w') (h1 : ¬ X b) (h2 : ¬ X r) : w'.rangeLeft b r = w.rangeLeft b r := by
  obtain ⟨es, cl, si, se, c0, m, g1, g2, g3⟩ := g
  unfold World.rangeLeft
  rw [g1, g2, Keep.get k g1 h1, Keep.get k g2 h2]
theorem Rng.lt (g : Rng w b r h L) : r < w.heap.size := by
  obtain ⟨es, cl, si, se, c0, m, g1, g2, g3⟩ := g
  exact (Array.getElem?_eq_some_iff.1 g2).1
theorem Rng.not_blk (g : Rng w b r h L) {c : Array Value} {e : TypeId} : ¬ Blk w b c e ∧ ¬ Blk w r c e := by
  obtain ⟨es, cl, si, se, c0, m, g1, g2, g3⟩ := g
  exact ⟨fun q => (by have := g1.symm.trans q; cases this), fun q => (by have := g2.symm.trans q; cases this)⟩
theorem kget_some {m : List (Int × Value)} {k : Int} : kget m k ≠ none ↔ ∃ x ∈ m, x.1 = k := by
  unfold kget
  rw [ne_eq, Option.map_eq_none_iff, List.find?_eq_none]
  constructor
  · intro g
    refine Classical.byContradiction fun c => g fun x hx => ?_
    simpa using fun e => c ⟨x, hx, e⟩
  · rintro ⟨x, hx, e⟩ g
    have := g x hx
    simp [e] at this
theorem rng_start (hk : KMap Tryz.prog 3 (Value.int .i64) w b h) (hs : Stm w b) :
    ∃ w', (Instr.range 163 (.map (some b))).run Tryz.prog w = .ok (.pointer (some ⟨w.heap.size, 0, none⟩)) w' ∧ Rng w' b w.heap.size h [] ∧ Ext w w' ∧ w'.heap.size = w.heap.size + 1 := by
  obtain ⟨es, cl, m, hb, he, hn, hkk, hf⟩ := hk
  obtain ⟨es', cl', hb', hlt, hnd⟩ := hs
  rw [hb] at hb'
  obtain ⟨rfl, rfl⟩ : es = es' ∧ cl = cl' := by simpa using hb'
  have hx : Ext w (w.alloc (.mapIter (some b) cl #[] cl)) := (Ext.refl _).alloc _
  refine ⟨_, run_range_map w 163 3 4 b es cl Tryz.underlying163 hb, ⟨es, cl, cl, #[], cl, m, Ext.get hx hb, heap_alloc_new w _, Nat.le_refl _, Nat.le_refl _, hlt, hnd, he, hn, hf, List.nodup_nil, fun k => ⟨fun g => by simp at g, fun ⟨e, _, _, g⟩ => by simp at g⟩⟩, hx, by simp⟩
theorem Rng.next (g : Rng w b r h L) (ty : TypeId) : ((∀ k, k ∈ L ↔ h k ≠ none) ∧ (Instr.next (.pointer (some ⟨r, 0, none⟩)) false ty).run Tryz.prog w = .ok (.tuple #[.bool false]) w) ∨
    ∃ k v w', (Instr.next (.pointer (some ⟨r, 0, none⟩)) false ty).run Tryz.prog w = .ok (.tuple #[.bool true, .int .i64 k, v]) w' ∧ h k ≠ none ∧ Rng w' b r h (L ++ [k]) ∧ w'.rangeLeft b r < w.rangeLeft b r ∧ Keep (fun q => q = r) w w' ∧ w'.heap.size = w.heap.size ∧ (Instr.entry (.pointer (some ⟨r, 0, none⟩))).run Tryz.prog w' = .ok (.tuple #[.int .i64 k, v]) w' := by
  obtain ⟨es, cl, si, se, c0, m, hb, hr, h3, h4, h5, h6, h7, h8, h9, h10, h11⟩ := g
  have hkm : ∀ k, h k ≠ none ↔ ∃ e ∈ es.toList, e.key = Value.int .i64 k := fun k => by
    rw [← h9 k, kget_some]
    constructor
    · rintro ⟨x, hx, rfl⟩
      have : (Value.int .i64 x.1, x.2) ∈ es.toList.map (fun x => (x.key, x.val)) := by rw [h7]; exact List.mem_map.2 ⟨x, hx, rfl⟩
      obtain ⟨e, he, he2⟩ := List.mem_map.1 this
      exact ⟨e, he, (Prod.mk.inj he2).1⟩
    · rintro ⟨e, he, hek⟩
      have : (e.key, e.val) ∈ m.map (fun x => (Value.int .i64 x.1, x.2)) := by rw [← h7]; exact List.mem_map.2 ⟨e, he, rfl⟩
      obtain ⟨x, hx, hx2⟩ := List.mem_map.1 this
      exact ⟨x, hx, intV_inj _ _ ((Prod.mk.inj hx2).1.trans hek)⟩
  have hne : r ≠ b := fun e => by rw [e, hb] at hr; cases hr
  rcases run_next_at (P := Tryz.prog) w ty r b si c0 se es cl hr hb h5 h3 with ⟨g0, hrun⟩ | ⟨e, he, w1, hal, hrun⟩
  · refine .inl ⟨fun k => ?_, hrun⟩
    rw [h11, hkm]
    exact ⟨fun ⟨e, a, c, _⟩ => ⟨e, a, c⟩, fun ⟨e, a, c⟩ => ⟨e, a, c, all_seen es se g0 e a⟩⟩
  · obtain ⟨hem, hes⟩ := mem_left he
    have : (e.key, e.val) ∈ m.map (fun x => (Value.int .i64 x.1, x.2)) := by rw [← h7]; exact List.mem_map.2 ⟨e, hem, rfl⟩
    obtain ⟨x, hx, hx2⟩ := List.mem_map.1 this
    have hek : e.key = Value.int .i64 x.1 := (Prod.mk.inj hx2).1.symm
    have hr1 : w1.heap[r]? = some (.mapIter (some b) si se c0) := by rcases hal with rfl | rfl <;> exact hr
    have hb1 : w1.heap[b]? = some (.map es cl) := by rcases hal with rfl | rfl <;> exact hb
    have hset := Go.MapKept.heap_set (o' := .mapIter (some b) si (se.push e.born) cl) hr1
    have hb' : (setBlock w1 r (.mapIter (some b) si (se.push e.born) cl)).heap[b]? = some (.map es cl) := (hset.2 b (fun e1 => hne e1.symm)).trans hb1
    rw [hek] at hrun
    have hbe : ∀ y ∈ es.toList, y.born = e.born → y = e := fun y hy hyb => born_inj h6 hy hem hyb
    have hen := run_entry_at (P := Tryz.prog) _ r b si se es cl e hset.1 hb' hem h6
    rw [hek] at hen
    refine .inr ⟨x.1, e.val, _, hrun, (hkm _).2 ⟨e, hem, hek⟩, ⟨es, cl, si, se.push e.born, cl, m, hb', hset.1, h4, h4, h5, h6, h7, h8, h9, ?_, fun k => ?_⟩, ?_, ?_, ?_, hen⟩
    · refine List.nodup_append.2 ⟨h10, by simp, fun a ha c hc => ?_⟩
      rw [List.mem_singleton] at hc
      rintro rfl
      obtain ⟨y, hy, hyk, hys⟩ := (h11 _).1 ha
      have hpos : ∀ {y z : MapEntry}, y ∈ es.toList → z ∈ es.toList → y.key = z.key → y = z := fun {y z} hy hz hyz => by
        have hk : (es.toList.map (·.key)).Nodup := by
          have e1 : es.toList.map (·.key) = (m.map (·.1)).map (Value.int .i64) := by
            have := congrArg (List.map Prod.fst) h7
            simpa [List.map_map, Function.comp_def] using this
          rw [e1]
          refine List.Pairwise.map _ (fun a c hac => ?_) h8
          exact fun e => hac (intV_inj _ _ e)
        obtain ⟨i, hi, rfl⟩ := List.mem_iff_getElem.1 hy
        obtain ⟨j, hj, rfl⟩ := List.mem_iff_getElem.1 hz
        have hpw := fun (i j : Nat) (hi : i < es.toList.length) (hj : j < es.toList.length) (hij : i < j) => List.pairwise_iff_getElem.1 hk i j (by rw [List.length_map]; exact hi) (by rw [List.length_map]; exact hj) hij
        rcases Nat.lt_trichotomy i j with k | rfl | k
        · exact absurd (by simpa using hyz) (hpw i j hi hj k)
        · rfl
        · exact absurd (by simpa using hyz.symm) (hpw j i hj hi k)
      have : y = e := hpos hy hem (by rw [hyk, hek, hc])
      rw [this, hes] at hys
      cases hys
    · rw [List.mem_append, List.mem_singleton, h11]
      constructor
      · rintro (⟨y, a1, a2, a3⟩ | rfl)
        · exact ⟨y, a1, a2, by rw [contains_push, a3]; rfl⟩
        · exact ⟨e, hem, hek, by rw [contains_push]; simp⟩
      · rintro ⟨y, a1, a2, a3⟩
        rw [contains_push, Bool.or_eq_true] at a3
        rcases a3 with a3 | a3
        · exact .inl ⟨y, a1, a2, a3⟩
        · obtain rfl := hbe y a1 (by simpa using a3)
          exact .inr (intV_inj _ _ (a2.symm.trans hek))
    · unfold World.rangeLeft
      rw [hb', show (setBlock w1 r (.mapIter (some b) si (se.push e.born) cl)).heap[r]? = _ from hset.1, hb, hr]
      exact left_shrinks es se e he
    · rcases hal with rfl | rfl <;> exact ⟨rfl, rfl, rfl, by simp [setBlock], fun i _ hi => hset.2 i (fun e1 => hi e1)⟩
    · rcases hal with rfl | rfl <;> simp [setBlock]
variable {ops : Array Oper} {rest : List Oper} {o : Oper} {a : Act} {Q : Exit → Act → World → Prop}
theorem wpList_range_k (hg : o.guard = none) (m : Operand) (hop : o.op = Op.range 163 m) (hm : a.eval m = .map (some b)) (hk : KMap Tryz.prog 3 (Value.int .i64) w b h) (hs : Stm w b)
    (hK : ∀ w', Rng w' b w.heap.size h [] → Ext w w' → w'.heap.size = w.heap.size + 1 → wpList Tryz.prog ops Q rest (a.put o.dst (.pointer (some ⟨w.heap.size, 0, none⟩))) w') : wpList Tryz.prog ops Q (o :: rest) a w := by
  refine wpList_plain hg fun K' hK' => ?_
  obtain ⟨w', hrun, r1, r2, r3⟩ := rng_start hk hs
  unfold Oper.wp
  simp [execOp, hop, hm, hrun, Result.andThen]
  exact hK' _ _ (hK w' r1 r2 r3)
theorem wpList_next_k (hg : o.guard = none) (it : Operand) (hop : o.op = Op.next it false) (hit : a.eval it = .pointer (some ⟨r, 0, none⟩)) (g : Rng w b r h L)
    (hDone : (∀ k, k ∈ L ↔ h k ≠ none) → wpList Tryz.prog ops Q rest (a.put o.dst (.tuple #[.bool false])) w)
    (hMore : ∀ k v w', h k ≠ none → Rng w' b r h (L ++ [k]) → w'.rangeLeft b r < w.rangeLeft b r → Keep (fun q => q = r) w w' → w'.heap.size = w.heap.size → (Instr.entry (.pointer (some ⟨r, 0, none⟩))).run Tryz.prog w' = .ok (.tuple #[.int .i64 k, v]) w' → wpList Tryz.prog ops Q rest (a.put o.dst (.tuple #[.bool true, .int .i64 k, v])) w') :
    wpList Tryz.prog ops Q (o :: rest) a w := by
  refine wpList_plain hg fun K' hK' => ?_
  unfold Oper.wp
  rcases g.next o.type with ⟨h1, hrun⟩ | ⟨k, v, w', hrun, h1, h2, h3, h4, h5, h6⟩
  · simp [execOp, hop, hit, hrun, Result.andThen]
    exact hK' _ _ (hDone h1)
  · simp [execOp, hop, hit, hrun, Result.andThen]
    exact hK' _ _ (hMore k v w' h1 h2 h3 h4 h5 h6)
end
theorem nodup_few {L : List Int} (hn : L.Nodup) {N : Nat} (h : ∀ x ∈ L, 0 ≤ x ∧ x < N) : L.length ≤ N := by
  have := nodup_le L ((List.range N).map fun o : Nat => (o : Int)) hn fun x hx => List.mem_map.2 ⟨x.toNat, List.mem_range.2 (by have := h x hx; omega), by have := h x hx; omega⟩
  simpa using this
theorem sorted_keys {M : List (Int × Int)} {n : Int} (hM : ∀ e ∈ M, 0 ≤ e.2 ∧ e.2 < 126) {L : List Int} (hn : L.Nodup) (hL : ∀ k, k ∈ L ↔ setF M n k ≠ none) : L.mergeSort (fun x y => decide (x ≤ y)) = keysL M n := by
  have hp := List.mergeSort_perm L (fun x y : Int => decide (x ≤ y))
  refine srt_uniq ?_ (keysL_srt M n) fun x => ?_
  · have h1 : (L.mergeSort fun x y => decide (x ≤ y)).Pairwise (fun x y : Int => decide (x ≤ y) = true) := List.pairwise_mergeSort (fun a b c h1 h2 => by simp at h1 h2 ⊢; omega) (fun a b => by simp; omega) L
    have h2 : (L.mergeSort fun x y => decide (x ≤ y)).Nodup := hp.nodup_iff.2 hn
    refine List.Pairwise.imp₂ (fun a c h1 h2 => ?_) h1 h2
    have h1 := of_decide_eq_true h1
    have h2 : a ≠ c := h2
    omega
  · rw [hp.mem_iff, hL, mem_keysL hM]
    unfold setF
    by_cases hm : (n, x) ∈ M
    · rw [if_pos hm]; simp [hm]
    · rw [if_neg hm]; simp [hm]
set_option maxRecDepth 100000 in
set_option maxHeartbeats 1600000 in
theorem shardkeys_some (M : List (Int × Int)) (n : Int) (q : Nat) (w : World) (hk : KMap Tryz.prog 3 (Value.int .i64) w q (setF M n)) (hs : Stm w q) (hM : ∀ e ∈ M, 0 ≤ e.2 ∧ e.2 < 126) :
    Calls Tryz.prog 121 #[.map (some q)] w fun e w' => ∃ v, e = .returned v ∧ IRow w.heap.size w' v (keysL M n) ∧ Ext w w' := by
  have hql := hk.lt
  have Hk := hid hk
  have Hs := hid hs
  have HM := hid hM
  clear hk hs hM
  go_enter Tryz.func121, Tryz.ntmps121
  go_wp2_with (first
    | (at_range; refine wpList_range_k rfl _ rfl rfl Hk.out Hs.out ?_; intro w0 hrg hx0 hs0)
    | go_in)
  go_frame
  go_loopw [3] (fun t3 wr => ∃ L : List Int, Rng wr q w.heap.size (setF M n) L ∧ IRow (w.heap.size + 1) wr t3 L ∧ Ext w wr ∧ w.heap.size + 1 ≤ wr.heap.size) (fun _ wr => wr.rangeLeft q w.heap.size)
  case atStart => exact ⟨[], hrg, IRow.nil _ _, hx0, by omega⟩
  case round =>
    clear hrg hx0 hs0
    obtain ⟨L, hrg, hr, hx, hsz⟩ := hrel
    have HX := hid hx
    have HR := hid hr
    have HG := hid hrg
    have Hsz := hid hsz
    have hLn : L.Nodup := by obtain ⟨_, _, _, _, _, _, _, _, _, _, _, _, _, _, _, h, _⟩ := hrg; exact h
    have hLin : ∀ x ∈ L, 0 ≤ x ∧ x < ((126 : Nat) : Int) := fun x hx => by
      obtain ⟨es, cl, si, se, c0, m, _, _, _, _, _, _, h7, _, h9, _, h11⟩ := hrg
      obtain ⟨e, he, hek, _⟩ := (h11 x).1 hx
      have : (e.key, e.val) ∈ m.map (fun x => (Value.int .i64 x.1, x.2)) := by rw [← h7]; exact List.mem_map.2 ⟨e, he, rfl⟩
      obtain ⟨y, hy, hy2⟩ := List.mem_map.1 this
      have hyx : y.1 = x := intV_inj _ _ ((Prod.mk.inj hy2).1.trans hek)
      have h1 : setF M n x ≠ none := by rw [← h9]; exact kget_some.2 ⟨y, hy, hyx⟩
      unfold setF at h1
      by_cases hm : (n, x) ∈ M
      · exact HM.out _ hm
      · rw [if_neg hm] at h1; exact absurd rfl h1
    have hl := nodup_few hLn hLin
    have Hln := hid hLn
    clear hrg hr hx hLn hLin hsz
    go_wp2_with (first
      | (at_next; refine wpList_next_k rfl _ rfl rfl HG.out ?_ ?_)
      | go_in)
    · intro hL
      have HS := hid (sort_row _ L wr (w.heap.size + 1) HR.out (by omega))
      obtain ⟨av, cv, rfl⟩ := row_form HR.out
      have He := hid (sorted_keys HM.out Hln.out hL)
      clear hL
      go_wp2_with fail
      refine HS.out.mono ?_
      intro e w2 hx
      obtain ⟨rfl, hr2, hk2⟩ := hx
      rw [He.out] at hr2
      have HR2 : Hid (IRow w.heap.size w2 (.slice av L.length cv) (keysL M n)) := hid (own_low hr2 (Nat.le_succ _))
      have HX2 : Hid (Ext w w2) := hid (Keep.new HX.out hk2 fun b hb => Nat.le_of_succ_le (HR.out.lt hb).1)
      have hle : L.length = (keysL M n).length := by rw [← He.out]; simp
      clear HS hr2 hk2
      rw [hle] at HR2 ⊢
      clear hle
      go_wp2
      go_ret
      exact ⟨_, rfl, HR2.out, HX2.out⟩
    · intro k v w1 h1 hrg1 hlt hk1 hs1 hen
      have HG1 := hid hrg1
      have Hlt := hid hlt
      have HX1 : Hid (Ext w w1) := hid (Keep.new HX.out hk1 fun b hb => by rw [hb]; exact Nat.le_refl _)
      have HR1 := hid (row_keep HR.out hk1 fun b hb hbr => by
        have := (HR.out.lt hb).1
        omega)
      have hsz1 : w.heap.size + 1 ≤ w1.heap.size := by rw [hs1]; exact Hsz.out
      obtain ⟨av, cv, rfl⟩ := row_form HR.out
      obtain ⟨W2, hW2⟩ : ∃ W2, W2 = w1.alloc (.cells #[.int .i64 k] 3) := ⟨_, rfl⟩
      have hx2 : Ext w1 W2 := by rw [hW2]; exact (Ext.refl _).alloc _
      have HRa := hid (own_ext HR1.out hx2)
      have Hbs := hid (show w.heap.size + 1 ≤ W2.heap.size from Nat.le_trans hsz1 hx2.size)
      have HBk := hid (show Blk W2 w1.heap.size #[.int .i64 k] 3 by rw [hW2]; exact Blk.new _ _ _)
      have HWe := hid hW2
      have Hx2 := hid hx2
      have Hl := hid hl
      clear h1 hrg1 hlt hk1 hs1 hx2 hW2 hsz1 hl
      go_wp2_with (first
        | (at_builtin; rw [← HWe.out]; refine wpList_append_el (w.heap.size + 1) Hbs.out 45 3 (.int .i64 0) 1 8 Tryz.underlying45 int_info1 rfl (by omega) (by omega) rfl _ _ rfl (.slice av L.length cv) L.length (icells L) rfl HRa.out w1.heap.size [.int .i64 k] rfl (by simp [Value.oneCell']) rfl HBk.out (by have := Hl.out; omega) ?_; intro v' w2 h1 h2 h3)
        | go_in)
      have HR2 : Hid (IRow (w.heap.size + 1) w2 v' (L ++ [k])) := hid (by unfold IRow; rw [List.length_append, icells_append]; exact h1)
      have hnb : ∀ b, (Value.slice av L.length cv).ownBlock = some b → ∃ c, Blk W2 b c 3 := fun b hb => own_ty HRa.out hb
      have hq : ¬ (Value.slice av L.length cv).ownBlock = some q := fun hb => by
        obtain ⟨c, hc⟩ := hnb q hb
        exact (HG1.out.keep (Hx2.out.keep fun _ => False) (fun h => h) (fun h => h)).not_blk.1 hc
      have hr : ¬ (Value.slice av L.length cv).ownBlock = some w.heap.size := fun hb => by
        obtain ⟨c, hc⟩ := hnb _ hb
        exact (HG1.out.keep (Hx2.out.keep fun _ => False) (fun h => h) (fun h => h)).not_blk.2 hc
      have HG2 := hid (HG1.out.keep (Hx2.out.keep fun _ => False) (fun h => h) (fun h => h))
      have HG3 := hid (HG2.out.keep h2 hq hr)
      have Hm : Hid (w2.rangeLeft q w.heap.size < wr.rangeLeft q w.heap.size) := hid (by
        rw [HG2.out.left h2 hq hr, HG1.out.left (Hx2.out.keep fun _ => False) (fun h => h) (fun h => h)]
        exact Hlt.out)
      have HX2 : Hid (Ext w w2) := hid (Keep.new (HX1.out.trans Hx2.out) h2 fun b hb => Nat.le_of_succ_le (World.ownsRow.lt HRa.out b hb).1)
      have Hs2 : Hid (w.heap.size + 1 ≤ w2.heap.size) := hid (Nat.le_trans Hbs.out h2.size)
      clear h1 h2 h3 hnb hq hr
      go_wp2
      go_roundw
      case rel => exact ⟨L ++ [k], HG3.out, HR2.out, HX2.out, Hs2.out⟩
      case measure => exact Hm.out
theorem shardkeys_none (w : World) : Calls Tryz.prog 121 #[.map none] w fun e w' => e = .returned (.slice none 0 0) ∧ Ext w w' := by
  have hrg := run_range_nilMap (P := Tryz.prog) w 163 3 4 Tryz.underlying163
  have hnx : ∀ ty, (Instr.next (.pointer (some ⟨w.heap.size, 0, none⟩)) false ty).run Tryz.prog (w.alloc (.mapIter none 0 #[] 0)) = _ := fun ty => run_next_nilMap w ty 0 0 #[]
  have HS := fun w1 => hid (Tryz.slices_Sort_int_none none 0 w1)
  have HX : Hid (Ext w (w.alloc (.mapIter none 0 #[] 0))) := hid ((Ext.refl _).alloc _)
  go_enter Tryz.func121, Tryz.ntmps121
  go_wp2
  refine wp_loop_rounds 1 ?_
  rw [rounds_succ]
  go_wp2_with fail
  refine (HS _).out.mono ?_
  rintro e w2 ⟨rfl, rfl⟩
  clear HS
  go_wp2
  go_ret
  exact ⟨rfl, HX.out⟩
theorem shardkeys_any {m : Nat} {M : List (Int × Int)} {f : Int → Option Value} (n : Int) (w : World) (h : MM w m M f) (hM : ∀ e ∈ M, 0 ≤ e.2 ∧ e.2 < 126) :
    Calls Tryz.prog 121 #[(f n).getD (.map none)] w fun e w' => ∃ v, e = .returned v ∧ IRow w.heap.size w' v (keysL M n) ∧ Ext w w' := by
  rcases h.val n with ⟨g1, g2⟩ | ⟨q, g1, g2, g3⟩
  · rw [g1]
    refine (shardkeys_none w).mono ?_
    rintro e w' ⟨rfl, hx⟩
    have : keysL M n = [] := List.eq_nil_iff_forall_not_mem.2 fun o ho => g2 o (keysL_in ho).1
    exact ⟨_, rfl, by rw [this]; exact IRow.nil _ _, hx⟩
  · rw [g1]
    exact shardkeys_some M n q w g2 g3 hM
end Go.Proofs.YtbagppdibncfdaaGreatDoor
namespace Go.Proofs.YtbagppdibncfdaaGreatDoor
open Go Go.RowKit
theorem note_info : (Tryz.prog.info? 57).map (fun i => (i.zero, i.size, i.bytes)) = some (some (.agg #[.int .i64 0, .int .u8 0, .slice none 0 0]), 3, 40) := by kernel_rfl
theorem natmod (n k : Nat) : (n : Int) % (k : Int) = ((n % k : Nat) : Int) := by simp
theorem tmod_nat (n k : Nat) : (n : Int).tmod (k : Int) = ((n % k : Nat) : Int) := by rw [Int.tmod_eq_emod_of_nonneg (by omega), natmod]
set_option maxRecDepth 100000 in
set_option maxHeartbeats 1600000 in
theorem shardowner_any (c : SC) (s : SH) (n : Nat) (w : World) (G F : Nat → Prop) (g : Nat) (hS : ShAt w G F g c s) (hn : n < 1000000) :
    Calls Tryz.prog 77 #[.pointer (some ⟨g, 0, none⟩), .int .i64 (n : Int)] w fun e w' => e = .returned (.int .i64 ((n % c.k : Nat) : Int)) ∧ Ext w w' := by
  obtain ⟨m1, m2, f1, f2, vt, vo, ts, os, h⟩ := hS
  have b5 := h.blk.av 5 rfl
  simp only [shCells, qA0, qA1, qA2] at b5
  obtain ⟨hm1, hm2⟩ := h.con.me
  obtain ⟨kk, hkk⟩ : ∃ kk, kk = c.k := ⟨_, rfl⟩
  rw [← hkk] at b5 hm1 hm2 ⊢
  have htm := tmod_nat n kk
  have hlt : n % kk < 1000000 := Nat.lt_of_le_of_lt (Nat.mod_le _ _) hn
  generalize n % kk = r at htm hlt
  have h0 : ((kk : Int) == 0) = false := beq_eq_false_iff_ne.2 (by omega)
  have h1 : ((kk : Int) = 0) = False := by simp; omega
  have h2 : (kk = 0) = False := by simp; omega
  clear h hm1 hkk
  go_enter Tryz.func77, Tryz.ntmps77
  go_wp2
  go_ret
  exact ⟨rfl, Ext.refl _⟩
set_option maxRecDepth 100000 in
set_option maxHeartbeats 3200000 in
theorem shardtell_any (c : SC) (s : SH) (n : Nat) (kd : Int) (l : List Int) (v : Value) (w : World) (G F : Nat → Prop) (g : Nat) (hS : ShAt w G F g c s) (hv : IRow 0 w v l) (hn : n < 1000000) (hld : s.load ≤ 900000000) :
    Calls Tryz.prog 78 #[.pointer (some ⟨g, 0, none⟩), .int .i64 (n : Int), .int .u8 kd, v] w fun x w' => x = .returned (.tuple #[]) ∧ ShAt w' G F g c (s.tell (c.me : Nat) (c.k : Nat) (n : Nat) kd l) ∧ Keep (fun b => ¬ F b) w w' := by
  have HO := hid (shardowner_any c s n w G F g hS hn)
  obtain ⟨m1, m2, f1, f2, vt, vo, ts, os, h⟩ := hS
  obtain ⟨av, cv, rfl⟩ := row_form hv
  obtain ⟨r, hr⟩ : ∃ r, r = n % c.k := ⟨_, rfl⟩
  rw [← hr] at HO
  have hmc := natmod n c.k
  rw [← hr] at hmc
  have Hld := hid hld
  have H0 := hid h
  have Hv0 := hid hv
  have Hmc := hid hmc
  clear h hv hld hr hn hmc
  go_enter Tryz.func78, Tryz.ntmps78
  go_wp2_with fail
  refine HO.out.mono ?_
  intro e w1 hx
  obtain ⟨rfl, hx1⟩ := hx
  have Hx1 := hid hx1
  obtain ⟨W, hW⟩ : ∃ W, W = w1.alloc (.cells #[.int .i64 (r : Int), .int .u8 kd, .slice av l.length cv] 57) := ⟨_, rfl⟩
  have hxW : Ext w1 W := by rw [hW]; exact (Ext.refl _).alloc _
  have HBx0 : Hid (Blk W w1.heap.size #[.int .i64 (r : Int), .int .u8 kd, .slice av l.length cv] 57) := hid (by rw [hW]; exact Blk.new _ _ _)
  have HWe := hid hW
  have HX0 := hid (hx1.trans hxW)
  have HS0 := hid (H0.out.ext hx1)
  have HSW := hid (H0.out.ext HX0.out)
  have HvW := hid (own_ext Hv0.out HX0.out)
  clear HO hx1 hW hxW H0 Hv0
  have d0 := HBx0.out.kc (X := fun _ => False) (fun e => e) 0 rfl
  have b4 := HSW.out.blk.kc (X := fun _ => False) (fun e => e) 4 rfl
  simp only [shCells, qA0, qA1, qA2] at d0 b4
  go_wp2
  rw [← HWe.out]
  refine wp_flowT (fun _ => False) (by kernel_rfl) (by kernel_rfl) ?_
  repeat (apply FlowT.d; (intro w1 hk; unfold does; go_simp; (try go_ints); (first | exact DetR.mk | (simp only [↓IntWalk.iteOmega, Oper.doesUpon_value]; exact DetR.mk) | (simp only [↓IntWalk.iteOmega]; go_simp; (try go_ints); exact DetR.mk))); simp only [Act.put, qS0, qS1, qS2])
  refine FlowT.fin fun w2 hx2 hk2 => ?_
  have HX2 := hid (HX0.out.trans hx2)
  have HS := hid (HSW.out.ext hx2)
  have HBx := hid (HBx0.out.ext hx2)
  have Hv := hid (own_ext HvW.out hx2)
  clear hx2 hk2 d0 b4 HSW HBx0 HvW HX0 HWe
  by_cases hm : r = c.me
  · have Hte : Hid (s.tell (c.me : Nat) (c.k : Nat) (n : Nat) kd l = { s with todo := s.todo ++ [⟨(r : Int), kd, l⟩] }) := hid (by
      unfold SH.tell
      rw [Hmc.out, if_pos (by rw [hm])])
    have hb : ((r : Int) == (c.me : Int)) = true := by rw [hm]; simp
    clear hm
    obtain ⟨aw, cw, hvt⟩ := HS.out.tq.form
    have hvt' := hvt
    subst hvt
    have hXq : ∀ (b : Nat) (e : TypeId), (Value.slice aw s.todo.length cw).ownBlock = some b → 57 ≠ e → ∀ c, ¬ Blk w2 b c e := fun _ _ hb he c' hc => by
      obtain ⟨c'', hc'⟩ := HS.out.tblk hb
      exact off_of hc' he ⟨_, hc⟩
    have hXw : ¬ (Value.slice aw s.todo.length cw).ownBlock = some w1.heap.size := fun hb => by
      have := HS0.out.own_lt (show ShOwn g m1 m2 f1 f2 (Value.slice aw s.todo.length cw) vo w1.heap.size by unfold ShOwn; simp only [hb, true_or, or_true])
      omega
    have b8 := HS.out.blk.kc (X := fun q => (Value.slice aw s.todo.length cw).ownBlock = some q) (fun hb => hXq _ _ hb (by decide) _ HS.out.blk) 10 rfl
    have d0 := HBx.out.kc (X := fun q => (Value.slice aw s.todo.length cw).ownBlock = some q) hXw 0 rfl
    have d1 := HBx.out.kc (X := fun q => (Value.slice aw s.todo.length cw).ownBlock = some q) hXw 1 rfl
    have d2 := HBx.out.kc (X := fun q => (Value.slice aw s.todo.length cw).ownBlock = some q) hXw 2 rfl
    simp only [shCells, qA0, qA1, qA2] at b8 d0 d1 d2
    have HXq := hid hXq
    clear hXq hXw hvt'
    go_wp2
    refine wp_flowT (fun q => (Value.slice aw s.todo.length cw).ownBlock = some q) (by kernel_rfl) (by kernel_rfl) ?_
    repeat (apply FlowT.d; (intro w1 hk; unfold does; go_simp; (try go_ints); (first | exact DetR.mk | (simp only [↓IntWalk.iteOmega, Oper.doesUpon_value]; exact DetR.mk) | (simp only [↓IntWalk.iteOmega]; go_simp; (try go_ints); exact DetR.mk))); simp only [Act.put, qS0, qS1, qS2])
    refine FlowT.s (fun v' w' => ∃ q, v' = .slice (some ⟨q, 0, none⟩) 1 1 ∧ Blk w' q #[.int .i64 (r : Int), .int .u8 kd, .slice av l.length cv] 57 ∧ Ext w2 w') 6 rfl (by kernel_rfl) (fun _ _ _ ⟨q, h1, h2, h3⟩ he => ⟨q, h1, h2.ext he, h3.trans he⟩) (fun w4 hC hk => ?_) ?_
    · unfold does
      go_simp
      exact ⟨hk.alloc _, _, rfl, Blk.new _ _ _, hC.alloc _⟩
    rintro _ ⟨_, q3, rfl, _, _⟩
    simp only [Act.put, qS0, qS1, qS2]
    refine FlowT.s (fun v' w' => (∃ a c, v' = .slice a (s.todo.length + 1) c) ∧ OwnsQ w' 0 57 3 v' (s.todo.length + 1) (ts.flatMap N2.cells ++ N2.cells ⟨⟨(r : Int), kd, l⟩, .slice av l.length cv⟩) ∧ ∀ b, v'.ownBlock = some b → (Value.slice aw s.todo.length cw).ownBlock = some b ∨ w2.heap.size ≤ b) 7 rfl (by kernel_rfl) (fun _ _ _ ⟨h1, h2, h3⟩ he => ⟨h1, h2.ext he, h3⟩) (fun w4 hC hk => ?_) ?_
    · obtain ⟨q', e, hg, hE⟩ := hC
      obtain rfl : q3 = q' := by simpa using e
      exact does_append_q 0 (Nat.zero_le _) 48 57 (.agg #[.int .i64 0, .int .u8 0, .slice none 0 0]) 3 40 Tryz.underlying48 note_info rfl (by omega) (by omega) rfl _ _ rfl _ _ _ rfl (HS.out.tq.ext hE) q3 (N2.cells ⟨⟨(r : Int), kd, l⟩, .slice av l.length cv⟩) rfl (by simp [N2.cells, Value.oneCell']) rfl hg (by have := Hld.out; unfold SH.load at this; omega) fun v' w' h1 h2 h3 => ⟨hk.trans h2, h1.form, h1, fun b hb => (h3 b hb).imp id fun h => Nat.le_trans hE.size h⟩
    rintro _ ⟨_, ⟨a9, c9, rfl⟩, _, _⟩
    simp only [Act.put, qS0, qS1, qS2]
    repeat (apply FlowT.d; (intro w1 hk; unfold does; go_simp; (try go_ints); (first | exact DetR.mk | (simp only [↓IntWalk.iteOmega, Oper.doesUpon_value]; exact DetR.mk) | (simp only [↓IntWalk.iteOmega]; go_simp; (try go_ints); exact DetR.mk))); simp only [Act.put, qS0, qS1, qS2])
    refine FlowT.last (fun _ w' => ShAt w' G F g c { s with todo := s.todo ++ [⟨(r : Int), kd, l⟩] } ∧ Keep (fun b => ¬ F b) w w') 10 rfl (by kernel_rfl) (by kernel_rfl) (fun w5 hC hk => ?_) (fun _ w6 hR => ?_)
    · obtain ⟨_, hq, hob⟩ := hC
      have q8 := b8 w5 hk
      have f8 := (HS.out.blk.keep hk fun hb => HXq.out _ _ hb (by decide) _ HS.out.blk).free 10
      unfold does
      go_simp
      refine ⟨⟨_, _, _, _, _, _, _, _, HS.out.setTodo hk (l := s.todo ++ [⟨(r : Int), kd, l⟩]) (ts' := ts ++ [⟨⟨(r : Int), kd, l⟩, .slice av l.length cv⟩]) (by rw [List.map_append, HS.out.tn]; rfl) ?_ (fun x hx => ?_) hob⟩, ?_⟩
      · rw [List.length_append, List.flatMap_append]
        simpa using hq
      · have hoff : ∀ b, (Value.slice aw s.todo.length cw).ownBlock = some b → ¬ ∃ c, Blk w2 b c 3 := fun b hb ⟨c', hc⟩ => HXq.out _ _ hb (by decide) c' hc
        rcases List.mem_append.1 hx with hx | hx
        · exact own_off (HS.out.tr x hx) hk hoff
        · rw [List.mem_singleton.1 hx]
          exact own_off Hv.out hk hoff
      · exact (HX2.out.keep _).trans ((hk.mono fun b _ e => HS.out.own b (show ShOwn g m1 m2 f1 f2 (Value.slice aw s.todo.length cw) vo b by unfold ShOwn; simp only [e, true_or, or_true])).set (HS.out.own g (.inl rfl)) _)
    simp only [Act.put]
    obtain ⟨hS9, hK9⟩ := hR
    have HS9 := hid hS9
    have HK9 := hid hK9
    clear hS9 hK9 b8 d0 d1 d2 HXq
    go_wp2
    go_end0
    exact ⟨rfl, by rw [Hte.out]; exact HS9.out, HK9.out⟩
  · have Hte : Hid (s.tell (c.me : Nat) (c.k : Nat) (n : Nat) kd l = { s with out := s.out ++ [⟨(r : Int), kd, l⟩] }) := hid (by
      unfold SH.tell
      rw [Hmc.out, if_neg (by omega)])
    have hb : ((r : Int) == (c.me : Int)) = false := beq_eq_false_iff_ne.2 (by omega)
    clear hm
    obtain ⟨aw, cw, hvt⟩ := HS.out.oq.form
    have hvt' := hvt
    subst hvt
    have hXq : ∀ (b : Nat) (e : TypeId), (Value.slice aw s.out.length cw).ownBlock = some b → 57 ≠ e → ∀ c, ¬ Blk w2 b c e := fun _ _ hb he c' hc => by
      obtain ⟨c'', hc'⟩ := HS.out.oblk hb
      exact off_of hc' he ⟨_, hc⟩
    have hXw : ¬ (Value.slice aw s.out.length cw).ownBlock = some w1.heap.size := fun hb => by
      have := HS0.out.own_lt (show ShOwn g m1 m2 f1 f2 vt (Value.slice aw s.out.length cw) w1.heap.size by unfold ShOwn; simp only [hb, true_or, or_true])
      omega
    have b8 := HS.out.blk.kc (X := fun q => (Value.slice aw s.out.length cw).ownBlock = some q) (fun hb => hXq _ _ hb (by decide) _ HS.out.blk) 11 rfl
    have d0 := HBx.out.kc (X := fun q => (Value.slice aw s.out.length cw).ownBlock = some q) hXw 0 rfl
    have d1 := HBx.out.kc (X := fun q => (Value.slice aw s.out.length cw).ownBlock = some q) hXw 1 rfl
    have d2 := HBx.out.kc (X := fun q => (Value.slice aw s.out.length cw).ownBlock = some q) hXw 2 rfl
    simp only [shCells, qA0, qA1, qA2] at b8 d0 d1 d2
    have HXq := hid hXq
    clear hXq hXw hvt'
    go_wp2
    refine wp_flowT (fun q => (Value.slice aw s.out.length cw).ownBlock = some q) (by kernel_rfl) (by kernel_rfl) ?_
    repeat (apply FlowT.d; (intro w1 hk; unfold does; go_simp; (try go_ints); (first | exact DetR.mk | (simp only [↓IntWalk.iteOmega, Oper.doesUpon_value]; exact DetR.mk) | (simp only [↓IntWalk.iteOmega]; go_simp; (try go_ints); exact DetR.mk))); simp only [Act.put, qS0, qS1, qS2])
    refine FlowT.s (fun v' w' => ∃ q, v' = .slice (some ⟨q, 0, none⟩) 1 1 ∧ Blk w' q #[.int .i64 (r : Int), .int .u8 kd, .slice av l.length cv] 57 ∧ Ext w2 w') 6 rfl (by kernel_rfl) (fun _ _ _ ⟨q, h1, h2, h3⟩ he => ⟨q, h1, h2.ext he, h3.trans he⟩) (fun w4 hC hk => ?_) ?_
    · unfold does
      go_simp
      exact ⟨hk.alloc _, _, rfl, Blk.new _ _ _, hC.alloc _⟩
    rintro _ ⟨_, q3, rfl, _, _⟩
    simp only [Act.put, qS0, qS1, qS2]
    refine FlowT.s (fun v' w' => (∃ a c, v' = .slice a (s.out.length + 1) c) ∧ OwnsQ w' 0 57 3 v' (s.out.length + 1) (os.flatMap N2.cells ++ N2.cells ⟨⟨(r : Int), kd, l⟩, .slice av l.length cv⟩) ∧ ∀ b, v'.ownBlock = some b → (Value.slice aw s.out.length cw).ownBlock = some b ∨ w2.heap.size ≤ b) 7 rfl (by kernel_rfl) (fun _ _ _ ⟨h1, h2, h3⟩ he => ⟨h1, h2.ext he, h3⟩) (fun w4 hC hk => ?_) ?_
    · obtain ⟨q', e, hg, hE⟩ := hC
      obtain rfl : q3 = q' := by simpa using e
      exact does_append_q 0 (Nat.zero_le _) 48 57 (.agg #[.int .i64 0, .int .u8 0, .slice none 0 0]) 3 40 Tryz.underlying48 note_info rfl (by omega) (by omega) rfl _ _ rfl _ _ _ rfl (HS.out.oq.ext hE) q3 (N2.cells ⟨⟨(r : Int), kd, l⟩, .slice av l.length cv⟩) rfl (by simp [N2.cells, Value.oneCell']) rfl hg (by have := Hld.out; unfold SH.load at this; omega) fun v' w' h1 h2 h3 => ⟨hk.trans h2, h1.form, h1, fun b hb => (h3 b hb).imp id fun h => Nat.le_trans hE.size h⟩
    rintro _ ⟨_, ⟨a9, c9, rfl⟩, _, _⟩
    simp only [Act.put, qS0, qS1, qS2]
    repeat (apply FlowT.d; (intro w1 hk; unfold does; go_simp; (try go_ints); (first | exact DetR.mk | (simp only [↓IntWalk.iteOmega, Oper.doesUpon_value]; exact DetR.mk) | (simp only [↓IntWalk.iteOmega]; go_simp; (try go_ints); exact DetR.mk))); simp only [Act.put, qS0, qS1, qS2])
    refine FlowT.last (fun _ w' => ShAt w' G F g c { s with out := s.out ++ [⟨(r : Int), kd, l⟩] } ∧ Keep (fun b => ¬ F b) w w') 10 rfl (by kernel_rfl) (by kernel_rfl) (fun w5 hC hk => ?_) (fun _ w6 hR => ?_)
    · obtain ⟨_, hq, hob⟩ := hC
      have q8 := b8 w5 hk
      have f8 := (HS.out.blk.keep hk fun hb => HXq.out _ _ hb (by decide) _ HS.out.blk).free 11
      unfold does
      go_simp
      refine ⟨⟨_, _, _, _, _, _, _, _, HS.out.setOut hk (l := s.out ++ [⟨(r : Int), kd, l⟩]) (os' := os ++ [⟨⟨(r : Int), kd, l⟩, .slice av l.length cv⟩]) (by rw [List.map_append, HS.out.on]; rfl) ?_ (fun x hx => ?_) hob⟩, ?_⟩
      · rw [List.length_append, List.flatMap_append]
        simpa using hq
      · have hoff : ∀ b, (Value.slice aw s.out.length cw).ownBlock = some b → ¬ ∃ c, Blk w2 b c 3 := fun b hb ⟨c', hc⟩ => HXq.out _ _ hb (by decide) c' hc
        rcases List.mem_append.1 hx with hx | hx
        · exact own_off (HS.out.or x hx) hk hoff
        · rw [List.mem_singleton.1 hx]
          exact own_off Hv.out hk hoff
      · exact (HX2.out.keep _).trans ((hk.mono fun b _ e => HS.out.own b (show ShOwn g m1 m2 f1 f2 vt (Value.slice aw s.out.length cw) b by unfold ShOwn; simp only [e, true_or, or_true])).set (HS.out.own g (.inl rfl)) _)
    simp only [Act.put]
    obtain ⟨hS9, hK9⟩ := hR
    have HS9 := hid hS9
    have HK9 := hid hK9
    clear hS9 hK9 b8 d0 d1 d2 HXq
    go_wp2
    go_end0
    exact ⟨rfl, by rw [Hte.out]; exact HS9.out, HK9.out⟩
theorem irow_two (w : World) (a b : Int) : IRow 0 (w.alloc (.cells #[.int .i64 a, .int .i64 b] 3)) (.slice (some ⟨w.heap.size, 0, none⟩) 2 2) [a, b] :=
  ⟨rfl, .inr ⟨w.heap.size, 2, #[.int .i64 a, .int .i64 b], rfl, Nat.zero_le _, Blk.new _ _ _, Nat.le_refl _, by unfold maxLen; omega, by simp, rfl⟩⟩
set_option maxRecDepth 100000 in
set_option maxHeartbeats 1600000 in
theorem shardedge_any (c : SC) (s : SH) (a b : Nat) (w : World) (G F : Nat → Prop) (g : Nat) (hS : ShAt w G F g c s) (ha : a < 1000000) (hb : b < 1000000) (hld : s.load ≤ 900000000) :
    Calls Tryz.prog 79 #[.pointer (some ⟨g, 0, none⟩), .agg #[.int .i64 (a : Int), .int .i64 (b : Int)]] w fun x w' => x = .returned (.tuple #[]) ∧ ShAt w' G F g c (s.edge (c.me : Nat) (c.k : Nat) ((a : Int), (b : Int))) ∧ Keep (fun b => ¬ F b) w w' := by
  obtain ⟨W, hW⟩ : ∃ W, W = w.alloc (.cells #[.int .i64 (a : Int), .int .i64 (b : Int)] 128) := ⟨_, rfl⟩
  have hxW : Ext w W := by rw [hW]; exact (Ext.refl _).alloc _
  by_cases hab : a = b
  · subst hab
    have Hr : Hid (s.edge (c.me : Nat) (c.k : Nat) ((a : Int), (a : Int)) = s) := hid (by unfold SH.edge; rw [if_pos rfl])
    have HS := hid (hS.ext hxW)
    have HX := hid hxW
    have HWe := hid hW
    clear hS hxW hW
    go_enter Tryz.func79, Tryz.ntmps79
    go_wp2
    rw [← HWe.out]
    go_end0
    exact ⟨rfl, by rw [Hr.out]; exact HS.out, HX.out.keep _⟩
  · have Hr : Hid (s.edge (c.me : Nat) (c.k : Nat) ((a : Int), (b : Int)) = s.tell (c.me : Nat) (c.k : Nat) (a : Nat) 101 [(a : Int), (b : Int)]) := hid (by unfold SH.edge; rw [if_neg (by simp only; omega)])
    obtain ⟨W2, hW2⟩ : ∃ W2, W2 = W.alloc (.cells #[.int .i64 (a : Int), .int .i64 (b : Int)] 3) := ⟨_, rfl⟩
    have hx2 : Ext W W2 := by rw [hW2]; exact (Ext.refl _).alloc _
    have hrow : IRow 0 W2 (.slice (some ⟨W.heap.size, 0, none⟩) 2 2) [(a : Int), (b : Int)] := by
      rw [hW2]
      exact irow_two W a b
    have HT := hid (shardtell_any c s a 101 [(a : Int), (b : Int)] _ W2 G F g (hS.ext (hxW.trans hx2)) hrow ha hld)
    have HX := hid (hxW.trans hx2)
    have hsz : W.heap.size = w.heap.size + 1 := by rw [hW, heap_size_alloc]
    rw [hsz] at HT
    have HWe : Hid (W2 = (w.alloc (.cells #[.int .i64 (a : Int), .int .i64 (b : Int)] 128)).alloc (.cells #[.int .i64 (a : Int), .int .i64 (b : Int)] 3)) := hid (by rw [hW2, hW])
    have hab2 : ((a : Int) == (b : Int)) = false := beq_eq_false_iff_ne.2 (by omega)
    have hab3 : ((a : Int) != (b : Int)) = true := by simp only [bne, hab2]; rfl
    clear hS hxW hW hW2 hx2 hrow hsz
    go_enter Tryz.func79, Tryz.ntmps79
    go_wp2_with fail
    rw [← HWe.out]
    refine HT.out.mono ?_
    intro x w3 hx
    obtain ⟨rfl, hS3, hK3⟩ := hx
    have HS3 := hid hS3
    have HK3 := hid hK3
    clear HT hS3 hK3
    go_wp2
    go_end0
    exact ⟨rfl, by rw [Hr.out]; exact HS3.out, (HX.out.keep _).trans HK3.out⟩
theorem shmmEql_some (b : Nat) (w : World) : (binOp .eql 163 (.map (some b)) (.map none)).run Tryz.prog w = .ok (.bool false) w := by kernel_rfl
theorem shmmEql_none (w : World) : (binOp .eql 163 (.map none) (.map none)).run Tryz.prog w = .ok (.bool true) w := by kernel_rfl
theorem MM.at {w : World} {m : Nat} {M : List (Int × Int)} {f : Int → Option Value} (h : MM w m M f) {n : Int} {q : Nat} (hf : f n = some (.map (some q))) : KMap Tryz.prog 3 (Value.int .i64) w q (setF M n) ∧ Stm w q := by
  rcases h.val n with ⟨g, _⟩ | ⟨p, g1, g2, g3⟩
  · rw [g] at hf; cases hf
  · rw [g1] at hf
    simp only [Option.some.injEq, Value.map.injEq] at hf
    exact ⟨hf ▸ g2, hf ▸ g3⟩
theorem sends_load {me k b : Int} : ∀ (l : List Int) {s : SH}, (l.foldl (SH.send me k b) s).load = s.load + l.length
  | [], _ => rfl
  | o :: l, s => by
    rw [List.foldl_cons, sends_load l, List.length_cons]
    unfold SH.send
    rw [tell_load]; omega
theorem sendsTo_load {me k o : Int} : ∀ (l : List Int) {s : SH}, (l.foldl (SH.sendTo me k o) s).load = s.load + l.length
  | [], _ => rfl
  | b :: l, s => by
    rw [List.foldl_cons, sendsTo_load l, List.length_cons]
    unfold SH.sendTo
    rw [tell_load]; omega
theorem room_run {w : World} {m : Nat} {M : List (Int × Int)} {f : Int → Option Value} (h : MM w m M f) {n : Int} (hf : f n = none) (hn : 0 ≤ n ∧ n < 1000000) :
    ∃ w2, (Instr.mapUpdate 119 (.map (some m)) (.int .i64 n) (.map (some w.heap.size))).run Tryz.prog (w.alloc (.map #[] 0)) = .ok () w2 ∧ MM w2 m M (fun l => if l = n then some (.map (some w.heap.size)) else f l) ∧ (∀ l, InM (fun l => if l = n then some (.map (some w.heap.size)) else f l) l → InM f l ∨ w.heap.size ≤ l) ∧ Keep (fun l => l = m ∨ InM f l) w w2 := by
  obtain ⟨l, hl⟩ := key_int hn
  have hx : Ext w (w.alloc (.map #[] 0)) := (Ext.refl _).alloc _
  obtain ⟨w2, hrun, h2, k2⟩ := run_kmap_put int_keyed64 intV_inj Tryz.underlying119 (h.map.ext hx) hl (.map (some w.heap.size))
  obtain ⟨r1, r2, r3⟩ := h.room hf rfl hx (KMap.new _ _ _ _) (Stm.new w) h2 k2
  exact ⟨w2, hrun, r1, r2, r3⟩
set_option maxRecDepth 100000 in
set_option maxHeartbeats 6400000 in
theorem shardjoined_any (c : SC) (s : SH) (a b : Nat) (w : World) (G F : Nat → Prop) (g : Nat) (hS : ShAt w G F g c s) (hok : s.Ok c.P (c.me : Nat) (c.k : Nat)) (ha : a < c.P.nodesV) (hb : b < c.P.nodesV) (hld : s.load ≤ 800000000) :
    Calls Tryz.prog 123 #[.pointer (some ⟨g, 0, none⟩), .int .i64 (a : Int), .int .i64 (b : Int)] w fun x w' => x = .returned (.tuple #[]) ∧ ShAt w' G F g c (s.joined (c.me : Nat) (c.k : Nat) ((a : Int), (b : Int))) ∧ Keep (fun b => ¬ F b) w w' := by
  have hS0 := hS
  obtain ⟨m1, m2, f1, f2, vt, vo, ts, os, h⟩ := hS
  have hnn := h.con.well.nodes
  have ha' : a < 126 := by omega
  have hb' : b < 126 := by omega
  have Hh126 := hid (hok.has126 h.con.well)
  obtain ⟨v, hv, l1, l2⟩ := h.mm2.look2 (b := (a : Int)) (a := (b : Int)) (by omega) (by omega)
  have HS := hid h
  have HSa := hid hS0
  have Hld := hid hld
  have b9a := h.blk.av 9 rfl
  simp only [shCells, qA0, qA1, qA2] at b9a
  clear hS0 hok hld hnn
  by_cases hm : ((a : Int), (b : Int)) ∈ s.nxt
  · have Hr : Hid (s.joined (c.me : Nat) (c.k : Nat) ((a : Int), (b : Int)) = s) := hid (by unfold SH.joined; rw [if_pos hm])
    rw [decide_eq_true hm] at l2
    clear hm h hv ha hb
    go_enter Tryz.func123, Tryz.ntmps123
    go_wp2
    refine bodyPost_ret (v := .tuple #[]) (results_none (by kernel_rfl) _ _ _) rfl ?_
    exact ⟨rfl, by rw [Hr.out]; exact HSa.out, Keep.refl _ _⟩
  · rw [decide_eq_false hm] at l2
    have Hmem := hid hm
    clear hm ha hb HSa
    rcases h.mm2.val (a : Int) with ⟨g1, -⟩ | ⟨q, g1, -, -⟩
    · rw [g1] at hv
      simp only [Option.getD_none, Value.map.injEq] at hv
      subst hv
      obtain ⟨w2, hup, hM2, hI2, hK2⟩ := room_run h.mm2 g1 (by omega)
      have HS2 := hid (h.setNxt hK2 hM2 hI2)
      have HK2 : Hid (Keep (fun b => ¬ F b) w w2) := hid (hK2.mono fun q _ hq => hq.elim (fun e => h.own q (.inr (.inr (.inl e)))) fun hi => h.own q (.inr (.inr (.inr (.inr (.inl hi))))))
      have hmm := @run_makeMap Tryz.prog
      have heq := shmmEql_none
      have Hf2 : Hid ((fun l => if l = (a : Int) then some (.map (some w.heap.size)) else f2 l) (a : Int) = some (Value.map (some w.heap.size))) := hid (by simp)
      generalize (fun l => if l = (a : Int) then some (.map (some w.heap.size)) else f2 l) = f2' at HS2 Hf2
      clear h g1 hM2 hI2 hK2
      go_enter Tryz.func123, Tryz.ntmps123
      have hfx := Hf2.out
      obtain ⟨Kq, Sq⟩ := HS2.out.mm2.at hfx
      have l3 := HS2.out.mm2.look1 (b := (a : Int)) (by omega)
      rw [hfx] at l3
      simp only [Option.getD_some] at l3
      obtain ⟨w3, hput, hk3, hs3, hkp3⟩ := run_kmap_put_stm Tryz.underlying163 Kq Sq (k := (b : Int)) (by omega) (.bool true)
      obtain ⟨hM3, hkp⟩ := HS2.out.mm2.put hfx hk3 hs3 hkp3
      have HS3 := hid (HS2.out.setNxt hkp hM3 fun q hq => .inl hq)
      have HK3 : Hid (Keep (fun b => ¬ F b) w w3) := hid (HK2.out.trans (hkp.mono fun q _ hq => hq.elim (fun e => HS2.out.own q (.inr (.inr (.inl e)))) fun hi => HS2.out.own q (.inr (.inr (.inr (.inr (.inl hi)))))))
      have l4 := HS3.out.mm1.look1 (b := (a : Int)) (by omega)
      have HKy := hid (shardkeys_any (a : Int) w3 HS3.out.mm1 Hh126.out)
      obtain ⟨vk, hvk⟩ : ∃ vk, vk = (f1 (a : Int)).getD (.map none) := ⟨_, rfl⟩
      rw [← hvk] at l4 HKy
      have b9 := HS2.out.blk.av 9 rfl
      have b8 := HS3.out.blk.av 8 rfl
      simp only [shCells, qA0, qA1, qA2] at b9 b8
      clear hfx Kq Sq hk3 hs3 hkp3 hM3 hkp hvk
      go_wp2_with fail
      refine HKy.out.mono ?_
      intro e w4 hx
      obtain ⟨v4, rfl, hr4, hx4⟩ := hx
      have Hfl : Hid ((keysL s.has (a : Int)).foldl (SH.send (c.me : Nat) (c.k : Nat) (b : Int)) { s with nxt := s.nxt ++ [((a : Int), (b : Int))] } = s.joined (c.me : Nat) (c.k : Nat) ((a : Int), (b : Int))) := hid (by unfold SH.joined; rw [if_neg Hmem.out])
      have Hin : Hid (∀ o ∈ keysL s.has (a : Int), 0 ≤ o ∧ o < 126) := hid fun o ho => (keysL_in ho).2
      have hlen := keysL_few s.has (a : Int)
      generalize keysL s.has (a : Int) = L at hr4 Hfl Hin hlen
      obtain ⟨av, cv, rfl⟩ := row_form hr4
      have HS4 : Hid (ShAt w4 G (fun b => F b ∨ (w3.heap.size ≤ b ∧ b < w4.heap.size)) g c { s with nxt := s.nxt ++ [((a : Int), (b : Int))] }) := hid (ShAt.frz ⟨_, _, _, _, _, _, _, _, HS3.out⟩ hx4)
      have Hrf : Hid (∀ q, (Value.slice av L.length cv).ownBlock = some q → F q ∨ (w3.heap.size ≤ q ∧ q < w4.heap.size)) := hid fun q hq => .inr (hr4.lt hq)
      have HR4 := hid hr4
      have HK4 := hid (HK3.out.ext_r hx4)
      have HGF := hid HS3.out.gf
      obtain ⟨s1, hs1⟩ : ∃ s1 : SH, s1 = { s with nxt := s.nxt ++ [((a : Int), (b : Int))] } := ⟨_, rfl⟩
      have Hld1 : Hid (s1.load ≤ 800000000) := hid (by rw [hs1]; exact Hld.out)
      rw [← hs1] at HS4 Hfl
      generalize hF' : (fun b => F b ∨ (w3.heap.size ≤ b ∧ b < w4.heap.size)) = F' at HS4
      have HF1 : Hid (∀ b, F b → F' b) := hid fun b hb => by rw [← hF']; exact .inl hb
      have HrF : Hid (∀ b, (Value.slice av L.length cv).ownBlock = some b → F' b) := hid fun b hb => by rw [← hF']; exact Hrf.out b hb
      clear HKy hr4 hx4 l3 l4 hput b9 b8 HS3 HK3 Hrf hF' hs1
      go_wp2
      go_loopw [44] (fun t44 wr => ∃ j : Nat, t44 = .int .i64 (j : Int) ∧ j ≤ L.length ∧ ShAt wr G F' g c ((L.take j).foldl (SH.send (c.me : Nat) (c.k : Nat) (b : Int)) s1) ∧ IRow w3.heap.size wr (.slice av L.length cv) L ∧ Keep (fun b => ¬ F b) w wr) (fun t44 _ => L.length - (intOf t44).toNat)
      case atStart => exact ⟨0, rfl, Nat.zero_le _, HS4.out, HR4.out, HK4.out⟩
      case round =>
        obtain ⟨j, rfl, hj, hS5, hR5, hK5⟩ := hrel
        have HR5 := hid hR5
        have HK5 := hid hK5
        by_cases hlt : j < L.length
        · obtain ⟨x, hqx⟩ : ∃ x, L[j]? = some x := ⟨_, List.getElem?_eq_getElem hlt⟩
          obtain ⟨g8, cp8, hge⟩ := own_some hR5 (by omega)
          simp only [Value.slice.injEq] at hge
          obtain ⟨rfl, -, rfl⟩ := hge
          have q0 := own_i hR5 hqx
          obtain ⟨hx0, hx1⟩ := Hin.out x (List.mem_of_getElem? hqx)
          obtain ⟨o, rfl⟩ := Int.eq_ofNat_of_zero_le hx0
          have Hn : Hid ((L.take (j + 1)).foldl (SH.send (c.me : Nat) (c.k : Nat) (b : Int)) s1 = SH.tell (c.me : Nat) (c.k : Nat) ((L.take j).foldl (SH.send (c.me : Nat) (c.k : Nat) (b : Int)) s1) (b : Nat) 100 [(b : Int), (o : Int)]) := hid (by rw [List.take_add_one, hqx, List.foldl_append]; rfl)
          have hl5 : ((L.take j).foldl (SH.send (c.me : Nat) (c.k : Nat) (b : Int)) s1).load ≤ 900000000 := by
            rw [sends_load, List.length_take]
            have := Hld1.out
            omega
          obtain ⟨wA, hwA⟩ : ∃ wA, wA = wr.alloc (.cells #[.int .i64 (b : Int), .int .i64 (o : Int)] 3) := ⟨_, rfl⟩
          have hxA : Ext wr wA := by rw [hwA]; exact (Ext.refl _).alloc _
          have HxA := hid hxA
          have hrow : IRow 0 wA (.slice (some ⟨wr.heap.size, 0, none⟩) 2 2) [(b : Int), (o : Int)] := by
            rw [hwA]
            exact irow_two wr b o
          have HT := hid (shardtell_any c ((L.take j).foldl (SH.send (c.me : Nat) (c.k : Nat) (b : Int)) s1) b 100 [(b : Int), (o : Int)] _ wA G F' g (hS5.ext hxA) hrow (by omega) hl5)
          have HwA := hid hwA
          clear hS5 hR5 hK5 hqx hx0 hx1 hxA hwA hl5 hrow
          go_wp2_with fail
          rw [← HwA.out]
          refine HT.out.mono ?_
          intro z w6 hx
          obtain ⟨rfl, hS6, hK6⟩ := hx
          have HS6 := hid hS6
          have HK6 := hid hK6
          clear hS6 hK6 HT q0
          go_wp2
          go_roundw
          case rel =>
            refine ⟨j + 1, by go_num, by omega, ?_, ?_, ?_⟩
            · rw [Hn.out]; exact HS6.out
            · exact row_keep (own_ext HR5.out HxA.out) HK6.out fun b hb hx => hx (HrF.out b hb)
            · exact (HK5.out.ext_r HxA.out).trans (HK6.out.mono fun b _ hx hF => hx (HF1.out b hF))
          case measure => simp [intOf]; omega
        · obtain rfl : j = L.length := by omega
          rw [List.take_length, Hfl.out] at hS5
          have HSz := hid (hS5.less HGF.out HF1.out)
          clear hS5 hR5 hK5
          go_wp2
          go_end0
          exact ⟨rfl, HSz.out, HK5.out⟩
    · rw [g1] at hv
      simp only [Option.getD_some, Value.map.injEq] at hv
      subst hv
      have heq := shmmEql_some
      have Hf2 := hid g1
      clear h g1
      go_enter Tryz.func123, Tryz.ntmps123
      have hfx := Hf2.out
      obtain ⟨Kq, Sq⟩ := HS.out.mm2.at hfx
      have l3 := HS.out.mm2.look1 (b := (a : Int)) (by omega)
      rw [hfx] at l3
      simp only [Option.getD_some] at l3
      obtain ⟨w3, hput, hk3, hs3, hkp3⟩ := run_kmap_put_stm Tryz.underlying163 Kq Sq (k := (b : Int)) (by omega) (.bool true)
      obtain ⟨hM3, hkp⟩ := HS.out.mm2.put hfx hk3 hs3 hkp3
      have HS3 := hid (HS.out.setNxt hkp hM3 fun q hq => .inl hq)
      have HK3 : Hid (Keep (fun b => ¬ F b) w w3) := hid ((Keep.refl (fun b => ¬ F b) w).trans (hkp.mono fun q _ hq => hq.elim (fun e => HS.out.own q (.inr (.inr (.inl e)))) fun hi => HS.out.own q (.inr (.inr (.inr (.inr (.inl hi)))))))
      have l4 := HS3.out.mm1.look1 (b := (a : Int)) (by omega)
      have HKy := hid (shardkeys_any (a : Int) w3 HS3.out.mm1 Hh126.out)
      obtain ⟨vk, hvk⟩ : ∃ vk, vk = (f1 (a : Int)).getD (.map none) := ⟨_, rfl⟩
      rw [← hvk] at l4 HKy
      have b9 := HS.out.blk.av 9 rfl
      have b8 := HS3.out.blk.av 8 rfl
      simp only [shCells, qA0, qA1, qA2] at b9 b8
      clear hfx Kq Sq hk3 hs3 hkp3 hM3 hkp hvk
      go_wp2_with fail
      refine HKy.out.mono ?_
      intro e w4 hx
      obtain ⟨v4, rfl, hr4, hx4⟩ := hx
      have Hfl : Hid ((keysL s.has (a : Int)).foldl (SH.send (c.me : Nat) (c.k : Nat) (b : Int)) { s with nxt := s.nxt ++ [((a : Int), (b : Int))] } = s.joined (c.me : Nat) (c.k : Nat) ((a : Int), (b : Int))) := hid (by unfold SH.joined; rw [if_neg Hmem.out])
      have Hin : Hid (∀ o ∈ keysL s.has (a : Int), 0 ≤ o ∧ o < 126) := hid fun o ho => (keysL_in ho).2
      have hlen := keysL_few s.has (a : Int)
      generalize keysL s.has (a : Int) = L at hr4 Hfl Hin hlen
      obtain ⟨av, cv, rfl⟩ := row_form hr4
      have HS4 : Hid (ShAt w4 G (fun b => F b ∨ (w3.heap.size ≤ b ∧ b < w4.heap.size)) g c { s with nxt := s.nxt ++ [((a : Int), (b : Int))] }) := hid (ShAt.frz ⟨_, _, _, _, _, _, _, _, HS3.out⟩ hx4)
      have Hrf : Hid (∀ q, (Value.slice av L.length cv).ownBlock = some q → F q ∨ (w3.heap.size ≤ q ∧ q < w4.heap.size)) := hid fun q hq => .inr (hr4.lt hq)
      have HR4 := hid hr4
      have HK4 := hid (HK3.out.ext_r hx4)
      have HGF := hid HS3.out.gf
      obtain ⟨s1, hs1⟩ : ∃ s1 : SH, s1 = { s with nxt := s.nxt ++ [((a : Int), (b : Int))] } := ⟨_, rfl⟩
      have Hld1 : Hid (s1.load ≤ 800000000) := hid (by rw [hs1]; exact Hld.out)
      rw [← hs1] at HS4 Hfl
      generalize hF' : (fun b => F b ∨ (w3.heap.size ≤ b ∧ b < w4.heap.size)) = F' at HS4
      have HF1 : Hid (∀ b, F b → F' b) := hid fun b hb => by rw [← hF']; exact .inl hb
      have HrF : Hid (∀ b, (Value.slice av L.length cv).ownBlock = some b → F' b) := hid fun b hb => by rw [← hF']; exact Hrf.out b hb
      clear HKy hr4 hx4 l3 l4 hput b9 b8 HS3 HK3 Hrf hF' hs1
      go_wp2
      go_loopw [44] (fun t44 wr => ∃ j : Nat, t44 = .int .i64 (j : Int) ∧ j ≤ L.length ∧ ShAt wr G F' g c ((L.take j).foldl (SH.send (c.me : Nat) (c.k : Nat) (b : Int)) s1) ∧ IRow w3.heap.size wr (.slice av L.length cv) L ∧ Keep (fun b => ¬ F b) w wr) (fun t44 _ => L.length - (intOf t44).toNat)
      case atStart => exact ⟨0, rfl, Nat.zero_le _, HS4.out, HR4.out, HK4.out⟩
      case round =>
        obtain ⟨j, rfl, hj, hS5, hR5, hK5⟩ := hrel
        have HR5 := hid hR5
        have HK5 := hid hK5
        by_cases hlt : j < L.length
        · obtain ⟨x, hqx⟩ : ∃ x, L[j]? = some x := ⟨_, List.getElem?_eq_getElem hlt⟩
          obtain ⟨g8, cp8, hge⟩ := own_some hR5 (by omega)
          simp only [Value.slice.injEq] at hge
          obtain ⟨rfl, -, rfl⟩ := hge
          have q0 := own_i hR5 hqx
          obtain ⟨hx0, hx1⟩ := Hin.out x (List.mem_of_getElem? hqx)
          obtain ⟨o, rfl⟩ := Int.eq_ofNat_of_zero_le hx0
          have Hn : Hid ((L.take (j + 1)).foldl (SH.send (c.me : Nat) (c.k : Nat) (b : Int)) s1 = SH.tell (c.me : Nat) (c.k : Nat) ((L.take j).foldl (SH.send (c.me : Nat) (c.k : Nat) (b : Int)) s1) (b : Nat) 100 [(b : Int), (o : Int)]) := hid (by rw [List.take_add_one, hqx, List.foldl_append]; rfl)
          have hl5 : ((L.take j).foldl (SH.send (c.me : Nat) (c.k : Nat) (b : Int)) s1).load ≤ 900000000 := by
            rw [sends_load, List.length_take]
            have := Hld1.out
            omega
          obtain ⟨wA, hwA⟩ : ∃ wA, wA = wr.alloc (.cells #[.int .i64 (b : Int), .int .i64 (o : Int)] 3) := ⟨_, rfl⟩
          have hxA : Ext wr wA := by rw [hwA]; exact (Ext.refl _).alloc _
          have HxA := hid hxA
          have hrow : IRow 0 wA (.slice (some ⟨wr.heap.size, 0, none⟩) 2 2) [(b : Int), (o : Int)] := by
            rw [hwA]
            exact irow_two wr b o
          have HT := hid (shardtell_any c ((L.take j).foldl (SH.send (c.me : Nat) (c.k : Nat) (b : Int)) s1) b 100 [(b : Int), (o : Int)] _ wA G F' g (hS5.ext hxA) hrow (by omega) hl5)
          have HwA := hid hwA
          clear hS5 hR5 hK5 hqx hx0 hx1 hxA hwA hl5 hrow
          go_wp2_with fail
          rw [← HwA.out]
          refine HT.out.mono ?_
          intro z w6 hx
          obtain ⟨rfl, hS6, hK6⟩ := hx
          have HS6 := hid hS6
          have HK6 := hid hK6
          clear hS6 hK6 HT q0
          go_wp2
          go_roundw
          case rel =>
            refine ⟨j + 1, by go_num, by omega, ?_, ?_, ?_⟩
            · rw [Hn.out]; exact HS6.out
            · exact row_keep (own_ext HR5.out HxA.out) HK6.out fun b hb hx => hx (HrF.out b hb)
            · exact (HK5.out.ext_r HxA.out).trans (HK6.out.mono fun b _ hx hF => hx (HF1.out b hF))
          case measure => simp [intOf]; omega
        · obtain rfl : j = L.length := by omega
          rw [List.take_length, Hfl.out] at hS5
          have HSz := hid (hS5.less HGF.out HF1.out)
          clear hS5 hR5 hK5
          go_wp2
          go_end0
          exact ⟨rfl, HSz.out, HK5.out⟩
theorem FunsF.toR {w : World} {F : Nat → Prop} {n0 : Nat} {v : Value} {l : List PF} (h : FunsF w F v l) (hF : ∀ b, F b → b < n0) : FunsR w n0 v l :=
  ElF.toR h hF fun i y _ _ hE s hs => (let ⟨pv, h1, h2, h3, h4⟩ := hE s hs; ⟨pv, h1, h2, h3, h4.toR hF⟩)
set_option maxRecDepth 100000 in
set_option maxHeartbeats 3200000 in
theorem shardfire_a (c : SC) (s : SH) (r : RV) (aa : Option Addr) (ca : Nat) (o : Nat) (w : World) (G F : Nat → Prop) (g : Nat) (hS : ShAt w G F g c s) (ho : o < c.P.objectsV) (ha : IntsF w F (.slice aa r.args.length ca) r.args) (hE : r.fired = true → ∀ e ∈ c.P.fires r (o : Int), EdIn c.P e) (hld : s.load ≤ 800000000) (hkc : (r.kind.toList == [99, 97, 108, 108]) = true) (hin : (o : Int) < (c.P.nodesV : Int)) :
    Calls Tryz.prog 162 #[.pointer (some ⟨g, 0, none⟩), r.val (.slice aa r.args.length ca), .int .i64 (o : Int)] w fun x w' => x = .returned (.tuple #[]) ∧ ShAt w' G F g c (s.fire c.P (c.me : Nat) (c.k : Nat) r (o : Int)) ∧ Keep (fun b => ¬ F b) w w' := by
  have hS0 := hS
  obtain ⟨m1, m2, f1, f2, vt, vo, ts, os, h⟩ := hS
  have hw := h.con.well
  obtain ⟨hn1, hn2⟩ := hw.nodes
  obtain ⟨W, hW⟩ : ∃ W, W = w.alloc (.cells #[.string r.kind, .int .i64 r.a, .int .i64 r.b, .int .i64 r.k, .slice aa r.args.length ca] 123) := ⟨_, rfl⟩
  have HX : Hid (Ext w W) := hid (by rw [hW]; exact (Ext.refl _).alloc _)
  have HBx : Hid (Blk W w.heap.size #[.string r.kind, .int .i64 r.a, .int .i64 r.b, .int .i64 r.k, .slice aa r.args.length ca] 123) := hid (by rw [hW]; exact Blk.new _ _ _)
  have HWe : Hid (W = w.alloc (.cells #[.string r.kind, .int .i64 r.a, .int .i64 r.b, .int .i64 r.k, .slice aa r.args.length ca] 123)) := hid hW
  have HSa := hid (hS0.ext HX.out)
  have HS := hid (h.ext HX.out)
  have HA := hid (ha.keep (HX.out.keep fun _ => False) (fun _ _ h => h) fun _ h => h)
  have al := ha.form
  have hal : (r.args.length : Int) ≤ 9223372036854775807 := by obtain ⟨a, cap, h1, h2, h3, _⟩ := al; omega
  have Hw := hid hw
  have HE := hid hE
  have Hld := hid hld
  have hob : o < 126 := by omega
  have Ho := hid ho
  have m0 := HBx.out.av 0 rfl
  have m1' := HBx.out.av 1 rfl
  have m2' := HBx.out.av 2 rfl
  have b6 := HS.out.blk.av 6 rfl
  simp only [shCells, qA0, qA1, qA2] at m0 m1' m2' b6
  unfold RV.val
  clear hS0 h hW ha al hw hE hld ho
  have hkl : (r.kind.toList == [108, 111, 97, 100]) = false := by rw [eq_of_beq hkc]; rfl
  have hks : (r.kind.toList == [115, 116, 111, 114, 101]) = false := by rw [eq_of_beq hkc]; rfl
  have Hr : Hid (s.fire c.P (c.me : Nat) (c.k : Nat) r (o : Int) = s) := hid (by
    unfold SH.fire PP.fires kCall
    rw [hkc, cond_true]
    unfold PP.callsOf PP.funV
    rw [if_neg (show ¬ (0 ≤ (o : Int) - c.P.nodesV ∧ (o : Int) - c.P.nodesV < c.P.funs.length) by omega), if_neg (by decide)]
    cases r.fired <;> rfl)
  rw [Hr.out]
  generalize c.P.nodesV = NN at *
  go_enter Tryz.func162, Tryz.ntmps162
  rw [HWe.out] at m0 m1' m2' b6
  go_wp2
  rw [← HWe.out]
  go_end0
  exact ⟨rfl, HSa.out, HX.out.keep _⟩
set_option maxRecDepth 100000 in
set_option maxHeartbeats 3200000 in
theorem shardfire_d (c : SC) (s : SH) (r : RV) (aa : Option Addr) (ca : Nat) (o : Nat) (w : World) (G F : Nat → Prop) (g : Nat) (hS : ShAt w G F g c s) (ho : o < c.P.objectsV) (ha : IntsF w F (.slice aa r.args.length ca) r.args) (hE : r.fired = true → ∀ e ∈ c.P.fires r (o : Int), EdIn c.P e) (hld : s.load ≤ 800000000) (hkc : (r.kind.toList == [99, 97, 108, 108]) = false) (hkl : (r.kind.toList == [108, 111, 97, 100]) = true) (hin : (c.P.nodesV : Int) ≤ (o : Int)) :
    Calls Tryz.prog 162 #[.pointer (some ⟨g, 0, none⟩), r.val (.slice aa r.args.length ca), .int .i64 (o : Int)] w fun x w' => x = .returned (.tuple #[]) ∧ ShAt w' G F g c (s.fire c.P (c.me : Nat) (c.k : Nat) r (o : Int)) ∧ Keep (fun b => ¬ F b) w w' := by
  have hS0 := hS
  obtain ⟨m1, m2, f1, f2, vt, vo, ts, os, h⟩ := hS
  have hw := h.con.well
  obtain ⟨hn1, hn2⟩ := hw.nodes
  obtain ⟨W, hW⟩ : ∃ W, W = w.alloc (.cells #[.string r.kind, .int .i64 r.a, .int .i64 r.b, .int .i64 r.k, .slice aa r.args.length ca] 123) := ⟨_, rfl⟩
  have HX : Hid (Ext w W) := hid (by rw [hW]; exact (Ext.refl _).alloc _)
  have HBx : Hid (Blk W w.heap.size #[.string r.kind, .int .i64 r.a, .int .i64 r.b, .int .i64 r.k, .slice aa r.args.length ca] 123) := hid (by rw [hW]; exact Blk.new _ _ _)
  have HWe : Hid (W = w.alloc (.cells #[.string r.kind, .int .i64 r.a, .int .i64 r.b, .int .i64 r.k, .slice aa r.args.length ca] 123)) := hid hW
  have HSa := hid (hS0.ext HX.out)
  have HS := hid (h.ext HX.out)
  have HA := hid (ha.keep (HX.out.keep fun _ => False) (fun _ _ h => h) fun _ h => h)
  have al := ha.form
  have hal : (r.args.length : Int) ≤ 9223372036854775807 := by obtain ⟨a, cap, h1, h2, h3, _⟩ := al; omega
  have Hw := hid hw
  have HE := hid hE
  have Hld := hid hld
  have hob : o < 126 := by omega
  have Ho := hid ho
  have m0 := HBx.out.av 0 rfl
  have m1' := HBx.out.av 1 rfl
  have m2' := HBx.out.av 2 rfl
  have b6 := HS.out.blk.av 6 rfl
  simp only [shCells, qA0, qA1, qA2] at m0 m1' m2' b6
  unfold RV.val
  clear hS0 h hW ha al hw hE hld ho
  have hks : (r.kind.toList == [115, 116, 111, 114, 101]) = false := by rw [eq_of_beq hkl]; rfl
  have Hr : Hid (s.fire c.P (c.me : Nat) (c.k : Nat) r (o : Int) = s) := hid (by
    unfold SH.fire PP.fires kCall
    rw [hkc, cond_false, if_pos hin]
    cases r.fired <;> rfl)
  rw [Hr.out]
  generalize c.P.nodesV = NN at *
  go_enter Tryz.func162, Tryz.ntmps162
  rw [HWe.out] at m0 m1' m2' b6
  go_wp2
  rw [← HWe.out]
  go_end0
  exact ⟨rfl, HSa.out, HX.out.keep _⟩
set_option maxRecDepth 100000 in
set_option maxHeartbeats 3200000 in
theorem shardfire_f (c : SC) (s : SH) (r : RV) (aa : Option Addr) (ca : Nat) (o : Nat) (w : World) (G F : Nat → Prop) (g : Nat) (hS : ShAt w G F g c s) (ho : o < c.P.objectsV) (ha : IntsF w F (.slice aa r.args.length ca) r.args) (hE : r.fired = true → ∀ e ∈ c.P.fires r (o : Int), EdIn c.P e) (hld : s.load ≤ 800000000) (hkc : (r.kind.toList == [99, 97, 108, 108]) = false) (hkl : (r.kind.toList == [108, 111, 97, 100]) = false) (hks : (r.kind.toList == [115, 116, 111, 114, 101]) = true) (hin : (c.P.nodesV : Int) ≤ (o : Int)) :
    Calls Tryz.prog 162 #[.pointer (some ⟨g, 0, none⟩), r.val (.slice aa r.args.length ca), .int .i64 (o : Int)] w fun x w' => x = .returned (.tuple #[]) ∧ ShAt w' G F g c (s.fire c.P (c.me : Nat) (c.k : Nat) r (o : Int)) ∧ Keep (fun b => ¬ F b) w w' := by
  have hS0 := hS
  obtain ⟨m1, m2, f1, f2, vt, vo, ts, os, h⟩ := hS
  have hw := h.con.well
  obtain ⟨hn1, hn2⟩ := hw.nodes
  obtain ⟨W, hW⟩ : ∃ W, W = w.alloc (.cells #[.string r.kind, .int .i64 r.a, .int .i64 r.b, .int .i64 r.k, .slice aa r.args.length ca] 123) := ⟨_, rfl⟩
  have HX : Hid (Ext w W) := hid (by rw [hW]; exact (Ext.refl _).alloc _)
  have HBx : Hid (Blk W w.heap.size #[.string r.kind, .int .i64 r.a, .int .i64 r.b, .int .i64 r.k, .slice aa r.args.length ca] 123) := hid (by rw [hW]; exact Blk.new _ _ _)
  have HWe : Hid (W = w.alloc (.cells #[.string r.kind, .int .i64 r.a, .int .i64 r.b, .int .i64 r.k, .slice aa r.args.length ca] 123)) := hid hW
  have HSa := hid (hS0.ext HX.out)
  have HS := hid (h.ext HX.out)
  have HA := hid (ha.keep (HX.out.keep fun _ => False) (fun _ _ h => h) fun _ h => h)
  have al := ha.form
  have hal : (r.args.length : Int) ≤ 9223372036854775807 := by obtain ⟨a, cap, h1, h2, h3, _⟩ := al; omega
  have Hw := hid hw
  have HE := hid hE
  have Hld := hid hld
  have hob : o < 126 := by omega
  have Ho := hid ho
  have m0 := HBx.out.av 0 rfl
  have m1' := HBx.out.av 1 rfl
  have m2' := HBx.out.av 2 rfl
  have b6 := HS.out.blk.av 6 rfl
  simp only [shCells, qA0, qA1, qA2] at m0 m1' m2' b6
  unfold RV.val
  clear hS0 h hW ha al hw hE hld ho
  have Hr : Hid (s.fire c.P (c.me : Nat) (c.k : Nat) r (o : Int) = s) := hid (by
    unfold SH.fire PP.fires kCall
    rw [hkc, cond_false, if_pos hin]
    cases r.fired <;> rfl)
  rw [Hr.out]
  generalize c.P.nodesV = NN at *
  go_enter Tryz.func162, Tryz.ntmps162
  rw [HWe.out] at m0 m1' m2' b6
  go_wp2
  rw [← HWe.out]
  go_end0
  exact ⟨rfl, HSa.out, HX.out.keep _⟩
set_option maxRecDepth 100000 in
set_option maxHeartbeats 3200000 in
theorem shardfire_g (c : SC) (s : SH) (r : RV) (aa : Option Addr) (ca : Nat) (o : Nat) (w : World) (G F : Nat → Prop) (g : Nat) (hS : ShAt w G F g c s) (ho : o < c.P.objectsV) (ha : IntsF w F (.slice aa r.args.length ca) r.args) (hE : r.fired = true → ∀ e ∈ c.P.fires r (o : Int), EdIn c.P e) (hld : s.load ≤ 800000000) (hkc : (r.kind.toList == [99, 97, 108, 108]) = false) (hkl : (r.kind.toList == [108, 111, 97, 100]) = false) (hks : (r.kind.toList == [115, 116, 111, 114, 101]) = false) :
    Calls Tryz.prog 162 #[.pointer (some ⟨g, 0, none⟩), r.val (.slice aa r.args.length ca), .int .i64 (o : Int)] w fun x w' => x = .returned (.tuple #[]) ∧ ShAt w' G F g c (s.fire c.P (c.me : Nat) (c.k : Nat) r (o : Int)) ∧ Keep (fun b => ¬ F b) w w' := by
  have hS0 := hS
  obtain ⟨m1, m2, f1, f2, vt, vo, ts, os, h⟩ := hS
  have hw := h.con.well
  obtain ⟨hn1, hn2⟩ := hw.nodes
  obtain ⟨W, hW⟩ : ∃ W, W = w.alloc (.cells #[.string r.kind, .int .i64 r.a, .int .i64 r.b, .int .i64 r.k, .slice aa r.args.length ca] 123) := ⟨_, rfl⟩
  have HX : Hid (Ext w W) := hid (by rw [hW]; exact (Ext.refl _).alloc _)
  have HBx : Hid (Blk W w.heap.size #[.string r.kind, .int .i64 r.a, .int .i64 r.b, .int .i64 r.k, .slice aa r.args.length ca] 123) := hid (by rw [hW]; exact Blk.new _ _ _)
  have HWe : Hid (W = w.alloc (.cells #[.string r.kind, .int .i64 r.a, .int .i64 r.b, .int .i64 r.k, .slice aa r.args.length ca] 123)) := hid hW
  have HSa := hid (hS0.ext HX.out)
  have HS := hid (h.ext HX.out)
  have HA := hid (ha.keep (HX.out.keep fun _ => False) (fun _ _ h => h) fun _ h => h)
  have al := ha.form
  have hal : (r.args.length : Int) ≤ 9223372036854775807 := by obtain ⟨a, cap, h1, h2, h3, _⟩ := al; omega
  have Hw := hid hw
  have HE := hid hE
  have Hld := hid hld
  have hob : o < 126 := by omega
  have Ho := hid ho
  have m0 := HBx.out.av 0 rfl
  have m1' := HBx.out.av 1 rfl
  have m2' := HBx.out.av 2 rfl
  have b6 := HS.out.blk.av 6 rfl
  simp only [shCells, qA0, qA1, qA2] at m0 m1' m2' b6
  unfold RV.val
  clear hS0 h hW ha al hw hE hld ho
  have Hr : Hid (s.fire c.P (c.me : Nat) (c.k : Nat) r (o : Int) = s) := hid (by
    unfold SH.fire RV.fired kLoad kStore kCall
    rw [hkc, hkl, hks]; rfl)
  rw [Hr.out]
  generalize c.P.nodesV = NN at *
  go_enter Tryz.func162, Tryz.ntmps162
  rw [HWe.out] at m0 m1' m2' b6
  go_wp2
  rw [← HWe.out]
  go_end0
  exact ⟨rfl, HSa.out, HX.out.keep _⟩
set_option maxRecDepth 100000 in
set_option maxHeartbeats 3200000 in
theorem shardfire_c (c : SC) (s : SH) (r : RV) (aa : Option Addr) (ca : Nat) (o : Nat) (w : World) (G F : Nat → Prop) (g : Nat) (hS : ShAt w G F g c s) (ho : o < c.P.objectsV) (ha : IntsF w F (.slice aa r.args.length ca) r.args) (hE : r.fired = true → ∀ e ∈ c.P.fires r (o : Int), EdIn c.P e) (hld : s.load ≤ 800000000) (hkc : (r.kind.toList == [99, 97, 108, 108]) = false) (hkl : (r.kind.toList == [108, 111, 97, 100]) = true) (hin : (o : Int) < (c.P.nodesV : Int)) :
    Calls Tryz.prog 162 #[.pointer (some ⟨g, 0, none⟩), r.val (.slice aa r.args.length ca), .int .i64 (o : Int)] w fun x w' => x = .returned (.tuple #[]) ∧ ShAt w' G F g c (s.fire c.P (c.me : Nat) (c.k : Nat) r (o : Int)) ∧ Keep (fun b => ¬ F b) w w' := by
  have hS0 := hS
  obtain ⟨m1, m2, f1, f2, vt, vo, ts, os, h⟩ := hS
  have hw := h.con.well
  obtain ⟨hn1, hn2⟩ := hw.nodes
  obtain ⟨W, hW⟩ : ∃ W, W = w.alloc (.cells #[.string r.kind, .int .i64 r.a, .int .i64 r.b, .int .i64 r.k, .slice aa r.args.length ca] 123) := ⟨_, rfl⟩
  have HX : Hid (Ext w W) := hid (by rw [hW]; exact (Ext.refl _).alloc _)
  have HBx : Hid (Blk W w.heap.size #[.string r.kind, .int .i64 r.a, .int .i64 r.b, .int .i64 r.k, .slice aa r.args.length ca] 123) := hid (by rw [hW]; exact Blk.new _ _ _)
  have HWe : Hid (W = w.alloc (.cells #[.string r.kind, .int .i64 r.a, .int .i64 r.b, .int .i64 r.k, .slice aa r.args.length ca] 123)) := hid hW
  have HSa := hid (hS0.ext HX.out)
  have HS := hid (h.ext HX.out)
  have HA := hid (ha.keep (HX.out.keep fun _ => False) (fun _ _ h => h) fun _ h => h)
  have al := ha.form
  have hal : (r.args.length : Int) ≤ 9223372036854775807 := by obtain ⟨a, cap, h1, h2, h3, _⟩ := al; omega
  have Hw := hid hw
  have HE := hid hE
  have Hld := hid hld
  have hob : o < 126 := by omega
  have Ho := hid ho
  have m0 := HBx.out.av 0 rfl
  have m1' := HBx.out.av 1 rfl
  have m2' := HBx.out.av 2 rfl
  have b6 := HS.out.blk.av 6 rfl
  simp only [shCells, qA0, qA1, qA2] at m0 m1' m2' b6
  unfold RV.val
  clear hS0 h hW ha al hw hE hld ho
  have hfr : c.P.fires r (o : Int) = [((o : Int), r.b)] := by
    unfold PP.fires kCall kLoad
    rw [hkc, cond_false, if_neg (by omega), hkl]; rfl
  have hfd : r.fired = true := by unfold RV.fired kLoad; rw [hkl]; rfl
  have hed := HE.out hfd ((o : Int), r.b) (by rw [hfr]; exact List.mem_singleton.2 rfl)
  obtain ⟨_, hb0, hb1⟩ := hed
  simp only at hb0 hb1
  obtain ⟨j, hj⟩ := Int.eq_ofNat_of_zero_le hb0
  have Hr : Hid (s.fire c.P (c.me : Nat) (c.k : Nat) r (o : Int) = s.edge (c.me : Nat) (c.k : Nat) ((o : Int), (j : Int))) := hid (by
    unfold SH.fire RV.fired kLoad
    rw [hfr, hkl, hj]; rfl)
  rw [hj] at hb1 m2' HBx HWe
  clear hfr hb0 hfd
  generalize r.b = rb at *
  subst hj
  have HT := hid (shardedge_any c s o j W G F g HSa.out (by omega) (by omega) (by have := Hld.out; omega))
  rw [Hr.out]
  rw [HWe.out] at m0 m1' m2' b6
  generalize c.P.nodesV = NN at *
  go_enter Tryz.func162, Tryz.ntmps162
  go_wp2_with fail
  rw [← HWe.out]
  refine HT.out.mono ?_
  intro x w1 hx
  obtain ⟨rfl, hS1, hK1⟩ := hx
  have HS1 := hid hS1
  have HK1 := hid hK1
  clear hS1 hK1 HT m0 m1' m2' b6
  go_wp2
  go_end0
  exact ⟨rfl, HS1.out, (HX.out.keep _).trans HK1.out⟩
set_option maxRecDepth 100000 in
set_option maxHeartbeats 3200000 in
theorem shardfire_e (c : SC) (s : SH) (r : RV) (aa : Option Addr) (ca : Nat) (o : Nat) (w : World) (G F : Nat → Prop) (g : Nat) (hS : ShAt w G F g c s) (ho : o < c.P.objectsV) (ha : IntsF w F (.slice aa r.args.length ca) r.args) (hE : r.fired = true → ∀ e ∈ c.P.fires r (o : Int), EdIn c.P e) (hld : s.load ≤ 800000000) (hkc : (r.kind.toList == [99, 97, 108, 108]) = false) (hkl : (r.kind.toList == [108, 111, 97, 100]) = false) (hks : (r.kind.toList == [115, 116, 111, 114, 101]) = true) (hin : (o : Int) < (c.P.nodesV : Int)) :
    Calls Tryz.prog 162 #[.pointer (some ⟨g, 0, none⟩), r.val (.slice aa r.args.length ca), .int .i64 (o : Int)] w fun x w' => x = .returned (.tuple #[]) ∧ ShAt w' G F g c (s.fire c.P (c.me : Nat) (c.k : Nat) r (o : Int)) ∧ Keep (fun b => ¬ F b) w w' := by
  have hS0 := hS
  obtain ⟨m1, m2, f1, f2, vt, vo, ts, os, h⟩ := hS
  have hw := h.con.well
  obtain ⟨hn1, hn2⟩ := hw.nodes
  obtain ⟨W, hW⟩ : ∃ W, W = w.alloc (.cells #[.string r.kind, .int .i64 r.a, .int .i64 r.b, .int .i64 r.k, .slice aa r.args.length ca] 123) := ⟨_, rfl⟩
  have HX : Hid (Ext w W) := hid (by rw [hW]; exact (Ext.refl _).alloc _)
  have HBx : Hid (Blk W w.heap.size #[.string r.kind, .int .i64 r.a, .int .i64 r.b, .int .i64 r.k, .slice aa r.args.length ca] 123) := hid (by rw [hW]; exact Blk.new _ _ _)
  have HWe : Hid (W = w.alloc (.cells #[.string r.kind, .int .i64 r.a, .int .i64 r.b, .int .i64 r.k, .slice aa r.args.length ca] 123)) := hid hW
  have HSa := hid (hS0.ext HX.out)
  have HS := hid (h.ext HX.out)
  have HA := hid (ha.keep (HX.out.keep fun _ => False) (fun _ _ h => h) fun _ h => h)
  have al := ha.form
  have hal : (r.args.length : Int) ≤ 9223372036854775807 := by obtain ⟨a, cap, h1, h2, h3, _⟩ := al; omega
  have Hw := hid hw
  have HE := hid hE
  have Hld := hid hld
  have hob : o < 126 := by omega
  have Ho := hid ho
  have m0 := HBx.out.av 0 rfl
  have m1' := HBx.out.av 1 rfl
  have m2' := HBx.out.av 2 rfl
  have b6 := HS.out.blk.av 6 rfl
  simp only [shCells, qA0, qA1, qA2] at m0 m1' m2' b6
  unfold RV.val
  clear hS0 h hW ha al hw hE hld ho
  have hfr : c.P.fires r (o : Int) = [(r.a, (o : Int))] := by
    unfold PP.fires kCall kLoad
    rw [hkc, cond_false, if_neg (by omega), hkl]; rfl
  have hfd : r.fired = true := by unfold RV.fired kStore; rw [hks, Bool.or_true]; rfl
  have hed := HE.out hfd (r.a, (o : Int)) (by rw [hfr]; exact List.mem_singleton.2 rfl)
  obtain ⟨⟨hb0, hb1⟩, _⟩ := hed
  simp only at hb0 hb1
  obtain ⟨j, hj⟩ := Int.eq_ofNat_of_zero_le hb0
  have Hr : Hid (s.fire c.P (c.me : Nat) (c.k : Nat) r (o : Int) = s.edge (c.me : Nat) (c.k : Nat) ((j : Int), (o : Int))) := hid (by
    unfold SH.fire RV.fired kStore
    rw [hfr, hks, Bool.or_true, hj]; rfl)
  rw [hj] at hb1 m1' HBx HWe
  clear hfr hb0 hfd
  generalize r.a = ra at *
  subst hj
  have HT := hid (shardedge_any c s j o W G F g HSa.out (by omega) (by omega) (by have := Hld.out; omega))
  rw [Hr.out]
  rw [HWe.out] at m0 m1' m2' b6
  generalize c.P.nodesV = NN at *
  go_enter Tryz.func162, Tryz.ntmps162
  go_wp2_with fail
  rw [← HWe.out]
  refine HT.out.mono ?_
  intro x w1 hx
  obtain ⟨rfl, hS1, hK1⟩ := hx
  have HS1 := hid hS1
  have HK1 := hid hK1
  clear hS1 hK1 HT m0 m1' m2' b6
  go_wp2
  go_end0
  exact ⟨rfl, HS1.out, (HX.out.keep _).trans HK1.out⟩
end Go.Proofs.YtbagppdibncfdaaGreatDoor
