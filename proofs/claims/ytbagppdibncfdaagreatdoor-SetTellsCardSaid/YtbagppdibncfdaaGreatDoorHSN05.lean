/- Texts of one proof, put together: V3 V5 V6 WA WB WC WD V7 V8 WE WF VB Y1 Y2 Y3 Y4 Y5 Y6 Y7 Y8 Y9 YA SX S7. -/
import Derived.Test.YtbagppdibncfdaaGreatDoorHSN01
import Derived.Test.YtbagppdibncfdaaGreatDoorHSN02
import Derived.Test.YtbagppdibncfdaaGreatDoorHSN03
import Derived.Test.YtbagppdibncfdaaGreatDoorHSN04
import Derived.ProofKit
import Derived.OpenShut
import Derived.Lib.SmallJoins
import Derived.Deep.Slices
import Derived.Lib.AppendIntMem
set_option linter.unusedSimpArgs false
set_option linter.unusedVariables false
namespace Go.Proofs.YtbagppdibncfdaaGreatDoor
open Go Go.RowKit
structure PP.Small (P : PP) : Prop where
  vl : P.vars.length ≤ 41
  fl : P.funs.length ≤ 8
  sl : P.stmts.length ≤ 81
  vs : ∀ s ∈ P.vars, s.size ≤ 20
  fs : ∀ f ∈ P.funs, f.name.size ≤ 20 ∧ f.params.length ≤ 8
  ss : ∀ s ∈ P.stmts, s.kind.size ≤ 20 ∧ s.args.length ≤ 8
theorem StrsR.at {w : World} {n0 : Nat} {a : Option Addr} {n cap : Nat} {l : List ByteArray} (h : StrsR w n0 (.slice a n cap) l) {k : Nat} (hk : k < l.length) : ∃ y q, a = some y ∧ l[k]? = some q ∧ w.cell? (y.add k) = some (.string q) := by
  obtain ⟨a', cap', h1, h2, h3, h4, h5⟩ := h
  obtain ⟨rfl, rfl, rfl⟩ : a = a' ∧ n = l.length ∧ cap = cap' := by simpa using h1
  obtain ⟨y, rfl⟩ := h4 (by omega)
  have hx : l[k]? = some (l[k]'hk) := List.getElem?_eq_getElem hk
  exact ⟨y, _, rfl, hx, (h5 y rfl (by omega)).2 k hk _ hx⟩
theorem StrsR.len {w : World} {n0 : Nat} {a : Option Addr} {n cap : Nat} {l : List ByteArray} (h : StrsR w n0 (.slice a n cap) l) : (l.length : Int) ≤ 9223372036854775807 := by
  obtain ⟨_, _, _, h2, h3, _⟩ := h
  omega
structure OwnP (w : World) (n1 : Nat) (vv fv sv : Value) (P : PP) (fs : List F2) (ss : List S2) : Prop where
  blk : Blk w n1 #[vv, fv, sv] 26
  vars : w.ownsRow 0 9 1 vv P.vars.length (P.vars.map .string)
  funs : w.ownsRow n1 79 3 fv fs.length (fs.flatMap F2.cells)
  stmts : w.ownsRow n1 77 4 sv ss.length (ss.flatMap S2.cells)
  fi : ∀ x ∈ fs, IntsT w x.v x.f.params
  si : ∀ x ∈ ss, IntsT w x.v x.s.args
theorem OwnP.ext {w w' : World} {n1 : Nat} {vv fv sv : Value} {P : PP} {fs : List F2} {ss : List S2} (h : OwnP w n1 vv fv sv P fs ss) (x : Ext w w') : OwnP w' n1 vv fv sv P fs ss :=
  ⟨h.blk.ext x, own_ext h.vars x, own_ext h.funs x, own_ext h.stmts x, fun y hy => (h.fi y hy).ext x, fun y hy => (h.si y hy).ext x⟩
theorem notInt {w : World} {b : Nat} {c : Array Value} {t : TypeId} (h : Blk w b c t) (hne : t ≠ 3) : ¬ IsInt w b := IsInt.not h hne
theorem OwnP.fun {w w1 w' : World} {n1 : Nat} {vv fv sv fv' : Value} {P : PP} {fs : List F2} {ss : List S2} (h : OwnP w n1 vv fv sv P fs ss) (x : F2) (hx : IntsT w x.v x.f.params)
    (ho : w'.ownsRow n1 79 3 fv' (fs.length + 1) (fs.flatMap F2.cells ++ F2.cells x)) (k : Keep (fun q => fv.ownBlock = some q) w w') (hw : w1 = w'.setCell ⟨n1, 1, none⟩ fv') : OwnP w1 n1 vv fv' sv P (fs ++ [x]) ss := by
  subst hw
  have hb : Blk w' n1 #[vv, fv, sv] 26 := h.blk.keep k fun e => by
    obtain ⟨c, hc⟩ := own_ty h.funs e
    exact Blk.ty_ne hc h.blk (by decide) rfl
  have k2 : Keep (fun q => q = n1) w' (w'.setCell ⟨n1, 1, none⟩ fv') := Keep.set (X := fun q => q = n1) (Keep.refl _ _) rfl _
  have hb2 := hb.set 1 fv'
  simp only [qS0, qS1, qS2] at hb2
  have nf : ∀ b, fv.ownBlock = some b → ¬ IsInt w b := fun b e => by
    obtain ⟨c, hc⟩ := own_ty h.funs e
    exact notInt hc (by decide)
  have kk : ∀ v l, IntsT w v l → IntsT (w'.setCell ⟨n1, 1, none⟩ fv') v l := fun v l hi => (hi.keep k nf).keep k2 fun b e => by subst e; exact notInt hb (by decide)
  have r2 : ∀ {base : Nat} {e : TypeId} {size : Nat} {v : Value} {n : Nat} {xs : List Value}, w'.ownsRow base e size v n xs → e ≠ 26 → (w'.setCell ⟨n1, 1, none⟩ fv').ownsRow base e size v n xs := fun hr hne => row_keep hr k2 fun i hi e => by
    subst e
    obtain ⟨c, hc⟩ := own_ty hr hi
    exact Blk.ty_ne hc hb hne rfl
  have r1 : ∀ {base : Nat} {e : TypeId} {size : Nat} {v : Value} {n : Nat} {xs : List Value}, w.ownsRow base e size v n xs → e ≠ 79 → w'.ownsRow base e size v n xs := fun hr hne => row_keep hr k fun i hi e => by
    obtain ⟨c, hc⟩ := own_ty hr hi
    obtain ⟨d, hd⟩ := own_ty h.funs e
    exact Blk.ty_ne hc hd hne rfl
  refine ⟨hb2, r2 (r1 h.vars (by decide)) (by decide), r2 (by simpa using ho) (by decide), r2 (r1 h.stmts (by decide)) (by decide), fun y hy => ?_, fun y hy => kk _ _ (h.si y hy)⟩
  rcases List.mem_append.1 hy with hy | hy
  · exact kk _ _ (h.fi y hy)
  · rw [List.mem_singleton.1 hy]; exact kk _ _ hx
theorem OwnP.stmt {w w1 w' : World} {n1 : Nat} {vv fv sv sv' : Value} {P : PP} {fs : List F2} {ss : List S2} (h : OwnP w n1 vv fv sv P fs ss) (x : S2) (hx : IntsT w x.v x.s.args)
    (ho : w'.ownsRow n1 77 4 sv' (ss.length + 1) (ss.flatMap S2.cells ++ S2.cells x)) (k : Keep (fun q => sv.ownBlock = some q) w w') (hw : w1 = w'.setCell ⟨n1, 2, none⟩ sv') : OwnP w1 n1 vv fv sv' P fs (ss ++ [x]) := by
  subst hw
  have hb : Blk w' n1 #[vv, fv, sv] 26 := h.blk.keep k fun e => by
    obtain ⟨c, hc⟩ := own_ty h.stmts e
    exact Blk.ty_ne hc h.blk (by decide) rfl
  have k2 : Keep (fun q => q = n1) w' (w'.setCell ⟨n1, 2, none⟩ sv') := Keep.set (X := fun q => q = n1) (Keep.refl _ _) rfl _
  have hb2 := hb.set 2 sv'
  simp only [qS0, qS1, qS2] at hb2
  have nf : ∀ b, sv.ownBlock = some b → ¬ IsInt w b := fun b e => by
    obtain ⟨c, hc⟩ := own_ty h.stmts e
    exact notInt hc (by decide)
  have kk : ∀ v l, IntsT w v l → IntsT (w'.setCell ⟨n1, 2, none⟩ sv') v l := fun v l hi => (hi.keep k nf).keep k2 fun b e => by subst e; exact notInt hb (by decide)
  have r2 : ∀ {base : Nat} {e : TypeId} {size : Nat} {v : Value} {n : Nat} {xs : List Value}, w'.ownsRow base e size v n xs → e ≠ 26 → (w'.setCell ⟨n1, 2, none⟩ sv').ownsRow base e size v n xs := fun hr hne => row_keep hr k2 fun i hi e => by
    subst e
    obtain ⟨c, hc⟩ := own_ty hr hi
    exact Blk.ty_ne hc hb hne rfl
  have r1 : ∀ {base : Nat} {e : TypeId} {size : Nat} {v : Value} {n : Nat} {xs : List Value}, w.ownsRow base e size v n xs → e ≠ 77 → w'.ownsRow base e size v n xs := fun hr hne => row_keep hr k fun i hi e => by
    obtain ⟨c, hc⟩ := own_ty hr hi
    obtain ⟨d, hd⟩ := own_ty h.stmts e
    exact Blk.ty_ne hc hd hne rfl
  refine ⟨hb2, r2 (r1 h.vars (by decide)) (by decide), r2 (r1 h.funs (by decide)) (by decide), r2 (by simpa using ho) (by decide), fun y hy => kk _ _ (h.fi y hy), fun y hy => ?_⟩
  rcases List.mem_append.1 hy with hy | hy
  · exact kk _ _ (h.si y hy)
  · rw [List.mem_singleton.1 hy]; exact kk _ _ hx
def ranP : PP := ⟨[⟨#[97]⟩, ⟨#[98]⟩], [], [⟨⟨#[97, 100, 100, 114]⟩, 0, 1, []⟩, ⟨⟨#[115, 116, 111, 114, 101]⟩, 0, 0, []⟩]⟩
def ranS : Array Value := #[.string ⟨#[97, 100, 100, 114]⟩, .int .i64 0, .int .i64 1, .slice none 0 0, .string ⟨#[115, 116, 111, 114, 101]⟩, .int .i64 0, .int .i64 0, .slice none 0 0]
def PP.isNew (P : PP) (k : Nat) : Bool := match P.stmts[k]? with
  | some x => x.isK kNew
  | none => false
theorem PP.Runs.take {P : PP} {l : List Int} (h : P.Runs l) (k : Nat) : P.Runs (l.take k) :=
  ⟨h.1, h.2.1, by have := h.2.2.1; rw [List.length_take]; omega, fun x hx => h.2.2.2 x (List.mem_of_mem_take hx)⟩
theorem PP.Runs.lt {P : PP} {l : List Int} (h : P.Runs l) {q : Int} (hq : q ∈ l) : 0 ≤ q ∧ q < P.stmts.length := by
  have hb := h.2.2.2 q hq
  unfold PP.badk at hb
  simp at hb
  omega
theorem PP.Runs.stmts {P : PP} {l : List Int} (h : P.Runs l) : P.stmts.length ≤ 80 := by
  have h1 := h.1
  unfold PP.err1 at h1
  cases hb : P.big with
  | true => rw [hb] at h1; simp at h1
  | false => unfold PP.big at hb; simp at hb; omega
def newOf (P : PP) (l : List Int) : List Int := ((l.map Int.toNat).filter P.isNew).map Int.ofNat
def RunOut (P : PP) (l : List Int) (n0 : Nat) (w : World) (sv ev : Value) : Prop :=
  (P.Runs l ∧ ev = .nilIface ∧ ∃ a1 a2 a3 c1 c2 c3, sv = .agg #[.slice a1 (Rn.run P (l.map Int.toNat)).vars.length c1, .slice a2 (newOf P l).length c2, .slice a3 (newOf P l).length c3] ∧
    w.ownsRow n0 3 1 (.slice a3 (newOf P l).length c3) (newOf P l).length (icells (newOf P l))) ∨
  (¬ P.Runs l ∧ sv = zeroS ∧ ∃ t x, ev = .iface t (.pointer (some x)))
theorem RunOut.ext {P : PP} {l : List Int} {n0 : Nat} {w w' : World} {sv ev : Value} (h : RunOut P l n0 w sv ev) (x : Ext w w') : RunOut P l n0 w' sv ev := by
  rcases h with ⟨h1, h2, a1, a2, a3, c1, c2, c3, h3, h4⟩ | h
  · exact .inl ⟨h1, h2, a1, a2, a3, c1, c2, c3, h3, own_ext h4 x⟩
  · exact .inr h
theorem RunOut.form {P : PP} {l : List Int} {n0 : Nat} {w : World} {sv ev : Value} (h : RunOut P l n0 w sv ev) : ∃ a1 n1 c1 a2 n2 c2 a3 n3 c3, sv = .agg #[.slice a1 n1 c1, .slice a2 n2 c2, .slice a3 n3 c3] := by
  rcases h with ⟨h1, h2, a1, a2, a3, c1, c2, c3, h3, h4⟩ | ⟨_, h, _⟩
  · exact ⟨_, _, _, _, _, _, _, _, _, h3⟩
  · exact ⟨_, _, _, _, _, _, _, _, _, h⟩
def PP.newsN (P : PP) (k : Nat) : Nat := ((List.range k).filter P.isNew).length
def PP.nodesV (P : PP) : Nat := P.vars.length + P.newsN P.stmts.length
def PP.placeV (P : PP) (k : Int) : Int := if 0 ≤ k ∧ k < P.stmts.length ∧ P.isNew k.toNat = true then ((P.vars.length + P.newsN k.toNat : Nat) : Int) else -1
def PP.Well (P : PP) : Prop := P.err1 = 0 ∧ P.allWell
theorem PP.Well.few {P : PP} (h : P.Well) : P.vars.length ≤ 40 ∧ P.funs.length ≤ 6 ∧ P.stmts.length ≤ 80 := by
  have h1 := h.1
  unfold PP.err1 at h1
  cases hb : P.big with
  | true => rw [hb] at h1; simp at h1
  | false => unfold PP.big at hb; simp at hb; omega
end Go.Proofs.YtbagppdibncfdaaGreatDoor
namespace Go.Proofs.YtbagppdibncfdaaGreatDoor
open Go Go.ChangeShapes Go.WideShapes Go.ChangeAt Go.WideMaps Go.WideElems Go.RowKit Go.Joins Go.Deep
section
variable {H : Type} {enc : TypeId × Value → H} {P : Program} {w : World} {base : Nat} {spare : Nat → Bool} {held : Bool}
end
theorem cellsU_int : Tryz.prog.cellsOf 3 = 1 := by kernel_rfl
section
variable {H : Type} {enc : TypeId × Value → H} {w : World} {base : Nat} {sp : Nat → Bool} {held : Bool} {n : Nat}
theorem add_addU (a : Addr) (i j : Nat) : (a.add i).add j = a.add (i + j) := Go.Deep.add_add a i j
theorem maxLen_eq : maxLen = 9223372036854775807 := by decide
theorem elR_of {α : Type} [Inhabited α] {t e : TypeId} {size : Nat} {v : Value} {x : DataW H × List MemPlace} (ht : Tryz.prog.underlying t = some (.slice e)) (hc : Tryz.prog.cellsOf e = size) (h0 : 0 < size) (E : Nat → Addr → α → Prop)
    (hE : ∀ (i m : Nat) (y : Addr) (cs : List Value) (z : DataW H × List MemPlace), (∀ j, j < size → w.cell? ((y.add (i * size)).add j) = cs[j]?) → cs.length = size → DataW.trod enc Tryz.prog w base sp held m e cs = some z → ∃ a, E i y a)
    (h : DataW.trod enc Tryz.prog w base sp held n t [v] = some x) : ∃ l : List α, ElR w.heap.size v l.length fun i y => ∀ a, l[i]? = some a → E i y a := by
  have hml := maxLen_eq
  rcases open_slice ht h with ⟨hcs, _⟩ | ⟨y, l, c, m, k, D, Pl, hcs, _, hl, hm, hmm, _, hx⟩
  · simp only [List.cons.injEq, and_true] at hcs
    subst hcs
    exact ⟨[], none, 0, rfl, Nat.le_refl _, by decide, fun h => absurd h (by simp), fun y hy => by cases hy⟩
  simp only [List.cons.injEq, and_true] at hcs
  subst hcs
  have hlm : l ≤ m := by rw [hmm]; split <;> omega
  have each : ∀ i, i < l → ∃ a : α, E i y a ∧ y.block < w.heap.size := by
    intro i hi
    obtain ⟨cs', h1, h2⟩ := hx i (by omega)
    rw [hc] at h1
    obtain ⟨_, hlen, hcell⟩ := World.cells?_some h1
    obtain ⟨a, ha⟩ := hE i k y cs' _ (fun j hj => hcell j hj) hlen h2
    refine ⟨a, ha, ?_⟩
    have h3 := hcell 0 h0
    obtain ⟨u, hu⟩ : ∃ u, cs'[0]? = some u := ⟨_, List.getElem?_eq_getElem (by omega)⟩
    rw [hu] at h3
    have := cell_lt h3
    rwa [add_block, add_block] at this
  obtain ⟨Z, hZ⟩ := choose_lt each
  refine ⟨(List.range l).map Z, some y, c, by simp, by simpa using hl, by omega, fun _ => ⟨_, rfl⟩, fun y' hy hp => ?_⟩
  obtain rfl := Option.some.inj hy
  have hp' : 0 < l := by simpa using hp
  refine ⟨(hZ 0 hp').2, fun i hi a ha => ?_⟩
  have hi' : i < l := by simpa using hi
  rw [List.getElem?_map, List.getElem?_range hi'] at ha
  obtain rfl := Option.some.inj ha
  exact (hZ i hi').1
set_option maxRecDepth 100000 in
theorem intsR_of {v : Value} {x : DataW H × List MemPlace} (h : DataW.trod enc Tryz.prog w base sp held n 45 [v] = some x) : ∃ l, IntsR w w.heap.size v l := by
  refine elR_of (α := Int) Tryz.underlying45 cellsU_int (by decide) (fun i y s => w.cell? (y.add i) = some (.int .i64 s)) (fun i m y cs z hc hl ht => ?_) h
  obtain ⟨k, e, _, _⟩ := DataW.trod_int Tryz.underlying3 ht
  subst e
  refine ⟨k, ?_⟩
  have := hc 0 (by decide)
  simpa [add_addU, Addr.add] using this
end
theorem StrsR.form {w : World} {n0 : Nat} {v : Value} {l : List ByteArray} (h : StrsR w n0 v l) : ∃ a c, v = .slice a l.length c := by
  obtain ⟨a, c, h, _⟩ := h
  exact ⟨a, c, h⟩
theorem FunsR.form {w : World} {n0 : Nat} {v : Value} {l : List PF} (h : FunsR w n0 v l) : ∃ a c, v = .slice a l.length c := by
  obtain ⟨a, c, h, _⟩ := h
  exact ⟨a, c, h⟩
theorem StmtsR.form {w : World} {n0 : Nat} {v : Value} {l : List PS} (h : StmtsR w n0 v l) : ∃ a c, v = .slice a l.length c := by
  obtain ⟨a, c, h, _⟩ := h
  exact ⟨a, c, h⟩
end Go.Proofs.YtbagppdibncfdaaGreatDoor
namespace Go.Proofs.YtbagppdibncfdaaGreatDoor
open Go Go.RowKit
def SetsR (w : World) (n0 : Nat) (v : Value) (L : List (List Int)) : Prop := ElR n0 v L.length fun i y => ∀ l, L[i]? = some l → ∃ u, w.cell? (y.add i) = some u ∧ IntsR w n0 u l
theorem SetsR.old {w w' : World} {n0 : Nat} {v : Value} {L : List (List Int)} (h : SetsR w n0 v L) (k : Old n0 w w') : SetsR w' n0 v L :=
  ElR.mono h (Nat.le_refl _) fun i y _ hy hE l hl => by
    obtain ⟨u, h1, h2⟩ := hE l hl
    exact ⟨u, k.cellx h1 (by rw [add_block]; exact hy), h2.old k⟩
theorem SetsR.lift {w : World} {n0 n1 : Nat} {v : Value} {L : List (List Int)} (h : SetsR w n0 v L) (hn : n0 ≤ n1) : SetsR w n1 v L :=
  ElR.mono h hn fun i y _ _ hE l hl => by
    obtain ⟨u, h1, h2⟩ := hE l hl
    exact ⟨u, h1, ElR.lift h2 hn⟩
theorem SetsR.ext {w w' : World} {n0 : Nat} {v : Value} {L : List (List Int)} (h : SetsR w n0 v L) (x : Ext w w') : SetsR w' n0 v L := h.old (x.old _)
theorem SetsR.form {w : World} {n0 : Nat} {v : Value} {L : List (List Int)} (h : SetsR w n0 v L) : ∃ a c, v = .slice a L.length c := by
  obtain ⟨a, c, h, _⟩ := h
  exact ⟨a, c, h⟩
theorem SetsR.len {w : World} {n0 : Nat} {v : Value} {L : List (List Int)} (h : SetsR w n0 v L) : (L.length : Int) ≤ 9223372036854775807 := by
  obtain ⟨a, c, _, h2, h3, _⟩ := h
  omega
theorem SetsR.at {w : World} {n0 : Nat} {a : Option Addr} {n cap : Nat} {L : List (List Int)} (h : SetsR w n0 (.slice a n cap) L) {k : Nat} (hk : k < L.length) : ∃ y l b c, a = some y ∧ L[k]? = some l ∧ w.cell? (y.add k) = some (.slice b l.length c) ∧ IntsR w n0 (.slice b l.length c) l := by
  obtain ⟨a', cap', h1, h2, h3, h4, h5⟩ := h
  obtain ⟨rfl, rfl, rfl⟩ : a = a' ∧ n = L.length ∧ cap = cap' := by simpa using h1
  obtain ⟨y, rfl⟩ := h4 (by omega)
  obtain ⟨l, hl⟩ : ∃ l, L[k]? = some l := ⟨_, List.getElem?_eq_getElem hk⟩
  obtain ⟨u, e1, e2⟩ := (h5 y rfl (by omega)).2 k hk l hl
  obtain ⟨b, c, rfl, _⟩ := id e2
  exact ⟨y, l, b, c, rfl, hl, e1, e2⟩
theorem IntsR.len {w : World} {n0 : Nat} {v : Value} {l : List Int} (h : IntsR w n0 v l) : (l.length : Int) ≤ 9223372036854775807 := by
  obtain ⟨a, c, _, h2, h3, _⟩ := h
  omega
section
variable {H : Type} {enc : TypeId × Value → H} {w : World} {base : Nat} {sp : Nat → Bool} {held : Bool} {n : Nat}
end
def fewSets (L : List (List Int)) : Prop := L.length ≤ 50 ∧ ∀ l ∈ L, l.length ≤ 60
def Made (w : World) (vs : List Value) (L : List (List Int)) : Prop := vs.length = L.length ∧ ∀ (i : Nat) v l, vs[i]? = some v → L[i]? = some l → IntsT w v l
theorem Made.keep {X : Nat → Prop} {w w' : World} {vs : List Value} {L : List (List Int)} (h : Made w vs L) (k : Keep X w w') (hX : ∀ b, X b → ¬ IsInt w b) : Made w' vs L :=
  ⟨h.1, fun i v l h1 h2 => (h.2 i v l h1 h2).keep k hX⟩
theorem Made.ext {w w' : World} {vs : List Value} {L : List (List Int)} (h : Made w vs L) (x : Ext w w') : Made w' vs L := ⟨h.1, fun i v l h1 h2 => (h.2 i v l h1 h2).ext x⟩
theorem Made.snoc {w : World} {vs : List Value} {L : List (List Int)} {v : Value} {l : List Int} (h : Made w vs L) (hv : IntsT w v l) : Made w (vs ++ [v]) (L ++ [l]) := by
  refine ⟨by simp [h.1], fun i u m h1 h2 => ?_⟩
  have hlen := h.1
  rcases Nat.lt_trichotomy i L.length with hi | hi | hi
  · rw [List.getElem?_append_left (by omega)] at h1 h2
    exact h.2 i u m h1 h2
  · subst hi
    rw [List.getElem?_append_right (by omega), show L.length - vs.length = 0 by omega] at h1
    rw [List.getElem?_append_right (Nat.le_refl _), Nat.sub_self] at h2
    obtain rfl := Option.some.inj h1
    obtain rfl := Option.some.inj h2
    exact hv
  · rw [List.getElem?_eq_none (by simp; omega)] at h1
    cases h1
theorem SetsR.made {w : World} {base : Nat} {v : Value} {vs : List Value} {L : List (List Int)} (h : w.ownsRow base 45 1 v L.length vs) (hm : Made w vs L) : SetsR w w.heap.size v L := by
  rcases h.2 with ⟨rfl, h0⟩ | ⟨g, cap, cur, rfl, hb, hg, hn, hc, hcs, ht⟩
  · unfold SetsR
    rw [h0]
    exact ⟨none, 0, rfl, Nat.le_refl _, by decide, fun h => absurd h (by omega), fun y hy => by cases hy⟩
  · refine ⟨_, cap, rfl, hn, by unfold maxLen at hc; omega, fun _ => ⟨_, rfl⟩, fun y hy h0 => ?_⟩
    obtain rfl := Option.some.inj hy
    have hB : Blk w g cur 45 := hg
    refine ⟨hB.lt, fun i hi l hl => ?_⟩
    have hi2 : i < vs.length := by rw [hm.1]; exact hi
    obtain ⟨u, hu⟩ : ∃ u, vs[i]? = some u := ⟨_, List.getElem?_eq_getElem hi2⟩
    refine ⟨u, ?_, (hm.2 i u l hu hl).1⟩
    rw [show (⟨g, 0, none⟩ : Addr).add i = ⟨g, i, none⟩ from by by_cases h0 : i = 0 <;> simp [Addr.add, h0]]
    exact own_get h i hu
structure PW (w : World) (n0 : Nat) (ad : Nat → Addr) (a1 a2 a3 : Option Addr) (c1 c2 c3 : Nat) (P : PP) : Prop where
  errs : ErrsP w ad
  prog : ProgR w n0 (.slice a1 P.vars.length c1) (.slice a2 P.funs.length c2) (.slice a3 P.stmts.length c3) P
  z1 : ∀ s ∈ P.vars, s.size ≤ 1000000
  z2 : ∀ s ∈ P.names, s.size ≤ 1000000
  well : P.Well
theorem PW.ext {w w' : World} {n0 : Nat} {ad : Nat → Addr} {a1 a2 a3 : Option Addr} {c1 c2 c3 : Nat} {P : PP} (h : PW w n0 ad a1 a2 a3 c1 c2 c3 P) (x : Ext w w') : PW w' n0 ad a1 a2 a3 c1 c2 c3 P := ⟨h.errs.ext x, h.prog.ext x, h.z1, h.z2, h.well⟩
theorem PW.lift {w : World} {n0 n1 : Nat} {ad : Nat → Addr} {a1 a2 a3 : Option Addr} {c1 c2 c3 : Nat} {P : PP} (h : PW w n0 ad a1 a2 a3 c1 c2 c3 P) (hn : n0 ≤ n1) : PW w n1 ad a1 a2 a3 c1 c2 c3 P := ⟨h.errs, h.prog.lift hn, h.z1, h.z2, h.well⟩
def PP.objectsV (P : PP) : Nat := P.nodesV + P.funs.length
def PP.funV (P : PP) (o : Int) : Int := if 0 ≤ o - P.nodesV ∧ o - P.nodesV < P.funs.length then o - P.nodesV else -1
structure RV where
  kind : ByteArray
  a : Int
  b : Int
  k : Int
  args : List Int
def RV.val (r : RV) (av : Value) : Value := .agg #[.string r.kind, .int .i64 r.a, .int .i64 r.b, .int .i64 r.k, av]
def bBase : ByteArray := ⟨#[98, 97, 115, 101]⟩
def bCall : ByteArray := ⟨#[99, 97, 108, 108]⟩
def PP.ruleV (P : PP) (k : Nat) (x : PS) : RV :=
  bif x.isK kAddr then ⟨bBase, x.x, x.y, k, []⟩ else
  bif x.isK kNew then ⟨bBase, x.x, P.placeV k, k, []⟩ else
  bif x.isK kFun then ⟨bBase, x.x, (P.nodesV : Int) + x.y, k, []⟩ else
  bif x.isK kCall then ⟨bCall, x.y, x.x, k, x.args⟩ else ⟨x.kind, x.y, x.x, k, []⟩
theorem IntsT.nil (w : World) : IntsT w (.slice none 0 0) [] := ⟨⟨none, 0, rfl, Nat.le_refl _, by decide, fun h => absurd h (by decide), fun y hy => by cases hy⟩, fun b hb => by cases hb⟩
structure R2 where
  r : RV
  v : Value
def R2.cells (x : R2) : List Value := [.string x.r.kind, .int .i64 x.r.a, .int .i64 x.r.b, .int .i64 x.r.k, x.v]
theorem R2.cells_len (x : R2) : x.cells.length = 5 := rfl
structure RulesT (w : World) (base : Nat) (v : Value) (L : List RV) (rs : List R2) : Prop where
  eq : rs.map R2.r = L
  row : w.ownsRow base 123 5 v L.length (rs.flatMap R2.cells)
  args : ∀ x ∈ rs, IntsT w x.v x.r.args
theorem RulesT.ext {w w' : World} {base : Nat} {v : Value} {L : List RV} {rs : List R2} (h : RulesT w base v L rs) (x : Ext w w') : RulesT w' base v L rs := ⟨h.eq, own_ext h.row x, fun y hy => (h.args y hy).ext x⟩
def PP.stAt (P : PP) (k : Nat) : PS := P.stmts.getD k ⟨⟨#[]⟩, 0, 0, []⟩
def PP.rulesUp (P : PP) (n : Nat) : List RV := (List.range n).map fun k => P.ruleV k (P.stAt k)
def PP.rulesV (P : PP) : List RV := P.rulesUp P.stmts.length
def calledV (f : PF) (r : RV) : List (Int × Int) := if f.params.length = r.args.length then (f.ret, r.b) :: r.args.zip f.params else []
def eCells (e : Int × Int) : List Value := [.int .i64 e.1, .int .i64 e.2]
def ERow (base : Nat) (w : World) (v : Value) (l : List (Int × Int)) : Prop := w.ownsRow base 128 2 v l.length (l.flatMap eCells)
theorem ERow.ext {base : Nat} {w w' : World} {v : Value} {l : List (Int × Int)} (h : ERow base w v l) (x : Ext w w') : ERow base w' v l := own_ext h x
theorem ERow.nil (base : Nat) (w : World) : ERow base w (.slice none 0 0) [] := World.ownsRow_nil _ _ _ _
def PP.nodesOf (P : PP) (l : List Int) : List Int := l.filter fun x => !decide ((P.nodesV : Int) ≤ x)
def PP.callsOf (P : PP) (r : RV) (o : Int) : List (Int × Int) := if 0 ≤ P.funV o then calledV (P.funs.getD (P.funV o).toNat ⟨⟨#[]⟩, [], 0⟩) r else []
def PP.redges (P : PP) (r : RV) (has : List (List Int)) : List (Int × Int) :=
  bif r.kind.toList == kCopy then [(r.a, r.b)] else
  bif r.kind.toList == kLoad then (P.nodesOf (has.getD r.a.toNat [])).map fun o => (o, r.b) else
  bif r.kind.toList == kStore then (P.nodesOf (has.getD r.b.toNat [])).map fun o => (r.a, o) else
  bif r.kind.toList == kCall then (has.getD r.a.toNat []).flatMap (P.callsOf r) else []
structure SetsOk (P : PP) (has : List (List Int)) : Prop where
  len : has.length = P.nodesV
  ok : ∀ l ∈ has, chkE l = 0 ∧ ∀ x ∈ l, x < P.objectsV
theorem SetsOk.inr {P : PP} {has : List (List Int)} (h : SetsOk P has) : ∀ l ∈ has, InR l := fun l hl => (chkE_zero.1 (h.ok l hl).1).1
theorem srt_few {l : List Int} (h : chkE l = 0) : l.length ≤ 1000 := by
  obtain ⟨h1, h2⟩ := chkE_zero.1 h
  rw [← sset_self h2 h1]
  unfold sset
  rw [List.length_map]
  have := List.length_filter_le (fun n : Nat => decide ((n : Int) ∈ l)) (List.range 1000)
  rw [List.length_range] at this
  exact this
def numS (n : Int) : ByteArray := ⟨(Lib.itoa n).toArray⟩
def numsS (l : List Int) : List ByteArray := l.map numS
theorem numsS_next {l : List Int} {k : Nat} {x : Int} (h : l[k]? = some x) : (numsS (l.take (k + 1))).map Value.string = (numsS (l.take k)).map Value.string ++ [.string (numS x)] := by
  unfold numsS; rw [List.take_add_one, h, List.map_append, List.map_append]; rfl
def setBytes (l : List Int) : List UInt8 := 123 :: (Lib.join ((numsS l).map (·.data.toList)) [44] ++ [125])
theorem toList_mk (a : Array UInt8) : (⟨a⟩ : ByteArray).toList = a.toList := by
  rw [ByteArray.toList_eq]
theorem toList_append2 (a b : ByteArray) : (a ++ b).toList = a.toList ++ b.toList := by
  rw [ByteArray.toList_eq, ByteArray.toList_eq, ByteArray.toList_eq]
  simp
def TabOk (w : World) : Prop := Lib.TabIs Tryz.prog w "internal/strconv.uint64pow10" .u64 Lib.pow10Tab
set_option maxRecDepth 100000 in
set_option maxHeartbeats 1600000 in
theorem settext_any (v : Value) (l : List Int) (w : World) (n0 : Nat) (ad : Nat → Addr) (hE : ErrS w ad) (h : IntsR w n0 v l) (hk : chkE l = 0) (hT : ∀ w1, Ext w w1 → TabOk w1) (hj : (Lib.join ((numsS l).map (·.data.toList)) [44]).length ≤ 1000000) :
    Calls Tryz.prog 40 #[v] w fun e w' => ∃ t : ByteArray, e = .returned (.string t) ∧ t.toList = setBytes l ∧ Ext w w' := by
  have HK := hid (setcheck_any v l w n0 ad hE h)
  have HS := hid h
  rw [errv_no hk] at HK
  have hl1000 := srt_few hk
  have Hin := hid (chkE_zero.1 hk).1
  have HT := hid hT
  have HJl := hid hj
  have hml := h.len
  obtain ⟨a, cap, rfl, h2, h3, h4, _⟩ := id h
  clear hE h2 h3 h4 hk hT hj h
  go_enter Tryz.func40, Tryz.ntmps40
  go_wp2_with fail
  refine HK.out.mono ?_
  intro e w1 hx
  obtain ⟨rfl, hx1⟩ := hx
  have Hx1 := hid hx1
  clear HK hx1
  go_wp2
  go_loopw [3, 11] (fun t3 t11 wr => ∃ (k : Nat) (vs : List Value), t11 = .int .i64 (k : Int) ∧ k ≤ l.length ∧ vs = (numsS (l.take k)).map .string ∧ wr.ownsRow w.heap.size 9 1 t3 k vs ∧ Ext w wr) (fun _ t11 _ => l.length - (intOf t11).toNat)
  case atStart => exact ⟨0, [], rfl, Nat.zero_le _, rfl, World.ownsRow_nil _ _ _ _, Hx1.out⟩
  case round =>
    obtain ⟨k, vs, rfl, hk, hvs, hr, hx⟩ := hrel
    obtain ⟨a3, c3, rfl⟩ := row_form hr
    have Hr := hid hr
    have Hx := hid hx
    have Hvs := hid hvs
    clear hr hx hvs
    by_cases hlt : k < l.length
    · obtain ⟨y, q, hy, hq, hc⟩ := (HS.out.old (Hx.out.old n0)).at hlt
      subst hy
      have hqr := Hin.out q (List.mem_of_getElem? hq)
      have HI := hid (Tryz.strconv_Itoa q (by omega) (by omega) wr (HT.out wr Hx.out))
      have Hn := hid (numsS_next hq)
      clear hq
      go_wp2_with fail
      refine HI.out.mono ?_
      intro e w2 hx
      obtain ⟨rfl, dk, os, hw2⟩ := hx
      have hx2 : Ext wr w2 := by rw [hw2]; exact Lib.below_grow _ wr (Nat.le_refl _) dk os
      have Hx2 := hid (Hx.out.trans hx2)
      have Hr2 := hid (own_ext Hr.out hx2)
      obtain ⟨d, hd⟩ : ∃ d : ByteArray, d = ⟨(Lib.itoa q).toArray⟩ := ⟨_, rfl⟩
      rw [← hd]
      have Hn2 : Hid ((numsS (l.take (k + 1))).map Value.string = vs ++ [.string d]) := hid (by rw [hd, Hn.out, Hvs.out]; rfl)
      have hxa : Hid (Ext w (w2.alloc (.cells #[.string d] 9))) := hid (Hx2.out.alloc _)
      have Hra := hid (own_ext Hr2.out ((Ext.refl w2).alloc (.cells #[.string d] 9)))
      clear HI hd hw2 hx2 hc
      go_wp2_with (at_builtin; refine wpList_append_el w.heap.size hxa.out.size 22 9 (.string ⟨#[]⟩) 1 16 Tryz.underlying22 str_info rfl (by omega) (by omega) rfl _ _ rfl (.slice a3 k c3) k vs rfl Hra.out w2.heap.size [.string d] rfl (by simp [Value.oneCell']) rfl (Blk.new _ _ _) (by omega) ?_; intro v' w' h1 h2 h4; obtain ⟨a', c', rfl⟩ := row_form h1; have h3 := hid (Keep.new hxa.out h2 (fun k hk => (World.ownsRow.lt Hra.out k hk).1)); have h1 := hid h1; clear h2 h4)
      go_roundw
      case rel => exact ⟨k + 1, _, by go_num, by omega, rfl, by rw [Hn2.out]; exact h1.out, h3.out⟩
      case measure => simp [intOf]; omega
    · obtain rfl : k = l.length := by omega
      have hfull : vs = (numsS l).map .string := by rw [Hvs.out, List.take_of_length_le (Nat.le_refl _)]
      have hnl : (numsS l).length = l.length := by unfold numsS; rw [List.length_map]
      rcases Nat.eq_zero_or_pos l.length with h0 | h0
      · have hle : l = [] := List.eq_nil_of_length_eq_zero h0
        have HJ := hid (show Calls Tryz.prog 96 #[.slice a3 l.length c3, .string ⟨#[44]⟩] wr (fun e w' => e = .returned (.string ⟨#[]⟩) ∧ w' = wr) by rw [h0]; exact Tryz.strings_Join_none a3 c3 ⟨#[44]⟩ wr)
        have Hle := hid hle
        clear hfull hnl hle h0 hk hlt
        go_wp2_with fail
        refine HJ.out.mono ?_
        intro e w2 hx
        obtain ⟨rfl, rfl⟩ := hx
        clear HJ
        go_wp2
        refine bodyPost_ret (v := .string (⟨#[123]⟩ ++ ⟨#[]⟩ ++ ⟨#[125]⟩)) (by simp [results, Tryz.results40, go_sem]) rfl ?_
        refine ⟨_, rfl, ?_, Hx.out⟩
        rw [Hle.out]
        decide +kernel
      · obtain ⟨g, cp, e1⟩ := own_some Hr.out h0
        simp only [Value.slice.injEq, true_and] at e1
        obtain ⟨rfl, rfl⟩ := e1
        obtain ⟨cc, hcc⟩ := own_ty Hr.out (k := g) rfl
        have hcap : l.length ≤ c3 := by
          rcases Hr.out.2 with ⟨h, _⟩ | ⟨g', cap', cur, h, _, _, h5, _⟩
          · simp at h
          · simp only [Value.slice.injEq] at h; omega
        have HJ := hid (Tryz.strings_Join g 0 c3 (numsS l) ⟨#[44]⟩ wr (fun j x hj => by
          rw [Nat.zero_add]
          exact own_get Hr.out j (by rw [hfull, List.getElem?_map, hj]; rfl)) hcc.lt (by omega) (by omega) (by have := HJl.out; exact Nat.le_trans this (by decide)))
        rw [hnl] at HJ
        obtain ⟨jn, hjn⟩ : ∃ jn : ByteArray, jn = ⟨(Lib.join ((numsS l).map (·.data.toList)) (⟨#[44]⟩ : ByteArray).data.toList).toArray⟩ := ⟨_, rfl⟩
        rw [← hjn] at HJ
        have Hjn := hid hjn
        have hjs : jn.size ≤ 1000000 := by
          rw [hjn]
          have := HJl.out
          show (Lib.join ((numsS l).map (·.data.toList)) (⟨#[44]⟩ : ByteArray).data.toList).toArray.size ≤ _
          rw [List.size_toArray]
          exact this
        clear hcc hcap hfull hnl hjn
        go_wp2_with fail
        refine HJ.out.mono ?_
        intro e w2 hx
        obtain ⟨rfl, hx2⟩ := hx
        have Hx2 := hid (Hx.out.trans hx2)
        clear HJ hx2
        go_wp2
        refine bodyPost_ret (v := .string (⟨#[123]⟩ ++ jn ++ ⟨#[125]⟩)) (by simp [results, Tryz.results40, go_sem]) rfl ?_
        refine ⟨_, rfl, ?_, Hx2.out⟩
        rw [Hjn.out]
        unfold setBytes
        rw [toList_append2, toList_append2, toList_mk, toList_mk, toList_mk]
        simp
def dg (k : Nat) : ByteArray := ⟨(Lib.decDigits (k + 1)).toArray⟩
def dgs (k : Nat) : List ByteArray := (List.range k).map dg
theorem dgs_succ (k : Nat) : (dgs (k + 1)).map Value.string = (dgs k).map Value.string ++ [.string (dg k)] := by
  unfold dgs; rw [List.range_succ]; simp
theorem dgs_len (k : Nat) : (dgs k).length = k := by simp [dgs]
theorem join_eq : (⟨(Lib.join ((dgs 3).map (·.data.toList)) (⟨#[44]⟩ : ByteArray).data.toList).toArray⟩ : ByteArray) = ⟨#[49, 44, 50, 44, 51]⟩ := by decide +kernel
theorem chk123 : chkE [1, 2, 3] = 0 := by decide
set_option maxRecDepth 100000 in
set_option maxHeartbeats 1600000 in
theorem settext_123 (v : Value) (w : World) (n0 : Nat) (ad : Nat → Addr) (hE : ErrS w ad) (h : IntsR w n0 v [1, 2, 3]) :
    Calls Tryz.prog 40 #[v] w fun e w' => e = .returned (.string ⟨#[123, 49, 44, 50, 44, 51, 125]⟩) ∧ Ext w w' := by
  have HK := hid (setcheck_any v [1, 2, 3] w n0 ad hE h)
  have HS := hid h
  rw [errv_no chk123] at HK
  obtain ⟨a, cap, rfl, h2, h3, h4, _⟩ := h
  simp only [List.length_cons, List.length_nil, Nat.zero_add, Nat.reduceAdd] at HK HS h2 h4 ⊢
  have H4 := hid h4
  have hel : ∀ k : Nat, k < 3 → ([1, 2, 3] : List Int)[k]? = some ((k : Int) + 1) := fun k hk => by
    rcases (by omega : k = 0 ∨ k = 1 ∨ k = 2) with rfl | rfl | rfl <;> rfl
  have Hel := hid hel
  have H3 : Hid (∀ (l : List Int), l = [1, 2, 3] → l.length = 3) := hid fun l e => by rw [e]; rfl
  obtain ⟨y, rfl⟩ := H4.out (by decide)
  clear hE h2 h3 h4 hel H4
  go_enter Tryz.func40, Tryz.ntmps40
  go_wp2_with fail
  refine HK.out.mono ?_
  intro e w1 hx
  obtain ⟨rfl, hx1⟩ := hx
  have Hx1 := hid hx1
  clear HK hx1
  go_wp2
  go_loopw [3, 11] (fun t3 t11 wr => ∃ k : Nat, t11 = .int .i64 (k : Int) ∧ k ≤ 3 ∧ wr.ownsRow w.heap.size 9 1 t3 k ((dgs k).map .string) ∧ Ext w wr) (fun _ t11 _ => 3 - (intOf t11).toNat)
  case atStart => exact ⟨0, rfl, Nat.zero_le _, World.ownsRow_nil _ _ _ _, Hx1.out⟩
  case round =>
    obtain ⟨k, rfl, hk, hr, hx⟩ := hrel
    obtain ⟨a3, c3, rfl⟩ := row_form hr
    have Hr := hid hr
    have Hx := hid hx
    clear hr
    by_cases hlt : k < 3
    · obtain ⟨a', cap', h1, _, _, _, h5⟩ := HS.out.old (hx.old n0)
      obtain ⟨rfl, rfl⟩ : some y = a' ∧ cap = cap' := by simpa using h1
      have hc := (h5 y rfl (by decide)).2 k hlt _ (Hel.out k hlt)
      have HI := fun w1 => hid (Tryz.strconv_Itoa_small (k + 1) (by omega) w1)
      have HI1 := HI wr
      rw [show ((k + 1 : Nat) : Int) = (k : Int) + 1 from by omega] at HI1
      clear h1 h5 hx HI
      go_wp2_with fail
      refine HI1.out.mono ?_
      intro e w2 hx
      obtain ⟨rfl, rfl⟩ := hx
      obtain ⟨d, hd⟩ : ∃ d : ByteArray, d = ⟨(Lib.decDigits (k + 1)).toArray⟩ := ⟨_, rfl⟩
      rw [← hd]
      have Hn : Hid ((dgs (k + 1)).map Value.string = (dgs k).map Value.string ++ [.string d]) := hid (by rw [hd]; exact dgs_succ k)
      have hxa : Hid (Ext w (w2.alloc (.cells #[.string d] 9))) := hid (Hx.out.alloc _)
      have Hra := hid (own_ext Hr.out ((Ext.refl w2).alloc (.cells #[.string d] 9)))
      clear HI1 hd
      go_wp2_with (at_builtin; refine wpList_append_el w.heap.size hxa.out.size 22 9 (.string ⟨#[]⟩) 1 16 Tryz.underlying22 str_info rfl (by omega) (by omega) rfl _ _ rfl (.slice a3 k c3) k ((dgs k).map .string) rfl Hra.out w2.heap.size [.string d] rfl (by simp [Value.oneCell']) rfl (Blk.new _ _ _) (by omega) ?_; intro v' w' h1 h2 h4; obtain ⟨a', c', rfl⟩ := row_form h1; have h3 := hid (Keep.new hxa.out h2 (fun k hk => (World.ownsRow.lt Hra.out k hk).1)); have h1 := hid h1; clear h2 h4)
      go_roundw
      case rel => exact ⟨k + 1, by go_num, by omega, by rw [Hn.out]; exact h1.out, h3.out⟩
      case measure => simp [intOf]; omega
    · obtain rfl : k = 3 := by omega
      obtain ⟨g, cp, e1⟩ := own_some Hr.out (by omega)
      simp only [Value.slice.injEq, true_and] at e1
      obtain ⟨rfl, rfl⟩ := e1
      obtain ⟨cc, hcc⟩ := own_ty Hr.out (k := g) rfl
      have hcap : 3 ≤ c3 := by
        rcases Hr.out.2 with ⟨h, _⟩ | ⟨g', cap', cur, h, _, _, h5, _⟩
        · simp at h
        · simp only [Value.slice.injEq] at h; omega
      have HJ := hid (Tryz.strings_Join g 0 c3 (dgs 3) ⟨#[44]⟩ wr (fun j x hj => by
        rw [Nat.zero_add]
        exact own_get Hr.out j (by rw [List.getElem?_map, hj]; rfl)) hcc.lt (by rw [dgs_len]; omega) (by rw [dgs_len]; exact hcap) (by decide +kernel))
      rw [join_eq, dgs_len] at HJ
      clear hcc hcap hx
      go_wp2_with fail
      refine HJ.out.mono ?_
      intro e w2 hx
      obtain ⟨rfl, hx2⟩ := hx
      have Hx2 := hid (Hx.out.trans hx2)
      clear HJ hx2
      go_wp2
      go_ret
      exact ⟨rfl, Hx2.out⟩
theorem both13 : bothE [1, 3] [2, 3] = 0 := by decide
theorem sset13 : sset ([1, 3] ++ [2, 3]) = [1, 2, 3] := by decide +kernel
set_option maxRecDepth 100000 in
set_option maxHeartbeats 1600000 in
theorem united_any (w : World) (ad : Nat → Addr) (hE : ErrS w ad) :
    Calls Tryz.prog 33 #[] w fun e w' => e = .returned (.bool true) ∧ Ext w w' := by
  obtain ⟨W1, hW1⟩ : ∃ W1, W1 = w.alloc (.cells #[.int .i64 1, .int .i64 3] 3) := ⟨_, rfl⟩
  obtain ⟨W2, hW2⟩ : ∃ W2, W2 = W1.alloc (.cells #[.int .i64 2, .int .i64 3] 3) := ⟨_, rfl⟩
  have x1 : Ext w W1 := by rw [hW1]; exact (Ext.refl _).alloc _
  have x2 : Ext W1 W2 := by rw [hW2]; exact (Ext.refl _).alloc _
  have s1 : W1.heap.size = w.heap.size + 1 := by rw [hW1, heap_size_alloc]
  have b1 : Blk W2 w.heap.size #[.int .i64 1, .int .i64 3] 3 := by
    have : Blk W1 w.heap.size #[.int .i64 1, .int .i64 3] 3 := by rw [hW1]; exact Blk.new _ _ _
    exact this.ext x2
  have b2 : Blk W2 (w.heap.size + 1) #[.int .i64 2, .int .i64 3] 3 := by rw [← s1, hW2]; exact Blk.new _ _ _
  have HU := hid (setunion_any (.slice (some ⟨w.heap.size, 0, none⟩) 2 2) (.slice (some ⟨w.heap.size + 1, 0, none⟩) 2 2) [1, 3] [2, 3] W2 W2.heap.size ad (hE.ext (x1.trans x2)) (IntsR.blk (l := [1, 3]) b1 rfl (by decide)) (IntsR.blk (l := [2, 3]) b2 rfl (by decide)) (by decide) (by decide))
  rw [sset13] at HU
  have HX := hid (x1.trans x2)
  have HE := hid hE
  have HW : Hid (W2 = (w.alloc (.cells #[.int .i64 1, .int .i64 3] 3)).alloc (.cells #[.int .i64 2, .int .i64 3] 3)) := hid (by rw [hW2, hW1])
  clear hW1 hW2 x1 x2 s1 b1 b2 hE
  go_enter Tryz.func33, Tryz.ntmps33
  go_wp2_with fail
  rw [← HW.out]
  refine HU.out.mono ?_
  intro e w3 hx
  obtain ⟨t3, rfl, ht, hx3⟩ := hx
  obtain ⟨v3, rfl, hr3⟩ : ∃ v, t3 = .tuple #[v, .nilIface] ∧ IRow W2.heap.size w3 v [1, 2, 3] := by
    rcases ht with ⟨_, h⟩ | ⟨h, _⟩
    · exact h
    · exact absurd both13 h
  obtain ⟨a3, c3, rfl⟩ := hr3.form
  simp only [List.length_cons, List.length_nil, Nat.zero_add, Nat.reduceAdd] at hr3 ⊢
  have Hx3 := hid (HX.out.trans hx3)
  obtain ⟨W4, hW4⟩ : ∃ W4, W4 = w3.alloc (.cells #[.int .i64 1, .int .i64 2, .int .i64 3] 3) := ⟨_, rfl⟩
  have x4 : Ext w3 W4 := by rw [hW4]; exact (Ext.refl _).alloc _
  have b4 : Blk W4 w3.heap.size #[.int .i64 1, .int .i64 2, .int .i64 3] 3 := by rw [hW4]; exact Blk.new _ _ _
  have hle : ∀ i, ([1, 2, 3] : List Int).getD i 0 ≤ 9223372036854775807 := fun i => by
    rcases i with _ | _ | _ | i <;> simp
  have HSm := hid (sameints_any a3 (some ⟨w3.heap.size, 0, none⟩) 3 3 c3 3 [1, 2, 3] [1, 2, 3] W4 (show Ints W4 a3 3 [1, 2, 3] from (hr3.ext x4).ints hle) (show Ints W4 (some ⟨w3.heap.size, 0, none⟩) 3 [1, 2, 3] from (IntsR.blk (l := [1, 2, 3]) b4 rfl (by decide)).ints hle) (by decide) (by decide))
  rw [decide_eq_true (rfl : ([1, 2, 3] : List Int) = [1, 2, 3])] at HSm
  have HT := fun w5 (x : Ext w3 w5) => hid (settext_123 (.slice a3 3 c3) w5 w5.heap.size ad (HE.out.ext (Hx3.out.trans x)) (IntsR.own (hr3.ext x) (Nat.le_refl _)))
  have HX4 := hid x4
  have HW4 := hid hW4
  clear HU ht hx3 hr3 hW4 x4 b4 hle
  go_wp2_with fail
  rw [← HW4.out]
  refine HSm.out.mono ?_
  intro e w5 hx
  obtain ⟨rfl, hx5⟩ := hx
  have HT5 := HT w5 (HX4.out.trans hx5)
  have Hx5 := hid (Hx3.out.trans (HX4.out.trans hx5))
  clear HSm HT hx5
  go_wp2_with fail
  refine HT5.out.mono ?_
  intro e w6 hx
  obtain ⟨rfl, hx6⟩ := hx
  have Hx6 := hid (Hx5.out.trans hx6)
  clear HT5 hx6
  go_wp2
  go_ret
  exact ⟨rfl, Hx6.out⟩
end Go.Proofs.YtbagppdibncfdaaGreatDoor
