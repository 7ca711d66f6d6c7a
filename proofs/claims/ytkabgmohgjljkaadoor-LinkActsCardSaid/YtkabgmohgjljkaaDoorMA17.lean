/- Texts of one proof, put together: SE PC CD SA Par2. -/
import Derived.Test.YtkabgmohgjljkaaDoorMA01
import Derived.Test.YtkabgmohgjljkaaDoorMA03
import Derived.Test.YtkabgmohgjljkaaDoorMA04
import Derived.Test.YtkabgmohgjljkaaDoorMA16
import Derived.Test.YtkabgmohgjljkaaDoorProg
import Derived.Stop.LaidErr
import Derived.Stop.ErrReads
import Derived.Stop.Joined
import Derived.MakeChecks
import Derived.LaidSub
import Derived.LaidHandle

/- The errors that lie listed: each a pointer of its own to a text. -/
namespace Go.Proofs.YtkabgmohgjljkaaDoor
set_option linter.unusedSimpArgs false
set_option linter.unusedVariables false
open Go Go.RowKit Go.ChangeShapes

theorem errStar : "*" ++ "errors.errorString" = "*errors.errorString" := by decide
theorem errRow (u : TypeId) (h : Tryd.prog.typeName? 3 u = some "*errors.errorString") : u = 197 :=
  typeName_ptr_named (nm := "errors.errorString") (by rw [errStar]; kernel_rfl) (by kernel_rfl) (by decide) u (by rw [errStar]; exact h)
theorem errCells : Tryd.prog.cellsOf 218 = 1 := by kernel_rfl
theorem strCells : Tryd.prog.cellsOf 9 = 1 := by kernel_rfl

/-- The variable g holds an error whose text lies at a. -/
structure SentAt (W : World) (g : Nat) (a : Addr) : Prop where
  var : W.cell? ⟨g, 0, none⟩ = some (.iface 197 (.pointer (some a)))
  row : ∃ c t, W.heap[a.block]? = some (.cells c t (0, 0))
  text : ∃ s, W.cell? a = some (.string s)
def sentD (t : List UInt8) : DataW Unit := .iface "*errors.errorString" (.ptr (.agg [.lit (.string t)]))

set_option maxRecDepth 100000 in
theorem sents_of {W : World} : ∀ (l : List (String × Nat × List UInt8)) (ps : List MemPlace), DataW.LaidVars Tryd.prog W (l.map fun x => (x.1, sentD x.2.2)) ps → ps.Nodup →
    (∀ b off, MemPlace.cell b off ∈ ps → (∃ c t, W.heap[b]? = some (.cells c t (0, 0))) ∧ ∀ u v, W.cell? ⟨b, off, none⟩ = some (.iface u v) → Value.okWide Tryd.prog W .any 0 u v) →
    (∀ x ∈ l, Tryd.prog.globalNamed x.1 = some x.2.1 ∧ (Tryd.prog.globals[x.2.1]?).map (·.type) = some 27) →
    ∃ pa : List Addr, pa.length = l.length ∧ (∀ (i : Nat) (x : String × Nat × List UInt8) (a : Addr), l[i]? = some x → pa[i]? = some a → SentAt W x.2.1 a) ∧ pa.Nodup ∧ ∀ a ∈ pa, MemPlace.cell a.block a.off ∈ ps
  | [], ps, _, _, _, _ => ⟨[], rfl, fun i x a h => by simp at h, List.nodup_nil, fun a h => by simp at h⟩
  | (n, k, tx) :: r, ps, h, hnd, hrows, hg => by
    obtain ⟨g, t, cs, fuel, p, q, hg0, ht0, hv0, hd0, hq, rfl⟩ := h
    obtain ⟨hk1, hk2⟩ := hg (n, k, tx) (by simp)
    obtain rfl := Option.some.inj (hk1.symm.trans hg0)
    obtain rfl := Option.some.inj (hk2.symm.trans ht0)
    obtain ⟨l0⟩ := cs
    have ok0 : ∀ u v, l0 = [.iface u v] → Value.okWide Tryd.prog W .any 0 u v := fun u v e => by
      subst e
      exact (hrows k 0 (by simp [MemPlace.row])).2 u v (by simpa using World.var?_cell hk1 hv0 0)
    obtain ⟨a0, s0, rfl, hc0, hs0, hz0, rfl⟩ := errorString_of_trod Tryd.underlying27 errRow Tryd.underlying197 Tryd.underlying218 rfl rfl Tryd.underlying9 errCells strCells hd0 ok0
    have hnd' := hnd
    rw [List.append_assoc] at hnd'
    have hq' : q.Nodup := (List.nodup_append.1 (List.nodup_append.1 hnd').2.1).2.1
    obtain ⟨pa, e1, e2, e3, e4⟩ := sents_of r q hq hq' (fun b off hm => hrows b off (List.mem_append_right _ hm)) (fun x hx => hg x (List.mem_cons_of_mem _ hx))
    have hin : MemPlace.cell a0.block a0.off ∈ MemPlace.row a0 1 := by simp [MemPlace.row]
    refine ⟨a0 :: pa, by simp [e1], ?_, ?_, ?_⟩
    · intro i x a hx ha
      cases i with
      | zero =>
        simp only [List.getElem?_cons_zero, Option.some.injEq] at hx ha
        subst hx ha
        exact ⟨by simpa using World.var?_cell hk1 hv0 0, (hrows a0.block a0.off (by simp [hin])).1, s0, hc0⟩
      | succ i =>
        simp only [List.getElem?_cons_succ] at hx ha
        exact e2 i x a hx ha
    · refine List.nodup_cons.2 ⟨fun hm => ?_, e3⟩
      have h1 := e4 a0 hm
      have h2 := (List.nodup_append.1 (List.nodup_append.1 hnd').2.1).2.2 _ hin _ h1
      exact h2 rfl
    · intro a ha
      rcases List.mem_cons.1 ha with rfl | ha
      · simp [hin]
      · simp [e4 a ha]

theorem sents_met {W : World} (l : List (String × Nat × List UInt8)) (h : laidMet Tryd.prog (l.map fun x => (x.1, sentD x.2.2)) W) (hg : ∀ x ∈ l, Tryd.prog.globalNamed x.1 = some x.2.1 ∧ (Tryd.prog.globals[x.2.1]?).map (·.type) = some 27) :
    ∃ pa : List Addr, pa.length = l.length ∧ (∀ (i : Nat) (x : String × Nat × List UInt8) (a : Addr), l[i]? = some x → pa[i]? = some a → SentAt W x.2.1 a) ∧ pa.Nodup := by
  obtain ⟨ps, h1, h2, h3⟩ := h
  obtain ⟨pa, e1, e2, e3, _⟩ := sents_of l ps h1 h2 h3 hg
  exact ⟨pa, e1, e2, e3⟩
/-- The errors' rows, by their numbers. -/
def sRow : Nat → String × Nat × List UInt8
  | 1 => ("fingerpost/api.ErrText", 4, [102, 105, 110, 103, 101, 114, 112, 111, 115, 116, 58, 32, 116, 101, 120, 116])
  | 2 => ("fingerpost/api.ErrBound", 3, [102, 105, 110, 103, 101, 114, 112, 111, 115, 116, 58, 32, 98, 111, 117, 110, 100])
  | 3 => ("fingerpost/api.ErrShape", 2, [102, 105, 110, 103, 101, 114, 112, 111, 115, 116, 58, 32, 115, 104, 97, 112, 101])
  | 4 => ("fingerpost/api.ErrKind", 0, [102, 105, 110, 103, 101, 114, 112, 111, 115, 116, 58, 32, 107, 105, 110, 100])
  | 5 => ("fingerpost/api.ErrName", 5, [102, 105, 110, 103, 101, 114, 112, 111, 115, 116, 58, 32, 110, 97, 109, 101])
  | 6 => ("fingerpost/api.ErrNone", 6, [102, 105, 110, 103, 101, 114, 112, 111, 115, 116, 58, 32, 110, 111, 110, 101])
  | 7 => ("fingerpost/api.ErrExist", 7, [102, 105, 110, 103, 101, 114, 112, 111, 115, 116, 58, 32, 101, 120, 105, 115, 116])
  | 8 => ("fingerpost/api.ErrFull", 1, [102, 105, 110, 103, 101, 114, 112, 111, 115, 116, 58, 32, 102, 117, 108, 108])
  | 9 => ("fingerpost/api.ErrArgs", 8, [102, 105, 110, 103, 101, 114, 112, 111, 115, 116, 58, 32, 97, 114, 103, 115])
  | 10 => ("fingerpost/api.ErrOrder", 9, [102, 105, 110, 103, 101, 114, 112, 111, 115, 116, 58, 32, 111, 114, 100, 101, 114])
  | 11 => ("fingerpost/api.ErrSum", 10, [102, 105, 110, 103, 101, 114, 112, 111, 115, 116, 58, 32, 115, 117, 109])
  | _ => ("", 0, [])
theorem sRow_ok {c : Nat} (h1 : 1 ≤ c) (h2 : c ≤ 11) : Tryd.prog.globalNamed (sRow c).1 = some (sRow c).2.1 ∧ (Tryd.prog.globals[(sRow c).2.1]?).map (·.type) = some 27 := by
  rcases (by omega : c = 1 ∨ c = 2 ∨ c = 3 ∨ c = 4 ∨ c = 5 ∨ c = 6 ∨ c = 7 ∨ c = 8 ∨ c = 9 ∨ c = 10 ∨ c = 11) with rfl | rfl | rfl | rfl | rfl | rfl | rfl | rfl | rfl | rfl | rfl <;> exact ⟨by kernel_rfl, by kernel_rfl⟩
theorem sRow_g {c : Nat} (h1 : 1 ≤ c) (h2 : c ≤ 11) : (sRow c).2.1 = gE c := by
  rcases (by omega : c = 1 ∨ c = 2 ∨ c = 3 ∨ c = 4 ∨ c = 5 ∨ c = 6 ∨ c = 7 ∨ c = 8 ∨ c = 9 ∨ c = 10 ∨ c = 11) with rfl | rfl | rfl | rfl | rfl | rfl | rfl | rfl | rfl | rfl | rfl <;> rfl
def sentL (codes : List Nat) : List (String × DataW Unit) := codes.map fun c => ((sRow c).1, sentD (sRow c).2.2)
theorem sent_noHandle (t : List UInt8) : (sentD t).handleName? = none := by
  unfold sentD DataW.handleName?
  simp
theorem met_plain {W : World} {codes : List Nat} (h : laidMetH Tryd.prog (sentL codes) W) : laidMet Tryd.prog (sentL codes) W := by
  have h1 := (laidMetH_iff.1 h).1
  rw [List.filter_eq_self.2 fun x hx => by
    obtain ⟨c, _, rfl⟩ := List.mem_map.1 hx
    simp [sent_noHandle]] at h1
  exact h1
/-- The errors' values. -/
def evOf (ad : Nat → Addr) (c : Nat) : Value := .iface 197 (.pointer (some (ad c)))
theorem evOf_iface (ad : Nat → Addr) : ∀ c, c ≠ 0 → ∃ t v, evOf ad c = .iface t v := fun _ _ => ⟨_, _, rfl⟩
/-- What a list of errors gives. -/
theorem sents_ad {W : World} (codes : List Nat) (hc : ∀ c ∈ codes, 1 ≤ c ∧ c ≤ 11) (h : laidMet Tryd.prog (sentL codes) W) :
    ∃ ad : Nat → Addr, (∀ c ∈ codes, SentAt W (gE c) (ad c)) ∧ ∀ c ∈ codes, ∀ d ∈ codes, ad c = ad d → c = d := by
  obtain ⟨pa, h1, h2, h3⟩ := sents_met (codes.map sRow) (by simpa [sentL, List.map_map, Function.comp_def] using h) (fun x hx => by
    obtain ⟨c, hm, rfl⟩ := List.mem_map.1 hx
    exact sRow_ok (hc c hm).1 (hc c hm).2)
  rw [List.length_map] at h1
  have hix : ∀ c ∈ codes, ∃ a, pa[codes.idxOf c]? = some a := fun c hm => by
    have := List.idxOf_lt_length_of_mem hm
    exact ⟨_, List.getElem?_eq_getElem (by omega)⟩
  refine ⟨fun c => (pa[codes.idxOf c]?).getD ⟨0, 0, none⟩, fun c hm => ?_, fun c hm d hd e => ?_⟩
  · obtain ⟨a, ha⟩ := hix c hm
    have hi := List.idxOf_lt_length_of_mem hm
    have := h2 (codes.idxOf c) (sRow c) a (by rw [List.getElem?_map, List.getElem?_eq_getElem hi]; simp) ha
    rw [sRow_g (hc c hm).1 (hc c hm).2] at this
    simp only [ha, Option.getD_some]
    exact this
  · obtain ⟨a, ha⟩ := hix c hm
    obtain ⟨b, hb⟩ := hix d hd
    simp only [ha, hb, Option.getD_some] at e
    subst e
    have l1 := List.idxOf_lt_length_of_mem hm
    have l2 := List.idxOf_lt_length_of_mem hd
    have hii : codes.idxOf c = codes.idxOf d := (List.getElem?_inj (by omega) h3).1 (ha.trans hb.symm)
    have g1 : codes[codes.idxOf c]'l1 = c := by simp
    have g2 : codes[codes.idxOf d]'l2 = d := by simp
    rw [← g1, ← g2]
    congr 1
end Go.Proofs.YtkabgmohgjljkaaDoor


/- plain.Code walked: an error's number, and its place. -/
namespace Go.Proofs.YtkabgmohgjljkaaDoor
set_option linter.unusedSimpArgs false
set_option linter.unusedVariables false
open Go Go.RowKit

/-- All errors lie as they were laid. -/
structure AllErrs (w : World) (ad : Nat → Addr) : Prop where
  var : ∀ c, 1 ≤ c ∧ c ≤ 11 → w.cell? ⟨gE c, 0, none⟩ = some (.iface 197 (.pointer (some (ad c))))
  row : ∀ c, 1 ≤ c ∧ c ≤ 11 → ∃ cs t, w.heap[(ad c).block]? = some (.cells cs t (0, 0))
  inj : ∀ c d, 1 ≤ c ∧ c ≤ 11 → 1 ≤ d ∧ d ≤ 11 → ad c = ad d → c = d
  ty : w.cell? ⟨11, 0, none⟩ = some (.iface 159 (.agg #[.pointer (some ⟨15, 27, none⟩)]))
theorem AllErrs.at1 {w : World} {ad : Nat → Addr} (h : AllErrs w ad) : w.cell? ⟨4, 0, none⟩ = some (.iface 197 (.pointer (some (ad 1)))) := h.var 1 (by omega)
theorem AllErrs.at2 {w : World} {ad : Nat → Addr} (h : AllErrs w ad) : w.cell? ⟨3, 0, none⟩ = some (.iface 197 (.pointer (some (ad 2)))) := h.var 2 (by omega)
theorem AllErrs.at3 {w : World} {ad : Nat → Addr} (h : AllErrs w ad) : w.cell? ⟨2, 0, none⟩ = some (.iface 197 (.pointer (some (ad 3)))) := h.var 3 (by omega)
theorem AllErrs.at4 {w : World} {ad : Nat → Addr} (h : AllErrs w ad) : w.cell? ⟨0, 0, none⟩ = some (.iface 197 (.pointer (some (ad 4)))) := h.var 4 (by omega)
theorem AllErrs.at5 {w : World} {ad : Nat → Addr} (h : AllErrs w ad) : w.cell? ⟨5, 0, none⟩ = some (.iface 197 (.pointer (some (ad 5)))) := h.var 5 (by omega)
theorem AllErrs.at6 {w : World} {ad : Nat → Addr} (h : AllErrs w ad) : w.cell? ⟨6, 0, none⟩ = some (.iface 197 (.pointer (some (ad 6)))) := h.var 6 (by omega)
theorem AllErrs.at7 {w : World} {ad : Nat → Addr} (h : AllErrs w ad) : w.cell? ⟨7, 0, none⟩ = some (.iface 197 (.pointer (some (ad 7)))) := h.var 7 (by omega)
theorem AllErrs.at8 {w : World} {ad : Nat → Addr} (h : AllErrs w ad) : w.cell? ⟨1, 0, none⟩ = some (.iface 197 (.pointer (some (ad 8)))) := h.var 8 (by omega)
theorem AllErrs.at9 {w : World} {ad : Nat → Addr} (h : AllErrs w ad) : w.cell? ⟨8, 0, none⟩ = some (.iface 197 (.pointer (some (ad 9)))) := h.var 9 (by omega)
theorem AllErrs.at10 {w : World} {ad : Nat → Addr} (h : AllErrs w ad) : w.cell? ⟨9, 0, none⟩ = some (.iface 197 (.pointer (some (ad 10)))) := h.var 10 (by omega)
theorem AllErrs.at11 {w : World} {ad : Nat → Addr} (h : AllErrs w ad) : w.cell? ⟨10, 0, none⟩ = some (.iface 197 (.pointer (some (ad 11)))) := h.var 11 (by omega)
theorem AllErrs.ext {w w' : World} {ad : Nat → Addr} (h : AllErrs w ad) (x : Ext w w') : AllErrs w' ad :=
  ⟨fun c hc => x.cellx (h.var c hc), fun c hc => by obtain ⟨cs, t, e⟩ := h.row c hc; exact ⟨cs, t, x.get e⟩, h.inj, x.cellx h.ty⟩
/-- What errors.Is tells of e: it is the one with the number c, or none. -/
def IsAs (w : World) (ad : Nat → Addr) (e : Value) (c : Nat) : Prop := ∀ w', Ext w w' → ∀ d, 1 ≤ d ∧ d ≤ 11 → Calls Tryd.prog 50 #[e, .iface 197 (.pointer (some (ad d)))] w' fun r w'' => r = .returned (.bool (decide (d = c))) ∧ w' = w''
theorem IsAs.sent {w : World} {ad : Nat → Addr} (h : AllErrs w ad) (c : Nat) (hc : 1 ≤ c ∧ c ≤ 11) : IsAs w ad (.iface 197 (.pointer (some (ad c)))) c := by
  intro w' x d hd
  by_cases e : d = c
  · subst e
    rw [decide_eq_true rfl]
    exact is_same (ad d) w'
  · rw [decide_eq_false e]
    have h' := h.ext x
    obtain ⟨c1, t1, e1⟩ := h'.row c hc
    obtain ⟨c2, t2, e2⟩ := h'.row d hd
    exact is_other (ad c) (ad d) c1 c2 t1 t2 w' (fun e' => e (h.inj d c hd hc e'.symm)) e1 e2
theorem IsAs.fault {w : World} {ad : Nat → Addr} (h : AllErrs w ad) (c : Nat) (hc : 1 ≤ c ∧ c ≤ 11) (b : Nat) (hb : w.cell? ⟨b, 1, none⟩ = some (.iface 197 (.pointer (some (ad c))))) : IsAs w ad (.iface 114 (.pointer (some ⟨b, 0, none⟩))) c := by
  intro w' x d hd
  by_cases e : d = c
  · subst e
    rw [decide_eq_true rfl]
    exact is_wrap_same b (ad d) w' (x.cellx hb)
  · rw [decide_eq_false e]
    have h' := h.ext x
    obtain ⟨c1, t1, e1⟩ := h'.row c hc
    obtain ⟨c2, t2, e2⟩ := h'.row d hd
    exact is_wrap_other b (ad d) (ad c) c1 c2 t1 t2 w' (x.cellx hb) (fun e' => e (h.inj d c hd hc e'.symm)) e1 e2
/-- One that is none of them. -/
theorem IsAs.none {w : World} {ad : Nat → Addr} (h : AllErrs w ad) (a : Addr) (ha : ∃ cs t, w.heap[a.block]? = some (.cells cs t (0, 0))) (hne : ∀ c, 1 ≤ c ∧ c ≤ 11 → a ≠ ad c) : IsAs w ad (.iface 197 (.pointer (some a))) 0 := by
  intro w' x d hd
  rw [decide_eq_false (by omega)]
  obtain ⟨c1, t1, e1⟩ := ha
  obtain ⟨c2, t2, e2⟩ := (h.ext x).row d hd
  exact is_other a (ad d) c1 c2 t1 t2 w' (hne d hd) (x.get e1) e2

def codeV (c : Nat) : Int := if c = 0 then -1 else c

set_option maxRecDepth 100000 in
set_option maxHeartbeats 400000 in
theorem code_nil (w : World) : Calls Tryd.prog 33 #[.nilIface] w fun e w' => e = .returned (.tuple #[.int .i64 0, .int .i64 (-1)]) ∧ w = w' := by
  go_enter Tryd.func33, Tryd.ntmps33
  go_wp2
  go_ret2
  exact ⟨rfl, rfl⟩


set_option maxRecDepth 100000 in
set_option maxHeartbeats 3200000 in
theorem code_sent (w : World) (ad : Nat → Addr) (h : AllErrs w ad) (x : Value) (c : Nat) (hc : c ≤ 11) (hi : IsAs w ad (.iface 197 x) c) :
    Calls Tryd.prog 33 #[.iface 197 x] w fun e w' => e = .returned (.tuple #[.int .i64 (codeV c), .int .i64 (-1)]) ∧ Ext w w' := by
  have hA := hid (as_miss x ⟨w.heap.size, 0, none⟩ (.pointer none) (w.alloc (.cells #[.pointer none] 114)) (((Ext.refl w).alloc _).cellx h.ty) (by simp) (by simp))
  go_enter Tryd.func33, Tryd.ntmps33
  go_wp2_with fail
  refine hA.out.mono ?_
  intro e w1 hx
  obtain ⟨rfl, hx1⟩ := hx
  replace hx1 := ((Ext.refl w).alloc _).trans hx1
  clear hA
  have g0 := (h.ext hx1).at1
  have g1 := (h.ext hx1).at2
  have g2 := (h.ext hx1).at3
  have g3 := (h.ext hx1).at4
  have g4 := (h.ext hx1).at5
  have g5 := (h.ext hx1).at6
  have g6 := (h.ext hx1).at7
  have g7 := (h.ext hx1).at8
  have g8 := (h.ext hx1).at9
  have g9 := (h.ext hx1).at10
  have g10 := (h.ext hx1).at11
  obtain ⟨W, hW⟩ : ∃ W, W = w1.alloc (.cells #[.iface 197 (.pointer (some (ad 1))), .iface 197 (.pointer (some (ad 2))), .iface 197 (.pointer (some (ad 3))), .iface 197 (.pointer (some (ad 4))), .iface 197 (.pointer (some (ad 5))), .iface 197 (.pointer (some (ad 6))), .iface 197 (.pointer (some (ad 7))), .iface 197 (.pointer (some (ad 8))), .iface 197 (.pointer (some (ad 9))), .iface 197 (.pointer (some (ad 10))), .iface 197 (.pointer (some (ad 11)))] 27) := ⟨_, rfl⟩
  have hcell : ∀ k, k < 11 → W.cell? ⟨w1.heap.size, k, none⟩ = some (.iface 197 (.pointer (some (ad (k + 1))))) := fun k hk => by
    have hB := Blk.new w1 #[.iface 197 (.pointer (some (ad 1))), .iface 197 (.pointer (some (ad 2))), .iface 197 (.pointer (some (ad 3))), .iface 197 (.pointer (some (ad 4))), .iface 197 (.pointer (some (ad 5))), .iface 197 (.pointer (some (ad 6))), .iface 197 (.pointer (some (ad 7))), .iface 197 (.pointer (some (ad 8))), .iface 197 (.pointer (some (ad 9))), .iface 197 (.pointer (some (ad 10))), .iface 197 (.pointer (some (ad 11)))] 27
    rw [← hW] at hB
    rw [hB.cell k]
    rcases (by omega : k = 0 ∨ k = 1 ∨ k = 2 ∨ k = 3 ∨ k = 4 ∨ k = 5 ∨ k = 6 ∨ k = 7 ∨ k = 8 ∨ k = 9 ∨ k = 10) with rfl | rfl | rfl | rfl | rfl | rfl | rfl | rfl | rfl | rfl | rfl <;> rfl
  have hX : Ext w W := by rw [hW]; exact hx1.alloc _
  have HW := hid hW
  have Hc := fun k hk => hid (hcell k hk)
  have HI := hid (hi _ hX)
  have Hx := hid hX
  clear hcell hW hX hi
  go_wp2
  rw [← HW.out]
  clear g0 g1 g2 g3 g4 g5 g6 g7 g8 g9 g10 HW h hx1
  generalize w1.heap.size = N at *
  go_loop [3, 29] (fun t3 t29 => ∃ k : Nat, t29 = .int .i64 (k : Int) ∧ k ≤ 11 ∧ t3 = .int .i64 (-1) ∧ ∀ d, 1 ≤ d → d ≤ k → d ≠ c) (fun _ t29 => 11 - (intOf t29).toNat)
  case atStart => exact ⟨0, rfl, Nat.zero_le _, rfl, fun d h1 h2 => by omega⟩
  case round =>
    obtain ⟨k, rfl, hk, rfl, hne⟩ := hrel
    have Hne := hid hne
    clear hne
    by_cases hlt : k < 11
    · have hck := (Hc k hlt).out
      have hcall := hid (HI.out (k + 1) (by omega))
      by_cases he : k + 1 = c
      · have hcv : Hid (codeV c = (k : Int) + 1) := hid (by unfold codeV; rw [if_neg (by omega)]; omega)
        rw [decide_eq_true he] at hcall
        clear he
        have hlt2 : (k : Int) < 11 := by omega
        go_wp2_with fail
        refine hcall.out.mono ?_
        rintro e w3 ⟨rfl, rfl⟩
        go_wp2
        go_ret2
        exact ⟨by rw [hcv.out]; rfl, Hx.out⟩
      · rw [decide_eq_false he] at hcall
        have hlt2 : (k : Int) < 11 := by omega
        have He := hid he
        clear he
        go_wp2_with fail
        refine hcall.out.mono ?_
        rintro e w3 ⟨rfl, rfl⟩
        go_wp2
        go_round
        case rel => exact ⟨k + 1, by go_num, by omega, rfl, fun d h1 h2 => by
          by_cases hd : d = k + 1
          · rw [hd]; exact He.out
          · exact Hne.out d h1 (by omega)⟩
        case measure => simp [intOf]; omega
    · obtain rfl : k = 11 := by omega
      have hcv : Hid (codeV c = -1) := hid (by
        unfold codeV
        rw [if_pos]
        rcases Nat.eq_zero_or_pos c with h0 | h0
        · exact h0
        · exact absurd rfl (Hne.out c h0 hc))
      go_wp2
      go_ret2
      exact ⟨by rw [hcv.out]; rfl, Hx.out⟩

set_option maxRecDepth 100000 in
set_option maxHeartbeats 3200000 in
/-- A fault's code, and its place. -/
theorem code_fault (w : World) (ad : Nat → Addr) (h : AllErrs w ad) (b : Nat) (pl : Int) (c : Nat) (hc : c ≤ 11) (hpl : w.cell? ⟨b, 0, none⟩ = some (.int .i64 pl)) (hi : IsAs w ad (.iface 114 (.pointer (some ⟨b, 0, none⟩))) c) :
    Calls Tryd.prog 33 #[.iface 114 (.pointer (some ⟨b, 0, none⟩))] w fun e w' => e = .returned (.tuple #[.int .i64 (codeV c), .int .i64 pl]) ∧ Ext w w' := by
  have hA := hid (as_hit ⟨b, 0, none⟩ ⟨w.heap.size, 0, none⟩ (.pointer none) (w.alloc (.cells #[.pointer none] 114)) (((Ext.refl w).alloc _).cellx h.ty) (by simp) (by simp))
  go_enter Tryd.func33, Tryd.ntmps33
  go_wp2_with fail
  refine hA.out.mono ?_
  intro e w1 hx
  obtain ⟨rfl, hw1⟩ := hx
  have h3 := ((((Ext.refl (w.alloc (.cells #[.pointer none] 114))).alloc (.cells #[.pointer (some ⟨w.heap.size, 0, none⟩)] 120)).alloc (.cells #[.pointer (some ⟨15, 120, none⟩), .pointer (some ⟨(w.alloc (.cells #[.pointer none] 114)).heap.size, 0, none⟩), .int .u64 150] 140)).alloc (.cells #[.pointer (some ⟨15, 120, none⟩), .pointer (some ⟨(w.alloc (.cells #[.pointer none] 114)).heap.size, 0, none⟩), .int .u64 150] 140)).alloc (.cells #[.pointer (some ⟨b, 0, none⟩)] 114)
  have hB := ((Blk.new w #[.pointer none] 114).ext h3).set 0 (.pointer (some ⟨b, 0, none⟩))
  have hx1 : Ext w w1 := by
    rw [hw1]
    exact Keep.new (((Ext.refl w).alloc _).trans h3) (Keep.set (X := fun n => n = w.heap.size) (Keep.refl _ _) rfl _) fun n hn => by omega
  rw [← hw1] at hB
  have ht : w1.cell? ⟨w.heap.size, 0, none⟩ = some (.pointer (some ⟨b, 0, none⟩)) := (hB.cell 0).trans rfl
  have hp1 := hx1.cellx hpl
  clear hA hw1 h3 hB
  have g0 := (h.ext hx1).at1
  have g1 := (h.ext hx1).at2
  have g2 := (h.ext hx1).at3
  have g3 := (h.ext hx1).at4
  have g4 := (h.ext hx1).at5
  have g5 := (h.ext hx1).at6
  have g6 := (h.ext hx1).at7
  have g7 := (h.ext hx1).at8
  have g8 := (h.ext hx1).at9
  have g9 := (h.ext hx1).at10
  have g10 := (h.ext hx1).at11
  obtain ⟨W, hW⟩ : ∃ W, W = w1.alloc (.cells #[.iface 197 (.pointer (some (ad 1))), .iface 197 (.pointer (some (ad 2))), .iface 197 (.pointer (some (ad 3))), .iface 197 (.pointer (some (ad 4))), .iface 197 (.pointer (some (ad 5))), .iface 197 (.pointer (some (ad 6))), .iface 197 (.pointer (some (ad 7))), .iface 197 (.pointer (some (ad 8))), .iface 197 (.pointer (some (ad 9))), .iface 197 (.pointer (some (ad 10))), .iface 197 (.pointer (some (ad 11)))] 27) := ⟨_, rfl⟩
  have hcell : ∀ k, k < 11 → W.cell? ⟨w1.heap.size, k, none⟩ = some (.iface 197 (.pointer (some (ad (k + 1))))) := fun k hk => by
    have hB := Blk.new w1 #[.iface 197 (.pointer (some (ad 1))), .iface 197 (.pointer (some (ad 2))), .iface 197 (.pointer (some (ad 3))), .iface 197 (.pointer (some (ad 4))), .iface 197 (.pointer (some (ad 5))), .iface 197 (.pointer (some (ad 6))), .iface 197 (.pointer (some (ad 7))), .iface 197 (.pointer (some (ad 8))), .iface 197 (.pointer (some (ad 9))), .iface 197 (.pointer (some (ad 10))), .iface 197 (.pointer (some (ad 11)))] 27
    rw [← hW] at hB
    rw [hB.cell k]
    rcases (by omega : k = 0 ∨ k = 1 ∨ k = 2 ∨ k = 3 ∨ k = 4 ∨ k = 5 ∨ k = 6 ∨ k = 7 ∨ k = 8 ∨ k = 9 ∨ k = 10) with rfl | rfl | rfl | rfl | rfl | rfl | rfl | rfl | rfl | rfl | rfl <;> rfl
  have hX : Ext w W := by rw [hW]; exact hx1.alloc _
  have HW := hid hW
  have Hc := fun k hk => hid (hcell k hk)
  have HI := hid (hi _ hX)
  have Hx := hid hX
  clear hcell hW hX hi
  go_wp2
  rw [← HW.out]
  clear g0 g1 g2 g3 g4 g5 g6 g7 g8 g9 g10 HW h hx1
  generalize w1.heap.size = N at *
  go_loop [3, 29] (fun t3 t29 => ∃ k : Nat, t29 = .int .i64 (k : Int) ∧ k ≤ 11 ∧ t3 = .int .i64 pl ∧ ∀ d, 1 ≤ d → d ≤ k → d ≠ c) (fun _ t29 => 11 - (intOf t29).toNat)
  case atStart => exact ⟨0, rfl, Nat.zero_le _, rfl, fun d h1 h2 => by omega⟩
  case round =>
    obtain ⟨k, rfl, hk, rfl, hne⟩ := hrel
    have Hne := hid hne
    clear hne
    by_cases hlt : k < 11
    · have hck := (Hc k hlt).out
      have hcall := hid (HI.out (k + 1) (by omega))
      by_cases he : k + 1 = c
      · have hcv : Hid (codeV c = (k : Int) + 1) := hid (by unfold codeV; rw [if_neg (by omega)]; omega)
        rw [decide_eq_true he] at hcall
        clear he
        have hlt2 : (k : Int) < 11 := by omega
        go_wp2_with fail
        refine hcall.out.mono ?_
        rintro e w3 ⟨rfl, rfl⟩
        go_wp2
        go_ret2
        exact ⟨by rw [hcv.out]; rfl, Hx.out⟩
      · rw [decide_eq_false he] at hcall
        have hlt2 : (k : Int) < 11 := by omega
        have He := hid he
        clear he
        go_wp2_with fail
        refine hcall.out.mono ?_
        rintro e w3 ⟨rfl, rfl⟩
        go_wp2
        go_round
        case rel => exact ⟨k + 1, by go_num, by omega, rfl, fun d h1 h2 => by
          by_cases hd : d = k + 1
          · rw [hd]; exact He.out
          · exact Hne.out d h1 (by omega)⟩
        case measure => simp [intOf]; omega
    · obtain rfl : k = 11 := by omega
      have hcv : Hid (codeV c = -1) := hid (by
        unfold codeV
        rw [if_pos]
        rcases Nat.eq_zero_or_pos c with h0 | h0
        · exact h0
        · exact absurd rfl (Hne.out c h0 hc))
      go_wp2
      go_ret2
      exact ⟨by rw [hcv.out]; rfl, Hx.out⟩
end Go.Proofs.YtkabgmohgjljkaaDoor


/- The laws' own word for an error's number is walked. -/
namespace Go.Proofs.YtkabgmohgjljkaaDoor
set_option linter.unusedSimpArgs false
set_option linter.unusedVariables false
open Go Go.RowKit


/-- An error of a number, or none, that is asked for a number. -/
theorem code_err (w : World) (ad : Nat → Addr) (h : AllErrs w ad) (c : Nat) (hc : c ≤ 11) :
    Calls Tryd.prog 33 #[errv (evOf ad) c] w fun e w' => e = .returned (.tuple #[.int .i64 (c : Int), .int .i64 (-1)]) ∧ Ext w w' := by
  unfold errv
  by_cases h0 : c = 0
  · subst h0
    rw [if_pos rfl]
    exact (code_nil w).mono fun e w' ⟨h1, h2⟩ => ⟨h1, h2 ▸ Ext.refl _⟩
  · rw [if_neg h0]
    have := code_sent w ad h _ c hc (IsAs.sent h c (by omega))
    unfold codeV at this
    rw [if_neg h0] at this
    exact this

set_option maxRecDepth 100000 in
set_option maxHeartbeats 800000 in
theorem coded3_any (w : World) (ad : Nat → Addr) (h : AllErrs w ad) (c : Nat) (hc : c ≤ 11) (k : Int) :
    Calls Tryd.prog 10 #[errv (evOf ad) c, .int .i64 k] w fun e w' => e = .returned (.bool (decide ((c : Int) = k))) ∧ Ext w w' := by
  have HC := hid (code_err w ad h c hc)
  clear h
  generalize errv (evOf ad) c = ev at *
  by_cases hck : (c : Int) = k
  · have Hck := hid (decide_eq_true hck)
    rw [hck] at HC
    clear hck
    go_enter Tryd.func10, Tryd.ntmps10
    go_wp2_with fail
    refine HC.out.mono ?_
    intro e w1 hx
    obtain ⟨rfl, hx⟩ := hx
    go_wp2
    go_ret
    exact ⟨by rw [Hck.out]; rfl, hx⟩
  · have Hck := hid (decide_eq_false hck)
    go_enter Tryd.func10, Tryd.ntmps10
    go_wp2_with fail
    refine HC.out.mono ?_
    intro e w1 hx
    obtain ⟨rfl, hx⟩ := hx
    go_wp2
    go_ret
    exact ⟨by rw [Hck.out]; rfl, hx⟩
theorem AllErrs.errs {w : World} {ad : Nat → Addr} (h : AllErrs w ad) : Errs w (evOf ad) :=
  ⟨⟨h.at2, h.at3, h.at4, h.at8⟩, h.at1, h.at11⟩
end Go.Proofs.YtkabgmohgjljkaaDoor


/- All errors, and the type of errors, as a row of this seat lists them. -/
namespace Go.Proofs.YtkabgmohgjljkaaDoor
set_option linter.unusedSimpArgs false
set_option linter.unusedVariables false
open Go Go.RowKit

def handD : DataW Unit := .iface "internal/reflectlite.rtype" (.agg [.ptr (.lit (.string [101, 114, 114, 111, 114]))])
theorem handName : handD.handleName? = some [101, 114, 114, 111, 114] := by
  unfold handD DataW.handleName?
  simp
def allCodes : List Nat := [1, 2, 3, 4, 5, 6, 7, 8, 9, 10, 11]
def fullL : List (String × DataW Unit) := ("errors.errorType", handD) :: sentL allCodes
theorem typesSize : Tryd.prog.types.size = 230 := by kernel_rfl
theorem oneErrRow : ((List.range 230).filter fun t => Tryd.prog.rowNamed t [101, 114, 114, 111, 114]) = [27] := by kernel_rfl
theorem rtypeCut : (Tryd.prog.cutTypes.find? (·.1 == "internal/reflectlite.rtype")).map (·.2) = some 159 := by kernel_rfl
theorem errTypeVar : Tryd.prog.globalNamed "errors.errorType" = some 11 := by kernel_rfl
theorem errHandle : typeHandle Tryd.prog 27 = .pointer (some ⟨15, 27, none⟩) := by kernel_rfl

theorem all_of {W : World} (h : laidMetH Tryd.prog fullL W) : ∃ ad : Nat → Addr, AllErrs W ad := by
  obtain ⟨h1, h2⟩ := laidMetH_iff.1 h
  have e1 : (fullL.filter fun x => x.2.handleName?.isNone) = sentL allCodes := by
    unfold fullL
    rw [List.filter_cons_of_neg (by simp [handName]), List.filter_eq_self.2 fun x hx => by
      obtain ⟨c, _, rfl⟩ := List.mem_map.1 hx
      simp [sent_noHandle]]
  rw [e1] at h1
  obtain ⟨ad, s1, s2⟩ := sents_ad allCodes (by decide) h1
  have hin : ∀ c, 1 ≤ c ∧ c ≤ 11 → c ∈ allCodes := fun c hc => by
    rcases (by omega : c = 1 ∨ c = 2 ∨ c = 3 ∨ c = 4 ∨ c = 5 ∨ c = 6 ∨ c = 7 ∨ c = 8 ∨ c = 9 ∨ c = 10 ∨ c = 11) with rfl | rfl | rfl | rfl | rfl | rfl | rfl | rfl | rfl | rfl | rfl <;> decide
  refine ⟨ad, fun c hc => (s1 c (hin c hc)).var, fun c hc => (s1 c (hin c hc)).row, fun c d hc hd e => s2 c (hin c hc) d (hin d hd) e, ?_⟩
  have hm : ("errors.errorType", handD) ∈ fullL.filter fun x => x.2.handleName?.isSome := List.mem_filter.2 ⟨by simp [fullL], by simp [handName]⟩
  have h3 := h2 _ hm
  have hf : handD.funcsIn? = none := by
    unfold handD DataW.funcsIn?
    simp
  simp only [hf] at h3
  obtain ⟨name, u, ty, g1, g2, g3, g4, g5⟩ := h3
  obtain rfl := Option.some.inj (handName.symm.trans g1)
  obtain rfl := Option.some.inj (rtypeCut.symm.trans g2)
  have hm2 : ty ∈ (List.range 230).filter fun t => Tryd.prog.rowNamed t [101, 114, 114, 111, 114] := List.mem_filter.2 ⟨List.mem_range.2 (by rw [← typesSize]; exact g3), g4⟩
  rw [oneErrRow, List.mem_singleton] at hm2
  subst hm2
  rw [errHandle] at g5
  simpa using World.var?_cell errTypeVar g5 0
end Go.Proofs.YtkabgmohgjljkaaDoor

/- One that acts floats beside two that act in a row. -/
namespace Go.Proofs.YtkabgmohgjljkaaDoor
set_option linter.unusedSimpArgs false
set_option linter.unusedVariables false
open Go Go.RowKit
section
variable {P : Program} {ops : Array Oper} {X : Nat → Prop} {w0 : World} {Q : Act → World → Prop} {L : List Nat}

/-- j, then m; i whenever. -/
theorem Flow.par3g {listed : Array Bool} {C : World → Prop} {a : Act} (j m i : Nat) (oj om oi : Oper) (hoj : ops[j]? = some oj) (hom : ops[m]? = some om) (hoi : ops[i]? = some oi) (hij : i ≠ j) (him : i ≠ m)
    (hsi : ∀ cs b, oi.op ≠ .select cs b) (hsj : ∀ cs b, oj.op ≠ .select cs b) (hsm : ∀ cs b, om.op ≠ .select cs b) (hap : oi.apart ops oj = true) (hap2 : oi.apart ops om = true)
    (r0 : (Region.ready .any ops listed == [j, i]) = true) (r1 : (Region.ready .any ops (listed.setIfInBounds i true) == [j]) = true) (r2 : (Region.ready .any ops ((listed.setIfInBounds i true).setIfInBounds j true) == [m]) = true)
    (r3 : (Region.ready .any ops (listed.setIfInBounds j true) == [m, i]) = true)
    (A B : Value → World → Prop) (AB D : Value → Value → World → Prop) (F : Value → Value → Value → World → Prop)
    (sA : ∀ v w w', A v w → Ext w w' → A v w') (sB : ∀ v w w', B v w → Ext w w' → B v w') (sAB : ∀ u v w w', AB u v w → Ext w w' → AB u v w') (sD : ∀ u v w w', D u v w → Ext w w' → D u v w') (sF : ∀ t u v w w', F t u v w → Ext w w' → F t u v w')
    (i0 : ∀ w, C w → Keep X w0 w → does P ops oi a w (ActR X w0 A))
    (j0 : ∀ w, C w → Keep X w0 w → does P ops oj a w (ActR X w0 B))
    (i1 : ∀ vj w, B vj w → Keep X w0 w → does P ops oi a w (ActR X w0 fun v => AB v vj))
    (j1 : ∀ vi w, A vi w → Keep X w0 w → does P ops oj a w (ActR X w0 (AB vi)))
    (m1 : ∀ vj w, B vj w → Keep X w0 w → does P ops om (a.put oj.dst vj) w (ActR X w0 (D vj)))
    (m2 : ∀ vi vj w, AB vi vj w → Keep X w0 w → does P ops om (a.put oj.dst vj) w (ActR X w0 (F vi vj)))
    (k1 : ∀ vi vj vm, (∃ w, F vi vj vm w) → Flow P ops w0 Q X L (((listed.setIfInBounds i true).setIfInBounds j true).setIfInBounds m true) (F vi vj vm) (((a.put oi.dst vi).put oj.dst vj).put om.dst vm))
    (k2 : ∀ vj vm, (∃ w, D vj vm w) → Flow P ops w0 Q X L ((listed.setIfInBounds j true).setIfInBounds m true) (D vj vm) ((a.put oj.dst vj).put om.dst vm)) :
    Flow P ops w0 Q X L listed C a := by
  have hs := Oper.apart_spec hap
  have hs2 := Oper.apart_spec hap2
  -- both done, then m
  have both : ∀ vi vj, Flow P ops w0 Q X L ((listed.setIfInBounds i true).setIfInBounds j true) (AB vi vj) ((a.put oi.dst vi).put oj.dst vj) := by
    intro vi vj
    refine Flow.acts [m] r2 (by simp) (fun _ => om) (fun _ u w => F vi vj u w) (fun _ u w w' h hx => sF _ _ _ _ _ h hx) ?_ ?_
    · intro n hn
      obtain rfl : n = m := by simpa using hn
      refine ⟨hom, fun w h h4 => ?_⟩
      rw [Act.put_comm a vi vj hs.2.1, does_put hsm hs2.1]
      exact m2 vi vj w h h4
    · intro n hn u hu
      obtain rfl : n = m := by simpa using hn
      exact k1 vi vj u hu
  refine Flow.acts [j, i] r0 (by simp) (fun n => if n = i then oi else oj) (fun n v w => if n = i then A v w else B v w) ?_ ?_ ?_
  · intro n v w w' h2 hx
    try simp only at h2 ⊢
    split
    · rename_i e; rw [if_pos e] at h2; exact sA _ _ _ h2 hx
    · rename_i e; rw [if_neg e] at h2; exact sB _ _ _ h2 hx
  · intro n hn
    rcases (by simpa using hn : n = j ∨ n = i) with rfl | rfl
    · refine ⟨by simpa [Ne.symm hij] using hoj, fun w h1 h2 => ?_⟩
      simp only [Ne.symm hij, if_false]
      exact j0 w h1 h2
    · refine ⟨by simpa using hoi, fun w h1 h2 => ?_⟩
      simp only [if_true]
      exact i0 w h1 h2
  · intro n hn v hv
    rcases (by simpa using hn : n = j ∨ n = i) with rfl | rfl
    · simp only [Ne.symm hij, if_false] at hv ⊢
      refine Flow.acts [m, i] r3 (by simp) (fun q => if q = i then oi else om) (fun q u w => if q = i then AB u v w else D v u w) ?_ ?_ ?_
      · intro q u w w' h3 hx
        try simp only at h3 ⊢
        split
        · rename_i e; rw [if_pos e] at h3; exact sAB _ _ _ _ h3 hx
        · rename_i e; rw [if_neg e] at h3; exact sD _ _ _ _ h3 hx
      · intro q hq
        rcases (by simpa using hq : q = m ∨ q = i) with rfl | rfl
        · refine ⟨by simpa [Ne.symm him] using hom, fun w h1 h3 => ?_⟩
          simp only [Ne.symm him, if_false]
          exact m1 v w h1 h3
        · refine ⟨by simpa using hoi, fun w h1 h3 => ?_⟩
          simp only [if_true]
          rw [does_put hsi hs.2.2]
          exact i1 v w h1 h3
      · intro q hq u hu
        rcases (by simpa using hq : q = m ∨ q = i) with rfl | rfl
        · simp only [Ne.symm him, if_false] at hu ⊢
          exact k2 v u hu
        · simp only [if_true] at hu ⊢
          have := both u v
          rw [Array.setIfInBounds_comm _ _ hij, Act.put_comm a u v hs.2.1] at this
          exact this
    · simp only [if_true] at hv ⊢
      refine Flow.acts [j] r1 (by simp) (fun _ => oj) (fun _ u w => AB v u w) (fun _ u w w' h hx => sAB _ _ _ _ h hx) ?_ ?_
      · intro n hn
        obtain rfl : n = j := by simpa using hn
        refine ⟨hoj, fun w h2 h3 => ?_⟩
        rw [does_put hsj hs.1]
        exact j1 v w h2 h3
      · intro n hn u hu
        obtain rfl : n = j := by simpa using hn
        exact both v u
end
end Go.Proofs.YtkabgmohgjljkaaDoor
