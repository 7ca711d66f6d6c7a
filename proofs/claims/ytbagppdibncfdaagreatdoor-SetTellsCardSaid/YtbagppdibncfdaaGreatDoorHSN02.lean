/- Texts of one proof, put together: SE UP U1 US U2 U3 U4 U5 U6 U7 MP L1 LM L2 L3 L5 L6 L7 U8 U9 UQ UR UT UV UW UX Par2 UY UZ V1 V2 L4 L8 L9 LA LB LC LD LE LO. -/
import Derived.Test.YtbagppdibncfdaaGreatDoorHSN01
import Derived.Test.YtbagppdibncfdaaGreatDoorProg
import Derived.Stop.LaidErr
import Derived.Stop.ErrReads
import Derived.Stop.Joined
import Derived.MakeChecks
import Derived.LaidSub
import Derived.Shelf.Strings.SlTrimAscii
import Derived.MapKept
import Derived.Maps.OwnSet
import Derived.Lib.SliceRun
import Derived.Carry
import Derived.Maps.AppendAt
import Derived.LaidEql
set_option linter.unusedSimpArgs false
set_option linter.unusedVariables false
namespace Go.Proofs.YtbagppdibncfdaaGreatDoor
open Go Go.RowKit Go.ChangeShapes
theorem errStar : "*" ++ "errors.errorString" = "*errors.errorString" := by decide
theorem errRow (u : TypeId) (h : Tryz.prog.typeName? 3 u = some "*errors.errorString") : u = 282 :=
  typeName_ptr_named (nm := "errors.errorString") (by rw [errStar]; kernel_rfl) (by kernel_rfl) (by decide) u (by rw [errStar]; exact h)
theorem errCells : Tryz.prog.cellsOf 284 = 1 := by kernel_rfl
theorem strCells : Tryz.prog.cellsOf 9 = 1 := by kernel_rfl
structure SentAt (W : World) (g : Nat) (a : Addr) : Prop where
  var : W.cell? ⟨g, 0, none⟩ = some (.iface 282 (.pointer (some a)))
  row : ∃ c t, W.heap[a.block]? = some (.cells c t (0, 0))
  text : ∃ s, W.cell? a = some (.string s)
def sentD (t : List UInt8) : DataW Unit := .iface "*errors.errorString" (.ptr (.agg [.lit (.string t)]))
set_option maxRecDepth 100000 in
theorem sents_of {W : World} : ∀ (l : List (String × Nat × List UInt8)) (ps : List MemPlace), DataW.LaidVars Tryz.prog W (l.map fun x => (x.1, sentD x.2.2)) ps → ps.Nodup →
    (∀ b off, MemPlace.cell b off ∈ ps → (∃ c t, W.heap[b]? = some (.cells c t (0, 0))) ∧ ∀ u v, W.cell? ⟨b, off, none⟩ = some (.iface u v) → Value.okWide Tryz.prog W .any 0 u v) →
    (∀ x ∈ l, Tryz.prog.globalNamed x.1 = some x.2.1 ∧ (Tryz.prog.globals[x.2.1]?).map (·.type) = some 35) →
    ∃ pa : List Addr, pa.length = l.length ∧ (∀ (i : Nat) (x : String × Nat × List UInt8) (a : Addr), l[i]? = some x → pa[i]? = some a → SentAt W x.2.1 a) ∧ pa.Nodup ∧ ∀ a ∈ pa, MemPlace.cell a.block a.off ∈ ps
  | [], ps, _, _, _, _ => ⟨[], rfl, fun i x a h => by simp at h, List.nodup_nil, fun a h => by simp at h⟩
  | (n, k, tx) :: r, ps, h, hnd, hrows, hg => by
    obtain ⟨g, t, cs, fuel, p, q, hg0, ht0, hv0, hd0, hq, rfl⟩ := h
    obtain ⟨hk1, hk2⟩ := hg (n, k, tx) (by simp)
    obtain rfl := Option.some.inj (hk1.symm.trans hg0)
    obtain rfl := Option.some.inj (hk2.symm.trans ht0)
    obtain ⟨l0⟩ := cs
    have ok0 : ∀ u v, l0 = [.iface u v] → Value.okWide Tryz.prog W .any 0 u v := fun u v e => by
      subst e
      exact (hrows k 0 (by simp [MemPlace.row])).2 u v (by simpa using World.var?_cell hk1 hv0 0)
    obtain ⟨a0, s0, rfl, hc0, hs0, hz0, rfl⟩ := errorString_of_trod Tryz.underlying35 errRow Tryz.underlying282 Tryz.underlying284 rfl rfl Tryz.underlying9 errCells strCells hd0 ok0
    have hnd' := hnd
    rw [List.append_assoc] at hnd'
    have hq' : q.Nodup := (List.nodup_append.1 (List.nodup_append.1 hnd').2.1).2.1
    obtain ⟨pa, e1, e2, e3, e4⟩ := sents_of r q hq hq' (fun b off hm => hrows b off (List.mem_append_right _ hm)) (fun x hx => hg x (List.mem_cons_of_mem _ hx))
    have hin : MemPlace.cell a0.block a0.off ∈ MemPlace.row a0 1 := by simp [MemPlace.row]
    refine ⟨a0 :: pa, by simp [e1], ?_, ?_, ?_⟩
    · intro i x a hx ha
      cases i with
      | zero =>
        simp only [List.getElem?_cons_zero, Option.some.injEq] at hx ha
        subst hx ha
        exact ⟨by simpa using World.var?_cell hk1 hv0 0, (hrows a0.block a0.off (by simp [hin])).1, s0, hc0⟩
      | succ i =>
        simp only [List.getElem?_cons_succ] at hx ha
        exact e2 i x a hx ha
    · refine List.nodup_cons.2 ⟨fun hm => ?_, e3⟩
      have h1 := e4 a0 hm
      have h2 := (List.nodup_append.1 (List.nodup_append.1 hnd').2.1).2.2 _ hin _ h1
      exact h2 rfl
    · intro a ha
      rcases List.mem_cons.1 ha with rfl | ha
      · simp [hin]
      · simp [e4 a ha]
theorem sents_met {W : World} (l : List (String × Nat × List UInt8)) (h : laidMet Tryz.prog (l.map fun x => (x.1, sentD x.2.2)) W) (hg : ∀ x ∈ l, Tryz.prog.globalNamed x.1 = some x.2.1 ∧ (Tryz.prog.globals[x.2.1]?).map (·.type) = some 35) :
    ∃ pa : List Addr, pa.length = l.length ∧ (∀ (i : Nat) (x : String × Nat × List UInt8) (a : Addr), l[i]? = some x → pa[i]? = some a → SentAt W x.2.1 a) ∧ pa.Nodup := by
  obtain ⟨ps, h1, h2, h3⟩ := h
  obtain ⟨pa, e1, e2, e3, _⟩ := sents_of l ps h1 h2 h3 hg
  exact ⟨pa, e1, e2, e3⟩
def sRow : Nat → String × Nat × List UInt8
  | 1 => ("fingerpost/api.ErrText", 4, [102, 105, 110, 103, 101, 114, 112, 111, 115, 116, 58, 32, 116, 101, 120, 116])
  | 2 => ("fingerpost/api.ErrBound", 3, [102, 105, 110, 103, 101, 114, 112, 111, 115, 116, 58, 32, 98, 111, 117, 110, 100])
  | 3 => ("fingerpost/api.ErrShape", 6, [102, 105, 110, 103, 101, 114, 112, 111, 115, 116, 58, 32, 115, 104, 97, 112, 101])
  | 4 => ("fingerpost/api.ErrKind", 5, [102, 105, 110, 103, 101, 114, 112, 111, 115, 116, 58, 32, 107, 105, 110, 100])
  | 5 => ("fingerpost/api.ErrName", 1, [102, 105, 110, 103, 101, 114, 112, 111, 115, 116, 58, 32, 110, 97, 109, 101])
  | 6 => ("fingerpost/api.ErrNone", 8, [102, 105, 110, 103, 101, 114, 112, 111, 115, 116, 58, 32, 110, 111, 110, 101])
  | 7 => ("fingerpost/api.ErrExist", 2, [102, 105, 110, 103, 101, 114, 112, 111, 115, 116, 58, 32, 101, 120, 105, 115, 116])
  | 8 => ("fingerpost/api.ErrFull", 0, [102, 105, 110, 103, 101, 114, 112, 111, 115, 116, 58, 32, 102, 117, 108, 108])
  | 9 => ("fingerpost/api.ErrArgs", 9, [102, 105, 110, 103, 101, 114, 112, 111, 115, 116, 58, 32, 97, 114, 103, 115])
  | 10 => ("fingerpost/api.ErrOrder", 7, [102, 105, 110, 103, 101, 114, 112, 111, 115, 116, 58, 32, 111, 114, 100, 101, 114])
  | 11 => ("fingerpost/api.ErrSum", 10, [102, 105, 110, 103, 101, 114, 112, 111, 115, 116, 58, 32, 115, 117, 109])
  | _ => ("", 0, [])
theorem sRow_ok {c : Nat} (h1 : 1 ≤ c) (h2 : c ≤ 11) (h3 : (sRow c).2.1 ≠ 99999) : Tryz.prog.globalNamed (sRow c).1 = some (sRow c).2.1 ∧ (Tryz.prog.globals[(sRow c).2.1]?).map (·.type) = some 35 := by
  rcases (by omega : c = 1 ∨ c = 2 ∨ c = 3 ∨ c = 4 ∨ c = 5 ∨ c = 6 ∨ c = 7 ∨ c = 8 ∨ c = 9 ∨ c = 10 ∨ c = 11) with rfl | rfl | rfl | rfl | rfl | rfl | rfl | rfl | rfl | rfl | rfl <;> first | exact absurd rfl h3 | exact ⟨by kernel_rfl, by kernel_rfl⟩
theorem sRow_g {c : Nat} (h1 : 1 ≤ c) (h2 : c ≤ 11) : (sRow c).2.1 = gE c := by
  rcases (by omega : c = 1 ∨ c = 2 ∨ c = 3 ∨ c = 4 ∨ c = 5 ∨ c = 6 ∨ c = 7 ∨ c = 8 ∨ c = 9 ∨ c = 10 ∨ c = 11) with rfl | rfl | rfl | rfl | rfl | rfl | rfl | rfl | rfl | rfl | rfl <;> rfl
def sentL (codes : List Nat) : List (String × DataW Unit) := codes.map fun c => ((sRow c).1, sentD (sRow c).2.2)
theorem sent_noHandle (t : List UInt8) : (sentD t).handleName? = none := by
  unfold sentD DataW.handleName?
  simp
def evOf (ad : Nat → Addr) (c : Nat) : Value := .iface 282 (.pointer (some (ad c)))
theorem sents_ad {W : World} (codes : List Nat) (hc : ∀ c ∈ codes, 1 ≤ c ∧ c ≤ 11 ∧ (sRow c).2.1 ≠ 99999) (h : laidMet Tryz.prog (sentL codes) W) :
    ∃ ad : Nat → Addr, (∀ c ∈ codes, SentAt W (gE c) (ad c)) ∧ ∀ c ∈ codes, ∀ d ∈ codes, ad c = ad d → c = d := by
  obtain ⟨pa, h1, h2, h3⟩ := sents_met (codes.map sRow) (by simpa [sentL, List.map_map, Function.comp_def] using h) (fun x hx => by
    obtain ⟨c, hm, rfl⟩ := List.mem_map.1 hx
    exact sRow_ok (hc c hm).1 (hc c hm).2.1 (hc c hm).2.2)
  rw [List.length_map] at h1
  have hix : ∀ c ∈ codes, ∃ a, pa[codes.idxOf c]? = some a := fun c hm => by
    have := List.idxOf_lt_length_of_mem hm
    exact ⟨_, List.getElem?_eq_getElem (by omega)⟩
  refine ⟨fun c => (pa[codes.idxOf c]?).getD ⟨0, 0, none⟩, fun c hm => ?_, fun c hm d hd e => ?_⟩
  · obtain ⟨a, ha⟩ := hix c hm
    have hi := List.idxOf_lt_length_of_mem hm
    have := h2 (codes.idxOf c) (sRow c) a (by rw [List.getElem?_map, List.getElem?_eq_getElem hi]; simp) ha
    rw [sRow_g (hc c hm).1 (hc c hm).2.1] at this
    simp only [ha, Option.getD_some]
    exact this
  · obtain ⟨a, ha⟩ := hix c hm
    obtain ⟨b, hb⟩ := hix d hd
    simp only [ha, hb, Option.getD_some] at e
    subst e
    have l1 := List.idxOf_lt_length_of_mem hm
    have l2 := List.idxOf_lt_length_of_mem hd
    have hii : codes.idxOf c = codes.idxOf d := (List.getElem?_inj (by omega) h3).1 (ha.trans hb.symm)
    have g1 : codes[codes.idxOf c]'l1 = c := by simp
    have g2 : codes[codes.idxOf d]'l2 = d := by simp
    rw [← g1, ← g2]
    congr 1
end Go.Proofs.YtbagppdibncfdaaGreatDoor
namespace Go.Proofs.YtbagppdibncfdaaGreatDoor
open Go Go.RowKit
structure PF where
  name : ByteArray
  params : List Int
  ret : Int
structure PS where
  kind : ByteArray
  x : Int
  y : Int
  args : List Int
structure PP where
  vars : List ByteArray
  funs : List PF
  stmts : List PS
structure ElR (n0 : Nat) (v : Value) (n : Nat) (E : Nat → Addr → Prop) : Prop where
  form : ∃ a cap, v = .slice a n cap ∧ n ≤ cap ∧ (cap : Int) ≤ 9223372036854775807 ∧ (0 < n → ∃ y, a = some y) ∧ ∀ y, a = some y → 0 < n → y.block < n0 ∧ ∀ i, i < n → E i y
theorem ElR.mono {n0 n1 n : Nat} {v : Value} {E F : Nat → Addr → Prop} (h : ElR n0 v n E) (hn : n0 ≤ n1) (hE : ∀ i y, i < n → y.block < n0 → E i y → F i y) : ElR n1 v n F := by
  obtain ⟨a, cap, h1, h2, h3, h4, h5⟩ := h
  refine ⟨a, cap, h1, h2, h3, h4, fun y hy h0 => ⟨Nat.lt_of_lt_of_le (h5 y hy h0).1 hn, fun i hi => hE i y hi (h5 y hy h0).1 ((h5 y hy h0).2 i hi)⟩⟩
def StrsR (w : World) (n0 : Nat) (v : Value) (l : List ByteArray) : Prop := ElR n0 v l.length fun i y => ∀ s, l[i]? = some s → w.cell? (y.add i) = some (.string s)
def IntsR (w : World) (n0 : Nat) (v : Value) (l : List Int) : Prop := ElR n0 v l.length fun i y => ∀ s, l[i]? = some s → w.cell? (y.add i) = some (.int .i64 s)
def FunsR (w : World) (n0 : Nat) (v : Value) (l : List PF) : Prop := ElR n0 v l.length fun i y => ∀ f, l[i]? = some f → ∃ pv, w.cell? (y.add (i * 3)) = some (.string f.name) ∧ w.cell? ((y.add (i * 3)).add 1) = some pv ∧ w.cell? ((y.add (i * 3)).add 2) = some (.int .i64 f.ret) ∧ IntsR w n0 pv f.params
def StmtsR (w : World) (n0 : Nat) (v : Value) (l : List PS) : Prop := ElR n0 v l.length fun i y => ∀ s, l[i]? = some s → ∃ av, w.cell? (y.add (i * 4)) = some (.string s.kind) ∧ w.cell? ((y.add (i * 4)).add 1) = some (.int .i64 s.x) ∧ w.cell? ((y.add (i * 4)).add 2) = some (.int .i64 s.y) ∧ w.cell? ((y.add (i * 4)).add 3) = some av ∧ IntsR w n0 av s.args
structure ProgR (w : World) (n0 : Nat) (v1 v2 v3 : Value) (P : PP) : Prop where
  vars : StrsR w n0 v1 P.vars
  funs : FunsR w n0 v2 P.funs
  stmts : StmtsR w n0 v3 P.stmts
def Old (n0 : Nat) (w w' : World) : Prop := Keep (fun b => n0 ≤ b) w w'
theorem Old.refl (n0 : Nat) (w : World) : Old n0 w w := Keep.refl _ _
theorem Old.trans {n0 : Nat} {a b c : World} (h : Old n0 a b) (k : Old n0 b c) : Old n0 a c := Keep.trans h k
theorem Ext.old {w w' : World} (h : Ext w w') (n0 : Nat) : Old n0 w w' := h.keep _
theorem Old.cellx {n0 : Nat} {w w' : World} (h : Old n0 w w') {x : Addr} {v : Value} (hc : w.cell? x = some v) (hx : x.block < n0) : w'.cell? x = some v := Keep.cellx h hc (by omega)
theorem StrsR.old {w w' : World} {n0 : Nat} {v : Value} {l : List ByteArray} (h : StrsR w n0 v l) (k : Old n0 w w') : StrsR w' n0 v l :=
  ElR.mono h (Nat.le_refl _) fun i y _ hy hE s hs => k.cellx (hE s hs) (by rw [add_block]; exact hy)
theorem IntsR.old {w w' : World} {n0 : Nat} {v : Value} {l : List Int} (h : IntsR w n0 v l) (k : Old n0 w w') : IntsR w' n0 v l :=
  ElR.mono h (Nat.le_refl _) fun i y _ hy hE s hs => k.cellx (hE s hs) (by rw [add_block]; exact hy)
theorem FunsR.old {w w' : World} {n0 : Nat} {v : Value} {l : List PF} (h : FunsR w n0 v l) (k : Old n0 w w') : FunsR w' n0 v l :=
  ElR.mono h (Nat.le_refl _) fun i y _ hy hE s hs => by
    obtain ⟨pv, h1, h2, h3, h4⟩ := hE s hs
    exact ⟨pv, k.cellx h1 (by rw [add_block]; exact hy), k.cellx h2 (by rw [add_block, add_block]; exact hy), k.cellx h3 (by rw [add_block, add_block]; exact hy), h4.old k⟩
theorem StmtsR.old {w w' : World} {n0 : Nat} {v : Value} {l : List PS} (h : StmtsR w n0 v l) (k : Old n0 w w') : StmtsR w' n0 v l :=
  ElR.mono h (Nat.le_refl _) fun i y _ hy hE s hs => by
    obtain ⟨pv, h1, h2, h3, h4, h5⟩ := hE s hs
    exact ⟨pv, k.cellx h1 (by rw [add_block]; exact hy), k.cellx h2 (by rw [add_block, add_block]; exact hy), k.cellx h3 (by rw [add_block, add_block]; exact hy), k.cellx h4 (by rw [add_block, add_block]; exact hy), h5.old k⟩
theorem ProgR.old {w w' : World} {n0 : Nat} {v1 v2 v3 : Value} {P : PP} (h : ProgR w n0 v1 v2 v3 P) (k : Old n0 w w') : ProgR w' n0 v1 v2 v3 P := ⟨h.vars.old k, h.funs.old k, h.stmts.old k⟩
theorem ProgR.ext {w w' : World} {n0 : Nat} {v1 v2 v3 : Value} {P : PP} (h : ProgR w n0 v1 v2 v3 P) (k : Ext w w') : ProgR w' n0 v1 v2 v3 P := h.old (k.old _)
theorem IntsR.ints {w : World} {n0 : Nat} {a : Option Addr} {n cap : Nat} {l : List Int} (h : IntsR w n0 (.slice a n cap) l) (hi : ∀ i, l.getD i 0 ≤ 9223372036854775807) : Ints w a l.length l := by
  obtain ⟨a', cap', h1, h2, h3, h4, h5⟩ := h
  obtain ⟨rfl, rfl, rfl⟩ : a = a' ∧ n = l.length ∧ cap = cap' := by simpa using h1
  refine ⟨rfl, h4, fun x hx i hi => ?_, hi⟩
  rw [(h5 x hx (by omega)).2 i hi (l[i]'hi) (List.getElem?_eq_getElem hi)]
  simp [List.getD_eq_getElem?_getD, hi]
def eqB (s t : ByteArray) : Bool := s.toList == t.toList
def memB (s : ByteArray) (l : List ByteArray) : Bool := l.any fun t => eqB s t
def dupS (l : List ByteArray) : Bool := (List.range l.length).any fun i => memB (l.getD i ⟨#[]⟩) (l.take i)
def dupI (l : List Int) : Bool := (List.range l.length).any fun i => decide (l.getD i 0 ∈ l.take i)
def letters : List UInt8 := [97, 98, 99, 100, 101, 102, 103, 104, 105, 106, 107, 108, 109, 110, 111, 112, 113, 114, 115, 116, 117, 118, 119, 120, 121, 122, 48, 49, 50, 51, 52, 53, 54, 55, 56, 57]
def PP.inV (P : PP) (n : Int) : Bool := !(decide (n < 0) || decide ((P.vars.length : Int) ≤ n))
def PP.allV (P : PP) (l : List Int) : Bool := l.all P.inV
set_option maxRecDepth 100000 in
set_option maxHeartbeats 800000 in
theorem indexi_any (v : Value) (l : List Int) (s : Int) (w : World) (n0 : Nat) (h : IntsR w n0 v l) : Calls Tryz.prog 139 #[v, .int .i64 s] w fun e w' => ∃ r : Int, e = .returned (.int .i64 r) ∧ IdxR (s ∈ l) r ∧ w = w' := by
  obtain ⟨a, cap, rfl, h2, h3, h4, h5⟩ := h
  have H4 := hid h4
  have H5 := hid h5
  have hml : (l.length : Int) ≤ 9223372036854775807 := by omega
  clear h2 h3 h4 h5
  go_enter Tryz.func139, Tryz.ntmps139
  go_wp2
  go_loop [8] (fun t8 => ∃ k : Nat, t8 = .int .i64 (k : Int) ∧ k ≤ l.length ∧ ∀ j t, j < k → l[j]? = some t → s ≠ t) (fun t8 => l.length - (intOf t8).toNat)
  case atStart => exact ⟨0, rfl, Nat.zero_le _, fun j t h => by omega⟩
  case round =>
    obtain ⟨k, rfl, hk, hne⟩ := hrel
    have Hne := hid hne
    clear hne
    by_cases hlt : k < l.length
    · obtain ⟨y, rfl⟩ := H4.out (by omega)
      have hxk : l[k]? = some (l[k]'hlt) := List.getElem?_eq_getElem hlt
      obtain ⟨t, ht⟩ : ∃ t, t = l[k]'hlt := ⟨_, rfl⟩
      rw [← ht] at hxk
      have hc := (H5.out y rfl (by omega)).2 k hlt t hxk
      have Hxk := hid hxk
      clear hxk ht
      by_cases he : s = t
      · subst he
        have Hin := hid (IdxR.yes (k := k) (List.mem_of_getElem? Hxk.out) (by omega))
        go_wp2
        go_ret
        exact ⟨(k : Int), rfl, Hin.out, rfl⟩
      · have Hf := hid he
        go_wp2
        refine ⟨⟨k + 1, by go_num, by omega, fun j u hj hu => ?_⟩, by simp [intOf]; omega⟩
        by_cases hjk : j = k
        · subst hjk
          obtain rfl := Option.some.inj (Hxk.out.symm.trans hu)
          exact Hf.out
        · exact Hne.out j u (by omega) hu
    · obtain rfl : k = l.length := by omega
      have Hnot := hid (IdxR.no (show ¬ s ∈ l from fun ht => by
        obtain ⟨j, hj, e2⟩ := List.mem_iff_getElem.1 ht
        exact Hne.out j s hj (by rw [List.getElem?_eq_getElem hj, e2]) rfl))
      go_wp2
      go_ret
      exact ⟨(-1 : Int), rfl, Hnot.out, rfl⟩
set_option maxRecDepth 100000 in
set_option maxHeartbeats 800000 in
theorem containsi_any (v : Value) (l : List Int) (s : Int) (w : World) (n0 : Nat) (h : IntsR w n0 v l) : Calls Tryz.prog 99 #[v, .int .i64 s] w fun e w' => e = .returned (.bool (decide (s ∈ l))) ∧ w = w' := by
  have H := hid (indexi_any v l s w n0 h)
  obtain ⟨a, cap, rfl, _⟩ := h
  go_enter Tryz.func99, Tryz.ntmps99
  go_wp2_with fail
  refine H.out.mono ?_
  intro e w1 hx
  obtain ⟨r, rfl, hiff, rfl⟩ := hx
  have hr := hiff.1
  have Hiff := hid hiff.2
  clear hiff H
  go_wp2
  go_ret
  refine ⟨?_, rfl⟩
  exact congrArg (fun n => Ending.returned (Value.bool n)) (decide_eq_decide.2 Hiff.out)
theorem IntsR.take {w : World} {n0 : Nat} {a : Option Addr} {n cap : Nat} {l : List Int} (h : IntsR w n0 (.slice a n cap) l) (i : Nat) (hi : i ≤ l.length) : IntsR w n0 (.slice a i cap) (l.take i) := by
  obtain ⟨a', cap', h1, h2, h3, h4, h5⟩ := h
  obtain ⟨rfl, rfl, rfl⟩ : a = a' ∧ n = l.length ∧ cap = cap' := by simpa using h1
  have hl : (l.take i).length = i := by simp; omega
  unfold IntsR
  rw [hl]
  refine ⟨a, cap, rfl, by omega, h3, fun h0 => h4 (by omega), fun y hy h0 => ⟨(h5 y hy (by omega)).1, fun j hj s hs => (h5 y hy (by omega)).2 j (by omega) s ?_⟩⟩
  rwa [List.getElem?_take, if_pos hj] at hs
theorem StrsR.take {w : World} {n0 : Nat} {a : Option Addr} {n cap : Nat} {l : List ByteArray} (h : StrsR w n0 (.slice a n cap) l) (i : Nat) (hi : i ≤ l.length) : StrsR w n0 (.slice a i cap) (l.take i) := by
  obtain ⟨a', cap', h1, h2, h3, h4, h5⟩ := h
  obtain ⟨rfl, rfl, rfl⟩ : a = a' ∧ n = l.length ∧ cap = cap' := by simpa using h1
  have hl : (l.take i).length = i := by simp; omega
  unfold StrsR
  rw [hl]
  refine ⟨a, cap, rfl, by omega, h3, fun h0 => h4 (by omega), fun y hy h0 => ⟨(h5 y hy (by omega)).1, fun j hj s hs => (h5 y hy (by omega)).2 j (by omega) s ?_⟩⟩
  rwa [List.getElem?_take, if_pos hj] at hs
end Go.Proofs.YtbagppdibncfdaaGreatDoor
namespace Go.Proofs
open Go.Shelf
def Tryz.lays160_ren : Go.Shelf.Ren := ⟨fun | 160 => 148 | 232 => 191 | 231 => 190 | 227 => 192 | 234 => 194 | 233 => 193 | 236 => 196 | 235 => 195 | 228 => 219 | 271 => 221 | 151 => 220 | 197 => 178 | 120 => 233 | 152 => 232 | 260 => 210 | 137 => 238 | 119 => 239 | 224 => 199 | 225 => 198 | 217 => 197 | 266 => 222 | n => n, fun | 9 => 9 | 4 => 4 | 3 => 3 | 5 => 5 | 117 => 246 | 116 => 245 | 0 => 0 | 124 => 249 | 21 => 21 | 105 => 219 | 46 => 173 | 119 => 277 | 139 => 280 | 138 => 279 | n => n, fun | 3 => 15 | 4 => 16 | n => n⟩
end Go.Proofs
namespace Go.Proofs.YtbagppdibncfdaaGreatDoor
open Go Go.RowKit Go.Shelf Go.Lib
theorem add0 (b i : Nat) : (⟨b, 0, none⟩ : Addr).add i = ⟨b, i, none⟩ := by
  by_cases h0 : i = 0 <;> simp [Addr.add, h0]
theorem StrsR.blk {w : World} {b : Nat} {c : Array Value} {t : TypeId} {l : List ByteArray} (h : Blk w b c t) (hc : c.toList = l.map .string) (hl : (l.length : Int) ≤ 1000000) : StrsR w w.heap.size (.slice (some ⟨b, 0, none⟩) l.length l.length) l := by
  refine ⟨_, _, rfl, Nat.le_refl _, by omega, fun _ => ⟨_, rfl⟩, fun y hy h0 => ?_⟩
  obtain rfl := Option.some.inj hy
  refine ⟨h.lt, fun i hi s hs => ?_⟩
  rw [add0, h.cell, ← Array.getElem?_toList, hc, List.getElem?_map, hs]
  rfl
theorem IntsR.blk {w : World} {b : Nat} {c : Array Value} {t : TypeId} {l : List Int} (h : Blk w b c t) (hc : c.toList = l.map (.int .i64)) (hl : (l.length : Int) ≤ 1000000): IntsR w w.heap.size (.slice (some ⟨b, 0, none⟩) l.length l.length) l := by
  refine ⟨_, _, rfl, Nat.le_refl _, by omega, fun _ => ⟨_, rfl⟩, fun y hy h0 => ?_⟩
  obtain rfl := Option.some.inj hy
  refine ⟨h.lt, fun i hi s hs => ?_⟩
  rw [add0, h.cell, ← Array.getElem?_toList, hc, List.getElem?_map, hs]
  rfl
def reserved : List ByteArray := [⟨#[118, 97, 114]⟩, ⟨#[102, 110]⟩, ⟨#[110, 101, 119]⟩, ⟨#[99, 97, 108, 108]⟩]
def lettersS : ByteArray := ⟨#[97, 98, 99, 100, 101, 102, 103, 104, 105, 106, 107, 108, 109, 110, 111, 112, 113, 114, 115, 116, 117, 118, 119, 120, 121, 122, 48, 49, 50, 51, 52, 53, 54, 55, 56, 57]⟩
def nameRest (s : ByteArray) : Bool := eqB ⟨(trimS s.data.toList lettersS.data.toList).toArray⟩ ⟨#[]⟩
def first (s : ByteArray) : Nat := if h : 0 < s.size then s[0].toNat else 0
def nameOk (s : ByteArray) : Bool := !memB s reserved && (!s.toList.isEmpty && decide (s.size ≤ 8) && decide (97 ≤ first s) && decide (first s ≤ 122) && nameRest s)
end Go.Proofs.YtbagppdibncfdaaGreatDoor
namespace Go.Proofs.YtbagppdibncfdaaGreatDoor
open Go Go.RowKit
structure ErrsP (w : World) (ad : Nat → Addr) : Prop where
  at2 : w.cell? ⟨3, 0, none⟩ = some (evOf ad 2)
  at3 : w.cell? ⟨6, 0, none⟩ = some (evOf ad 3)
  at4 : w.cell? ⟨5, 0, none⟩ = some (evOf ad 4)
  at5 : w.cell? ⟨1, 0, none⟩ = some (evOf ad 5)
  at7 : w.cell? ⟨2, 0, none⟩ = some (evOf ad 7)
  at8 : w.cell? ⟨0, 0, none⟩ = some (evOf ad 8)
  at9 : w.cell? ⟨9, 0, none⟩ = some (evOf ad 9)
  ne57 : ad 5 ≠ ad 7
  row5 : ∃ cs t, w.heap[(ad 5).block]? = some (.cells cs t (0, 0))
  row7 : ∃ cs t, w.heap[(ad 7).block]? = some (.cells cs t (0, 0))
theorem ErrsP.ext {w w' : World} {ad : Nat → Addr} (h : ErrsP w ad) (x : Ext w w') : ErrsP w' ad :=
  ⟨x.cellx h.at2, x.cellx h.at3, x.cellx h.at4, x.cellx h.at5, x.cellx h.at7, x.cellx h.at8, x.cellx h.at9, h.ne57, (let ⟨cs, t, e⟩ := h.row5; ⟨cs, t, x.get e⟩), (let ⟨cs, t, e⟩ := h.row7; ⟨cs, t, x.get e⟩)⟩
def anyBad (l : List ByteArray) : Bool := l.any fun s => !nameOk s
def namesErr (l : List ByteArray) : Nat := bif anyBad l then 5 else bif dupS l then 7 else 0
def IdxF (p : Int → Bool) (l : List Int) (r : Int) : Prop := (r = -1 ∧ ∀ x ∈ l, p x = false) ∨ ∃ (i : Nat) (x : Int), r = (i : Int) ∧ i < l.length ∧ l[i]? = some x ∧ p x = true ∧ ∀ j y, j < i → l[j]? = some y → p y = false
def pval (a1 a2 a3 : Option Addr) (c1 c2 c3 : Nat) (P : PP) : Value := .agg #[.slice a1 P.vars.length c1, .slice a2 P.funs.length c2, .slice a3 P.stmts.length c3]
def pcells (a1 a2 a3 : Option Addr) (c1 c2 c3 : Nat) (P : PP) : Array Value := #[.slice a1 P.vars.length c1, .slice a2 P.funs.length c2, .slice a3 P.stmts.length c3]
def PS.isK (s : PS) (k : List UInt8) : Bool := s.kind.toList == k
def kFun : List UInt8 := [102, 117, 110]
def kNew : List UInt8 := [110, 101, 119]
def kCall : List UInt8 := [99, 97, 108, 108]
def PP.boundY (P : PP) (s : PS) : Bool := bif s.isK kFun then decide (0 ≤ s.y) && decide (s.y < (P.funs.length : Int)) else bif s.isK kNew then true else P.inV s.y
def PP.bound (P : PP) (s : PS) : Bool := P.inV s.x && P.boundY s && P.allV s.args
def kindsS : List ByteArray := [⟨#[97, 100, 100, 114]⟩, ⟨#[99, 111, 112, 121]⟩, ⟨#[108, 111, 97, 100]⟩, ⟨#[115, 116, 111, 114, 101]⟩, ⟨#[110, 101, 119]⟩, ⟨#[102, 117, 110]⟩, ⟨#[99, 97, 108, 108]⟩]
def PP.stmtErr (P : PP) (s : PS) : Nat := bif !memB s.kind kindsS then 4 else bif !P.bound s then 2 else bif s.isK kCall && decide (3 < s.args.length) then 9 else bif (!s.isK kCall && decide (0 < s.args.length)) || (s.isK kNew && !decide (s.y = 0)) then 3 else 0
def sval (s : PS) (a : Option Addr) (cap : Nat) : Value := .agg #[.string s.kind, .int .i64 s.x, .int .i64 s.y, .slice a s.args.length cap]
def scells (s : PS) (a : Option Addr) (cap : Nat) : Array Value := #[.string s.kind, .int .i64 s.x, .int .i64 s.y, .slice a s.args.length cap]
theorem add_posU (a : Addr) (j : Nat) (h : j ≠ 0) : a.add j = ⟨a.block, a.off + j, none⟩ := by simp [Addr.add, h]
def bad9 (f : PF) : Bool := decide (3 < f.params.length)
def PP.bad2 (P : PP) (f : PF) : Bool := !P.allV f.params || !P.inV f.ret
def bad7 (f : PF) : Bool := dupI f.params
def PP.funsErr (P : PP) : Nat := bif P.funs.any bad9 then 9 else bif P.funs.any P.bad2 then 2 else bif P.funs.any bad7 then 7 else 0
theorem FunsR.at {w : World} {n0 : Nat} {a : Option Addr} {n cap : Nat} {l : List PF} (h : FunsR w n0 (.slice a n cap) l) {k : Nat} (hk : k < l.length) : ∃ (y : Addr) (f : PF) (av : Option Addr) (cv : Nat), a = some y ∧ l[k]? = some f ∧ w.cell? (y.add (k * 3)) = some (.string f.name) ∧ w.cell? ⟨(y.add (k * 3)).block, (y.add (k * 3)).off + 1, none⟩ = some (.slice av f.params.length cv) ∧ w.cell? ⟨(y.add (k * 3)).block, (y.add (k * 3)).off + 2, none⟩ = some (.int .i64 f.ret) ∧ IntsR w n0 (.slice av f.params.length cv) f.params := by
  obtain ⟨a', cap', h1, _, _, h4, h5⟩ := h
  obtain ⟨rfl, rfl, rfl⟩ : a = a' ∧ n = l.length ∧ cap = cap' := by simpa using h1
  obtain ⟨y, hy⟩ := h4 (by omega)
  obtain ⟨pv, e0, e1, e2, e3⟩ := (h5 y hy (by omega)).2 k hk (l[k]'hk) (List.getElem?_eq_getElem hk)
  obtain ⟨av, cv, rfl, _⟩ := id e3
  rw [add_posU _ _ (by decide)] at e1 e2
  exact ⟨y, _, av, cv, hy, List.getElem?_eq_getElem hk, e0, e1, e2, e3⟩
theorem StmtsR.at {w : World} {n0 : Nat} {a : Option Addr} {n cap : Nat} {l : List PS} (h : StmtsR w n0 (.slice a n cap) l) {k : Nat} (hk : k < l.length) : ∃ (y : Addr) (s : PS) (av : Option Addr) (cv : Nat), a = some y ∧ l[k]? = some s ∧ w.cell? (y.add (k * 4)) = some (.string s.kind) ∧ w.cell? ⟨(y.add (k * 4)).block, (y.add (k * 4)).off + 1, none⟩ = some (.int .i64 s.x) ∧ w.cell? ⟨(y.add (k * 4)).block, (y.add (k * 4)).off + 2, none⟩ = some (.int .i64 s.y) ∧ w.cell? ⟨(y.add (k * 4)).block, (y.add (k * 4)).off + 3, none⟩ = some (.slice av s.args.length cv) ∧ IntsR w n0 (.slice av s.args.length cv) s.args := by
  obtain ⟨a', cap', h1, _, _, h4, h5⟩ := h
  obtain ⟨rfl, rfl, rfl⟩ : a = a' ∧ n = l.length ∧ cap = cap' := by simpa using h1
  obtain ⟨y, hy⟩ := h4 (by omega)
  obtain ⟨pv, e0, e1, e2, e3, e4⟩ := (h5 y hy (by omega)).2 k hk (l[k]'hk) (List.getElem?_eq_getElem hk)
  obtain ⟨av, cv, rfl, _⟩ := id e4
  rw [add_posU _ _ (by decide)] at e1 e2 e3
  exact ⟨y, _, av, cv, hy, List.getElem?_eq_getElem hk, e0, e1, e2, e3, e4⟩
theorem FunsR.len {w : World} {n0 : Nat} {a : Option Addr} {n cap : Nat} {l : List PF} (h : FunsR w n0 (.slice a n cap) l) : (l.length : Int) ≤ 9223372036854775807 := by
  obtain ⟨_, _, _, h2, h3, _⟩ := h
  omega
theorem StmtsR.len {w : World} {n0 : Nat} {a : Option Addr} {n cap : Nat} {l : List PS} (h : StmtsR w n0 (.slice a n cap) l) : (l.length : Int) ≤ 9223372036854775807 := by
  obtain ⟨_, _, _, h2, h3, _⟩ := h
  omega
end Go.Proofs.YtbagppdibncfdaaGreatDoor
namespace Go.Proofs.YtbagppdibncfdaaGreatDoor
open Go Go.RowKit Go.MapKept
def MapAt (w : World) (b : Nat) (m : List (Int × Value)) : Prop := ∃ es clock, w.heap[b]? = some (.map es clock) ∧ es.toList.map (fun x => (x.key, x.val)) = m.map fun x => (Value.int .i64 x.1, x.2)
def mfind (m : List (Int × Value)) (k : Int) (i : Nat) : Option (Nat × Value) := match m with
  | [] => none
  | x :: r => if k == x.1 then some (i, x.2) else mfind r k (i + 1)
def mval (m : List (Int × Value)) (k : Int) : Option Value := (mfind m k 0).map (·.2)
theorem MapAt.ext {w w' : World} {b : Nat} {m : List (Int × Value)} (h : MapAt w b m) (x : Ext w w') : MapAt w' b m := by
  obtain ⟨es, c, hb, he⟩ := h
  exact ⟨es, c, Ext.get x hb, he⟩
theorem MapAt.keep {X : Nat → Prop} {w w' : World} {b : Nat} {m : List (Int × Value)} (h : MapAt w b m) (x : Keep X w w') (hx : ¬ X b) : MapAt w' b m := by
  obtain ⟨es, c, hb, he⟩ := h
  exact ⟨es, c, Keep.get x hb hx, he⟩
theorem MapAt.lt {w : World} {b : Nat} {m : List (Int × Value)} (h : MapAt w b m) : b < w.heap.size := by
  obtain ⟨es, c, hb, he⟩ := h
  exact (Array.getElem?_eq_some_iff.1 hb).1
theorem MapAt.ne {w : World} {b g : Nat} {m : List (Int × Value)} (h : MapAt w b m) {c : Array Value} {e : TypeId} (hb : Blk w g c e) : g ≠ b := by
  rintro rfl
  obtain ⟨es, c, h1, _⟩ := h
  have := h1.symm.trans hb
  cases this
theorem MapAt.new (w : World) : MapAt (w.alloc (.map #[] 0)) w.heap.size [] := ⟨#[], 0, heap_alloc_new w _, rfl⟩
section
variable {P : Program} {w : World} {t kt et : TypeId} {b : Nat} {m : List (Int × Value)}
variable {ops : Array Oper} {Q : Exit → Act → World → Prop} {rest : List Oper} {o : Oper} {a : Act}
end
end Go.Proofs.YtbagppdibncfdaaGreatDoor
namespace Go.Proofs.YtbagppdibncfdaaGreatDoor
open Go Go.RowKit
section
variable {w : World} {base : Nat} {e : TypeId} {size g n cap : Nat} {xs : List Value}
theorem own_blk (h : w.ownsRow base e size (.slice (some ⟨g, 0, none⟩) n cap) n xs) : ∃ cur, Blk w g cur e ∧ base ≤ g ∧ n ≤ cap ∧ cap ≤ maxLen ∧ cur.size = cap * size ∧ cur.toList.take (n * size) = xs := by
  rcases h.2 with ⟨h1, _⟩ | ⟨g', cap', cur, h1, h2, h3, h4, h5, h6, h7⟩
  · cases h1
  · simp only [Value.slice.injEq, Option.some.injEq, Addr.mk.injEq, and_true] at h1
    obtain ⟨rfl, _, rfl⟩ := h1
    exact ⟨cur, h3, h2, h4, h5, h6, h7⟩
theorem own_get (h : w.ownsRow base e size (.slice (some ⟨g, 0, none⟩) n cap) n xs) (i : Nat) {u : Value} (hu : xs[i]? = some u) : w.cell? ⟨g, i, none⟩ = some u := by
  have := h.cells (g := g) rfl i u hu
  rwa [show (⟨g, 0, none⟩ : Addr).add i = ⟨g, i, none⟩ from by by_cases h0 : i = 0 <;> simp [Addr.add, h0]] at this
theorem own_free (h : w.ownsRow base e size (.slice (some ⟨g, 0, none⟩) n cap) n xs) (i : Nat) : w.frozen? ⟨g, i, none⟩ = false := by
  obtain ⟨cur, hb, _⟩ := own_blk h
  exact hb.free i
theorem row_form {v : Value} (h : w.ownsRow base e size v n xs) : ∃ a c, v = .slice a n c := by
  rcases h.2 with ⟨h2, h3⟩ | ⟨g, cap, cur, h2, _⟩
  · exact ⟨none, 0, by rw [h2, h3]⟩
  · exact ⟨_, _, h2⟩
theorem row_keep {w' : World} {v : Value} {X : Nat → Prop} (h : w.ownsRow base e size v n xs) (k : Keep X w w') (hx : ∀ i, v.ownBlock = some i → ¬ X i) : w'.ownsRow base e size v n xs := by
  obtain ⟨h1, h2⟩ := h
  refine ⟨h1, h2.imp id ?_⟩
  rintro ⟨g, cap, cur, rfl, hb, hg, h3⟩
  exact ⟨g, cap, cur, rfl, hb, Keep.get k hg (hx g rfl), h3⟩
theorem own_some {v : Value} (h : w.ownsRow base e size v n xs) (hn : 0 < n) : ∃ g cap, v = .slice (some ⟨g, 0, none⟩) n cap := by
  rcases h.2 with ⟨_, h1⟩ | ⟨g', cap', cur, h1, _⟩
  · omega
  · exact ⟨g', cap', h1⟩
theorem own_ty {v : Value} (h : w.ownsRow base e size v n xs) {k : Nat} (hk : v.ownBlock = some k) : ∃ c, Blk w k c e := by
  rcases h.2 with ⟨rfl, _⟩ | ⟨g, cap, cur, rfl, _, hg, _⟩
  · simp [Value.ownBlock] at hk
  · simp only [Value.ownBlock, Option.some.injEq] at hk
    subst hk
    exact ⟨cur, hg⟩
end
theorem Blk.inj {w : World} {b : Nat} {c c' : Array Value} {e e' : TypeId} (h : Blk w b c e) (h' : Blk w b c' e') : c = c' ∧ e = e' := by
  unfold Blk at h h'
  rw [h] at h'
  simp only [Option.some.injEq, Obj.cells.injEq, and_true] at h'
  exact h'
theorem Blk.ty_ne {w : World} {a b : Nat} {c c' : Array Value} {e e' : TypeId} (h : Blk w a c e) (h' : Blk w b c' e') (hne : e ≠ e') : a ≠ b := fun q => hne (by subst q; exact (h.inj h').2)
theorem fm_len {α : Type} (f : α → List Value) (m : Nat) (hf : ∀ x, (f x).length = m) (l : List α) : (l.flatMap f).length = l.length * m := by
  induction l with
  | nil => simp
  | cons x l ih => simp only [List.flatMap_cons, List.length_append, hf, ih, List.length_cons, Nat.add_mul]; omega
theorem fm_get {α : Type} (f : α → List Value) (m : Nat) (hf : ∀ x, (f x).length = m) : ∀ (l : List α) (i j : Nat) (x : α), l[i]? = some x → j < m → (l.flatMap f)[i * m + j]? = (f x)[j]?
  | [], i, j, x, h, _ => by simp at h
  | y :: l, 0, j, x, h, hj => by
    simp only [List.getElem?_cons_zero, Option.some.injEq] at h
    subst h
    rw [List.flatMap_cons, Nat.zero_mul, Nat.zero_add, List.getElem?_append_left (by rw [hf]; exact hj)]
  | y :: l, i + 1, j, x, h, hj => by
    have ih := fm_get f m hf l i j x (by simpa using h) hj
    rw [List.flatMap_cons, List.getElem?_append_right (by rw [hf, Nat.add_mul]; omega), hf, ← ih]
    congr 1
    rw [Nat.add_mul]; omega
theorem fm_take {α : Type} (f : α → List Value) (m : Nat) (hf : ∀ x, (f x).length = m) : ∀ (l : List α) (k : Nat), (l.flatMap f).take (k * m) = (l.take k).flatMap f
  | l, 0 => by simp
  | [], k + 1 => by simp
  | y :: l, k + 1 => by
    rw [List.take_succ_cons, List.flatMap_cons, List.flatMap_cons, List.take_append, hf, List.take_of_length_le (by rw [hf, Nat.add_mul]; omega), ← fm_take f m hf l k]
    congr 2
    rw [Nat.add_mul]; omega
theorem fm_drop {α : Type} (f : α → List Value) (m : Nat) (hf : ∀ x, (f x).length = m) : ∀ (l : List α) (k : Nat), (l.flatMap f).drop (k * m) = (l.drop k).flatMap f
  | l, 0 => by simp
  | [], k + 1 => by simp
  | y :: l, k + 1 => by
    rw [List.drop_succ_cons, List.flatMap_cons, List.drop_append, hf, List.drop_of_length_le (by rw [hf, Nat.add_mul]; omega), ← fm_drop f m hf l k, List.nil_append]
    congr 1
    rw [Nat.add_mul]; omega
def IsInt (w : World) (b : Nat) : Prop := ∃ c z, w.heap[b]? = some (.cells c 3 z)
theorem IsInt.keep {X : Nat → Prop} {w w' : World} {b : Nat} (h : IsInt w b) (k : Keep X w w') (hx : ¬ X b) : IsInt w' b := by
  obtain ⟨c, z, h⟩ := h
  exact ⟨c, z, Keep.get k h hx⟩
theorem IsInt.not {w : World} {b : Nat} {c : Array Value} {e : TypeId} (h : Blk w b c e) (hne : e ≠ 3) : ¬ IsInt w b := by
  rintro ⟨c', z, h'⟩
  unfold Blk at h
  rw [h] at h'
  simp only [Option.some.injEq, Obj.cells.injEq] at h'
  exact hne h'.2.1
structure NumsAt (w : World) (n0 : Nat) (t : Option Nat) (v : Value) (l : List Int) : Prop where
  form : ∃ a cap, v = .slice a l.length cap ∧ Ints w a l.length l ∧ ∀ x, a = some x → 0 < l.length → x.block < n0 ∨ (IsInt w x.block ∧ t ≠ some x.block)
def Wr (w : World) (n0 : Nat) (t : Option Nat) (X : Nat → Prop) : Prop := ∀ b, X b → b < w.heap.size → n0 ≤ b ∧ (IsInt w b → t = some b)
theorem Ints.keep {X : Nat → Prop} {w w' : World} {a : Option Addr} {len : Nat} {vs : List Int} (h : Ints w a len vs) (k : Keep X w w') (hx : ∀ x, a = some x → 0 < len → ¬ X x.block) : Ints w' a len vs :=
  ⟨h.ln, h.sm, fun y hy i hi => k.cellx (h.cl y hy i hi) (by rw [add_block]; exact hx y hy (by omega)), h.hi⟩
theorem Ints.blt {w : World} {a : Option Addr} {len : Nat} {vs : List Int} (h : Ints w a len vs) {x : Addr} (hx : a = some x) (hl : 0 < len) : x.block < w.heap.size := by
  have := cell_lt (h.cl x hx 0 hl)
  rwa [add_block] at this
section
variable {w w' : World} {n0 : Nat} {t : Option Nat} {v : Value} {l : List Int}
theorem NumsAt.keep {X : Nat → Prop} (h : NumsAt w n0 t v l) (k : Keep X w w') (hx : Wr w n0 t X) : NumsAt w' n0 t v l := by
  obtain ⟨a, cap, rfl, hi, hb⟩ := h
  have hne : ∀ x, a = some x → 0 < l.length → ¬ X x.block := fun x hx' hl hX => by
    obtain ⟨h1, h2⟩ := hx _ hX (hi.blt hx' hl)
    rcases hb x hx' hl with h3 | h3
    · omega
    · exact h3.2 (h2 h3.1)
  exact ⟨a, cap, rfl, hi.keep k hne, fun x hx' hl => (hb x hx' hl).imp id fun h => ⟨h.1.keep k (hne x hx' hl), h.2⟩⟩
theorem Wr.none {w : World} {n0 : Nat} {t : Option Nat} : Wr w n0 t fun _ => False := fun _ h => h.elim
theorem NumsAt.ext (h : NumsAt w n0 t v l) (x : Ext w w') : NumsAt w' n0 t v l := h.keep (x.keep fun _ => False) Wr.none
theorem NumsAt.turn (h : NumsAt w n0 t v l) {t' : Option Nat} (ht : ∀ b, t' = some b → t = some b ∨ w.heap.size ≤ b) : NumsAt w n0 t' v l := by
  obtain ⟨a, cap, rfl, hi, hb⟩ := h
  refine ⟨a, cap, rfl, hi, fun x hx hl => (hb x hx hl).imp id fun h => ⟨h.1, fun e => ?_⟩⟩
  rcases ht _ e with h1 | h1
  · exact h.2 h1
  · have := hi.blt hx hl; omega
theorem NumsAt.hi (h : NumsAt w n0 t v l) : ∀ i, l.getD i 0 ≤ 9223372036854775807 := by
  obtain ⟨a, cap, rfl, hi, hb⟩ := h
  exact hi.hi
end
structure FV where
  f : Fr
  v : Value
def FV.cells (x : FV) : List Value := [.int .u8 (x.f.kind.toNat : Int), .int .i64 x.f.fr, .int .i64 x.f.to, .int .i64 x.f.seq, x.v]
def FV.val (x : FV) : Value := .agg #[.int .u8 (x.f.kind.toNat : Int), .int .i64 x.f.fr, .int .i64 x.f.to, .int .i64 x.f.seq, x.v]
def FV.At (w : World) (n0 : Nat) (t : Option Nat) (x : FV) : Prop := NumsAt w n0 t x.v x.f.nums
theorem FV.cells_len (x : FV) : x.cells.length = 5 := rfl
theorem FV.At.form {w : World} {n0 : Nat} {t : Option Nat} {x : FV} (h : x.At w n0 t) : ∃ a cap, x.val = frv x.f a cap ∧ x.v = .slice a x.f.nums.length cap ∧ Ints w a x.f.nums.length x.f.nums := by
  obtain ⟨a, cap, hv, hi, _⟩ := NumsAt.form h
  exact ⟨a, cap, by unfold FV.val frv; rw [hv], hv, hi⟩
structure FRow (w : World) (n0 : Nat) (t : Option Nat) (base : Nat) (e : TypeId) (v : Value) (fs : List FV) : Prop where
  row : w.ownsRow base e 5 v fs.length (fs.flatMap FV.cells)
  nums : ∀ x ∈ fs, x.At w n0 t
theorem FRow.nil (w : World) (n0 : Nat) (t : Option Nat) (base : Nat) (e : TypeId) : FRow w n0 t base e (.slice none 0 0) [] := ⟨World.ownsRow_nil _ _ _ _, fun _ h => by cases h⟩
theorem FRow.keep {w w' : World} {n0 : Nat} {t : Option Nat} {base : Nat} {e : TypeId} {v : Value} {fs : List FV} {X : Nat → Prop} (h : FRow w n0 t base e v fs) (k : Keep X w w') (hx : Wr w n0 t X) (hr : ∀ b, v.ownBlock = some b → ¬ X b) : FRow w' n0 t base e v fs :=
  ⟨row_keep h.row k hr, fun x hm => NumsAt.keep (h.nums x hm) k hx⟩
theorem FRow.ext {w w' : World} {n0 : Nat} {t : Option Nat} {base : Nat} {e : TypeId} {v : Value} {fs : List FV} (h : FRow w n0 t base e v fs) (x : Ext w w') : FRow w' n0 t base e v fs := h.keep (x.keep fun _ => False) Wr.none fun _ _ h => h
theorem FRow.form {w : World} {n0 : Nat} {t : Option Nat} {base : Nat} {e : TypeId} {v : Value} {fs : List FV} (h : FRow w n0 t base e v fs) : ∃ a cap, v = .slice a fs.length cap := row_form h.row
end Go.Proofs.YtbagppdibncfdaaGreatDoor
namespace Go.Proofs.YtbagppdibncfdaaGreatDoor
structure Snd where
  fr : Int
  to : Int
  next : Int
  now : Int
  l : List (Fr × Int)
namespace Snd
def new (fr to : Int) : Snd := ⟨fr, to, 0, 0, []⟩
def frame (s : Snd) (kind : UInt8) (nums : List Int) : Fr := ⟨kind, s.fr, s.to, s.next, nums⟩
def err (s : Snd) (kind : UInt8) (nums : List Int) : Nat := if (s.frame kind nums).code ≠ 0 then (s.frame kind nums).code else if kind = 97 then 4 else if 200 ≤ s.l.length then 8 else 0
def sent (s : Snd) (kind : UInt8) (nums : List Int) : Snd := { s with next := s.next + 1, l := s.l ++ [(s.frame kind nums, s.now)] }
def send (s : Snd) (kind : UInt8) (nums : List Int) : Snd := if s.err kind nums = 0 then s.sent kind nums else s
def late (s : Snd) (k : Fr × Int) : Bool := decide (s.now + 1 - k.2 = 3)
def stamp (s : Snd) (k : Fr × Int) : Fr × Int := if s.late k then (k.1, s.now + 1) else k
def tick (s : Snd) : Snd := { s with now := s.now + 1, l := s.l.map s.stamp }
def again (s : Snd) : List Fr := (s.l.filter s.late).map (·.1)
def acked (s : Snd) (n : Int) : Snd := { s with l := s.l.filter fun k => decide (n ≤ k.1.seq) }
structure Ok (s : Snd) (m : Nat) : Prop where
  next : 0 ≤ s.next ∧ s.next ≤ m
  now : 0 ≤ s.now ∧ s.now ≤ m
  at_ : ∀ k ∈ s.l, 0 ≤ k.2 ∧ k.2 ≤ s.now
  len : s.l.length ≤ 200
theorem Ok.new (fr to : Int) : (new fr to).Ok 0 := ⟨by simp [Snd.new], by simp [Snd.new], by simp [Snd.new], by simp [Snd.new]⟩
theorem Ok.mono {s : Snd} {m k : Nat} (h : s.Ok m) (hk : m ≤ k) : s.Ok k := ⟨by have := h.next; omega, by have := h.now; omega, h.at_, h.len⟩
theorem err_zero {s : Snd} {kind : UInt8} {nums : List Int} (h : s.err kind nums = 0) : (s.frame kind nums).code = 0 ∧ kind ≠ 97 ∧ s.l.length < 200 := by
  unfold err at h
  split at h
  · contradiction
  rename_i h1
  split at h
  · contradiction
  rename_i h2
  split at h
  · contradiction
  rename_i h3
  exact ⟨by omega, h2, by omega⟩
theorem Ok.sent {s : Snd} {m : Nat} (h : s.Ok m) {kind : UInt8} {nums : List Int} (hl : s.l.length < 200) : (s.sent kind nums).Ok (m + 1) := by
  have h1 := h.next
  have h2 := h.now
  refine ⟨by simp only [Snd.sent]; omega, by simp only [Snd.sent]; omega, fun k hk => ?_, by simp only [Snd.sent, List.length_append, List.length_cons, List.length_nil]; omega⟩
  simp only [Snd.sent, List.mem_append, List.mem_singleton] at hk ⊢
  rcases hk with hk | rfl
  · exact h.at_ k hk
  · exact ⟨h2.1, Int.le_refl _⟩
theorem Ok.send {s : Snd} {m : Nat} (h : s.Ok m) (kind : UInt8) (nums : List Int) : (s.send kind nums).Ok (m + 1) := by
  unfold Snd.send
  split
  · rename_i he
    exact h.sent (err_zero he).2.2
  · exact h.mono (by omega)
theorem Ok.tick {s : Snd} {m : Nat} (h : s.Ok m) : s.tick.Ok (m + 1) := by
  have h1 := h.next
  have h2 := h.now
  refine ⟨by simp only [Snd.tick]; omega, by simp only [Snd.tick]; omega, fun k hk => ?_, by simpa [Snd.tick] using h.len⟩
  simp only [Snd.tick, List.mem_map] at hk ⊢
  obtain ⟨x, hx, rfl⟩ := hk
  have := h.at_ x hx
  unfold stamp
  split
  · simp only; omega
  · omega
theorem Ok.acked {s : Snd} {m : Nat} (h : s.Ok m) (n : Int) : (s.acked n).Ok m :=
  ⟨h.next, h.now, fun k hk => h.at_ k ((List.mem_filter.1 hk).1), Nat.le_trans (List.length_filter_le _ _) h.len⟩
end Snd
structure Rcv where
  fr : Int
  to : Int
  due : Int
  wait : List Fr
namespace Rcv
def new (fr to : Int) : Rcv := ⟨fr, to, 0, []⟩
def find (l : List Fr) (q : Int) : Option Nat := l.findIdx? fun f => decide (f.seq = q)
def run : Nat → Rcv → List Fr → List Fr × Rcv
  | 0, r, out => (out, r)
  | n + 1, r, out => match find r.wait r.due with
    | none => (out, r)
    | some k => run n { r with due := r.due + 1, wait := r.wait.eraseIdx k } (out ++ (r.wait[k]?).toList)
def err (r : Rcv) (f : Fr) : Nat := if f.code ≠ 0 then f.code else if f.fr ≠ r.fr ∨ f.to ≠ r.to ∨ f.kind = 97 then 3 else 0
def took (r : Rcv) (f : Fr) : List Fr × Rcv :=
  if f.seq < r.due ∨ (find r.wait f.seq).isSome then ([], r)
  else if r.due < f.seq then ([], if r.wait.length < 8 then { r with wait := r.wait ++ [f] } else r)
  else run (r.wait.length + 1) { r with due := r.due + 1 } [f]
def take (r : Rcv) (f : Fr) : List Fr × Rcv := if r.err f = 0 then r.took f else ([], r)
end Rcv
end Go.Proofs.YtbagppdibncfdaaGreatDoor
namespace Go.Proofs.YtbagppdibncfdaaGreatDoor
open Go Go.RowKit
def endsCode (fr to : Int) : Nat := if fr < 0 ∨ 6 ≤ fr ∨ to < 0 ∨ 6 ≤ to then 2 else if fr = to then 3 else 0
def kcells (x : FV × Int) : List Value := x.1.cells ++ [.int .i64 x.2]
section
variable {w : World} {n0 : Nat} {t : Option Nat}
theorem Wr.blk {b : Nat} {c : Array Value} {e : TypeId} (hb : Blk w b c e) (hne : e ≠ 3) (hl : n0 ≤ b) : Wr w n0 t fun k => k = b :=
  fun k hk _ => ⟨by omega, fun hi => absurd hi (by subst hk; exact IsInt.not hb hne)⟩
theorem Wr.or {X Y : Nat → Prop} (h1 : Wr w n0 t X) (h2 : Wr w n0 t Y) : Wr w n0 t fun b => X b ∨ Y b := fun b hb hl => hb.elim (fun h => h1 b h hl) fun h => h2 b h hl
theorem Wr.row {v : Value} {e : TypeId} {size n : Nat} {xs : List Value} (h : w.ownsRow n0 e size v n xs) (hne : e ≠ 3) : Wr w n0 t fun k => v.ownBlock = some k :=
  fun k hk _ => ⟨(World.ownsRow.lt h k hk).1, fun hi => by
    obtain ⟨c, hc⟩ := own_ty h hk
    exact absurd hi (IsInt.not hc hne)⟩
theorem Wr.sub {X Y : Nat → Prop} (h : Wr w n0 t Y) (hx : ∀ b, X b → b < w.heap.size → Y b) : Wr w n0 t X := fun b hb hl => h b (hx b hb hl) hl
end
def kval (x : FV × Int) : Value := .agg #[.int .u8 (x.1.f.kind.toNat : Int), .int .i64 x.1.f.fr, .int .i64 x.1.f.to, .int .i64 x.1.f.seq, x.1.v, .int .i64 x.2]
def store6 (w : World) (g i : Nat) (y : FV × Int) : World := (((((w.setCell ⟨g, i, none⟩ (.int .u8 (y.1.f.kind.toNat : Int))).setCell ⟨g, i + 1, none⟩ (.int .i64 y.1.f.fr)).setCell ⟨g, i + 2, none⟩ (.int .i64 y.1.f.to)).setCell ⟨g, i + 3, none⟩ (.int .i64 y.1.f.seq)).setCell ⟨g, i + 4, none⟩ y.1.v).setCell ⟨g, i + 5, none⟩ (.int .i64 y.2)
def keptB (n : Int) (x : FV × Int) : Bool := decide (n ≤ x.1.f.seq)
def kz : Array Value := #[.int .u8 0, .int .i64 0, .int .i64 0, .int .i64 0, .slice none 0 0, .int .i64 0]
theorem wpList_append_el {ops : Array Oper} {Q : Exit → Act → World → Prop} {rest : List Oper} {o : Oper} {a : Act} {w : World} (base : Nat) (hbase : base ≤ w.heap.size) (t e : TypeId) (z : Value) (size bytes : Nat) (ht : Tryz.prog.underlying t = some (.slice e)) (hinf : (Tryz.prog.info? e).map (fun i => (i.zero, i.size, i.bytes)) = some (some z, size, bytes)) (hz1 : z.cells.size = size) (hsz : 0 < size)
    (hb8 : bytes ≤ 64) (hg : o.guard = none) (s x : Operand) (ho : o.op = .call { callee := .builtin .append, args := #[s, x], argTypes := #[t, t] })
    (v : Value) (n : Nat) (xs : List Value) (hs : a.eval s = v) (hown : w.ownsRow base e size v n xs) (g : Nat) (us : List Value) (hul : us.length = size) (hu : ∀ u ∈ us, u.oneCell' = true) (hx : a.eval x = .slice (some ⟨g, 0, none⟩) 1 1) (hb : Blk w g us.toArray e) (hl : n ≤ 1000000)
    (h : ∀ v' w', w'.ownsRow base e size v' (n + 1) (xs ++ us) → Keep (fun k => v.ownBlock = some k) w w' → (v'.ownBlock = v.ownBlock ∨ v'.ownBlock = some w.heap.size) → wpList Tryz.prog ops Q rest (a.put o.dst v') w') : wpList Tryz.prog ops Q (o :: rest) a w := by
  obtain ⟨ti, hi, hz0, hz, hz2⟩ := info_parts hinf
  obtain ⟨v', w', hr, h2, h3, _, h4⟩ := run_append_own_at (P := Tryz.prog) w base t o.type e ti z size bytes ht hi hz0 hz hz2 hz1 hsz v n xs hown ⟨g, 0, none⟩ 1 1 us (by rw [hul]; omega) (fun j q hq => by
    rw [show (⟨g, 0, none⟩ : Addr).add j = ⟨g, j, none⟩ from by by_cases h0 : j = 0 <;> simp [Addr.add, h0], hb.cell j]
    simpa using hq) hu (by simp only [maxLen]; omega) (by
      have : (n + 1) * bytes ≤ (n + 1) * 64 := Nat.mul_le_mul_left _ hb8
      omega) hbase
  refine wpList_plain hg fun K hK => ?_
  unfold Oper.wp
  rw [run_exec_append s x t ho hs hx hr]
  exact hK _ _ (h v' w' h2 (grown_keep h3) h4)
theorem str_info : (Tryz.prog.info? 9).map (fun i => (i.zero, i.size, i.bytes)) = some (some (.string ⟨#[]⟩), 1, 16) := by kernel_rfl
theorem ElR.own {w : World} {base n0 : Nat} {e : TypeId} {size : Nat} {v : Value} {n : Nat} {xs : List Value} {E : Nat → Addr → Prop} (h : w.ownsRow base e size v n xs) (h0 : w.heap.size ≤ n0) (hE : ∀ g, (∀ i u, xs[i]? = some u → w.cell? ((⟨g, 0, none⟩ : Addr).add i) = some u) → ∀ i, i < n → E i ⟨g, 0, none⟩) : ElR n0 v n E := by
  obtain ⟨hl, h2⟩ := id h
  rcases h2 with ⟨rfl, rfl⟩ | ⟨g, cap, cur, rfl, hb, hg, hn, hc, hs, _⟩
  · exact ⟨none, 0, rfl, Nat.le_refl _, by omega, fun h => by omega, fun y hy => by cases hy⟩
  · have hml : maxLen = 9223372036854775807 := by decide
    refine ⟨_, cap, rfl, hn, by omega, fun _ => ⟨_, rfl⟩, fun y hy hp => ?_⟩
    obtain rfl := Option.some.inj hy
    refine ⟨Nat.lt_of_lt_of_le (Array.getElem?_eq_some_iff.1 hg).1 h0, hE g fun i u hu => h.cells (g := g) rfl i u hu⟩
theorem StrsR.own {w : World} {base n0 : Nat} {e : TypeId} {v : Value} {l : List ByteArray} (h : w.ownsRow base e 1 v l.length (l.map .string)) (h0 : w.heap.size ≤ n0) : StrsR w n0 v l :=
  ElR.own h h0 fun g hc i hi s hs => hc i _ (by rw [List.getElem?_map, hs]; rfl)
theorem IntsR.own {w : World} {base n0 : Nat} {e : TypeId} {v : Value} {l : List Int} (h : w.ownsRow base e 1 v l.length (icells l)) (h0 : w.heap.size ≤ n0) : IntsR w n0 v l :=
  ElR.own h h0 fun g hc i hi s hs => hc i _ (by unfold icells; rw [List.getElem?_map, hs]; rfl)
def PP.big (P : PP) : Bool := decide (40 < P.vars.length) || decide (6 < P.funs.length) || decide (80 < P.stmts.length)
def PP.names (P : PP) : List ByteArray := P.funs.map PF.name
def PP.err1 (P : PP) : Nat := bif P.big then 8 else if namesErr P.vars = 5 ∨ namesErr P.names = 5 then 5 else if namesErr P.vars = 7 ∨ namesErr P.names = 7 then 7 else P.funsErr
def PP.FirstBad (P : PP) (i : Nat) (s : PS) : Prop := P.stmts[i]? = some s ∧ P.stmtErr s ≠ 0 ∧ ∀ j t, j < i → P.stmts[j]? = some t → P.stmtErr t = 0
def PP.allWell (P : PP) : Prop := ∀ j t, j < P.stmts.length → P.stmts[j]? = some t → P.stmtErr t = 0
def ErrIs (ad : Nat → Addr) (P : PP) (w : World) (v : Value) : Prop :=
  (P.err1 ≠ 0 ∧ v = evOf ad P.err1) ∨ (P.err1 = 0 ∧ P.allWell ∧ v = .nilIface) ∨
  (P.err1 = 0 ∧ ∃ i s b, P.FirstBad i s ∧ v = .iface 92 (.pointer (some ⟨b, 0, none⟩)) ∧ Blk w b #[.int .i64 (i : Int), evOf ad (P.stmtErr s)] 94)
inductive Vl where
  | none
  | var (n : Nat)
  | thing (n : Nat)
  | fn (n : Nat)
def Vl.kind : Vl → ByteArray
  | .none => ⟨#[110, 111, 110, 101]⟩
  | .var _ => ⟨#[118, 97, 114]⟩
  | .thing _ => ⟨#[116, 104, 105, 110, 103]⟩
  | .fn _ => ⟨#[102, 117, 110]⟩
def Vl.num : Vl → Nat
  | .none => 0
  | .var n => n
  | .thing n => n
  | .fn n => n
def Vl.cells (v : Vl) : List Value := [.string v.kind, .int .i64 (v.num : Int)]
theorem Vl.cells_len (v : Vl) : v.cells.length = 2 := rfl
def Vl.In (nv nt nf : Nat) : Vl → Prop
  | .none => True
  | .var n => n < nv
  | .thing n => n < nt
  | .fn n => n < nf
theorem Vl.In.mono {nv nt nf nt' : Nat} {v : Vl} (h : v.In nv nt nf) (hn : nt ≤ nt') : v.In nv nt' nf := by
  cases v <;> simp only [Vl.In] at h ⊢ <;> omega
structure Rn where
  vars : List Vl
  things : List Vl
  places : List Nat
def Rn.at (s : Rn) (n : Int) : Vl := s.vars.getD n.toNat .none
def Rn.get (s : Rn) : Vl → Vl
  | .var n => s.vars.getD n .none
  | .thing n => s.things.getD n .none
  | _ => .none
def Vl.isAddr : Vl → Bool
  | .var _ => true
  | .thing _ => true
  | _ => false
def Rn.set (s : Rn) (n : Int) (v : Vl) : Rn := { s with vars := s.vars.set n.toNat v }
def Rn.put (s : Rn) (c v : Vl) : Rn :=
  match c with
  | .var n => { s with vars := s.vars.set n v }
  | .thing n => { s with things := s.things.set n v }
  | _ => s
def kAddr : List UInt8 := [97, 100, 100, 114]
def kCopy : List UInt8 := [99, 111, 112, 121]
def kLoad : List UInt8 := [108, 111, 97, 100]
def kStore : List UInt8 := [115, 116, 111, 114, 101]
def Rn.give (s : Rn) : List Int → List Vl → Rn
  | p :: ps, v :: vs => (s.set p v).give ps vs
  | _, _ => s
def Rn.callF (s : Rn) (x : PS) (f : PF) : Rn :=
  if f.params.length = x.args.length then
    let s1 := s.give f.params (x.args.map s.at)
    s1.set x.x (s1.at f.ret)
  else s
def Rn.call (P : PP) (x : PS) (s : Rn) : Rn :=
  match s.at x.y with
  | .fn n => match P.funs[n]? with
    | some f => s.callF x f
    | none => s
  | _ => s
def Rn.stmt (P : PP) (k : Nat) (x : PS) (s : Rn) : Rn :=
  bif x.isK kAddr then s.set x.x (.var x.y.toNat) else
  bif x.isK kCopy then s.set x.x (s.at x.y) else
  bif x.isK kLoad then (bif (s.at x.y).isAddr then s.set x.x (s.get (s.at x.y)) else s) else
  bif x.isK kStore then s.put (s.at x.x) (s.at x.y) else
  bif x.isK kNew then { (s.set x.x (.thing s.things.length)) with things := s.things ++ [.none], places := s.places ++ [k] } else
  bif x.isK kFun then s.set x.x (.fn x.y.toNat) else
  bif x.isK kCall then s.call P x else s
def Rn.step (P : PP) (s : Rn) (k : Nat) : Rn :=
  match P.stmts[k]? with
  | some x => s.stmt P k x
  | none => s
def Rn.begin (P : PP) : Rn := ⟨List.replicate P.vars.length .none, [], []⟩
def Rn.run (P : PP) (l : List Nat) : Rn := l.foldl (Rn.step P) (Rn.begin P)
structure Rn.Ok (P : PP) (s : Rn) : Prop where
  lv : s.vars.length = P.vars.length
  rv : ∀ v ∈ s.vars, v.In P.vars.length s.things.length P.funs.length
  rt : ∀ v ∈ s.things, v.In P.vars.length s.things.length P.funs.length
  lp : s.places.length = s.things.length
structure PP.Good (P : PP) (x : PS) : Prop where
  gx : 0 ≤ x.x ∧ x.x < P.vars.length
  yf : x.isK kFun = true → 0 ≤ x.y ∧ x.y < P.funs.length
  yv : x.isK kFun = false → x.isK kNew = false → 0 ≤ x.y ∧ x.y < P.vars.length
  args : ∀ a ∈ x.args, 0 ≤ a ∧ a < P.vars.length
theorem PP.inV_iff {P : PP} {n : Int} (h : P.inV n = true) : 0 ≤ n ∧ n < P.vars.length := by
  unfold PP.inV at h
  simp at h
  omega
theorem PP.good {P : PP} {x : PS} (h : P.stmtErr x = 0) : P.Good x := by
  unfold PP.stmtErr at h
  cases h1 : memB x.kind kindsS with
  | false => rw [h1] at h; simp at h
  | true =>
  cases h2 : P.bound x with
  | false => rw [h1, h2] at h; simp at h
  | true =>
  unfold PP.bound at h2
  simp only [Bool.and_eq_true] at h2
  refine ⟨PP.inV_iff h2.1.1, fun hf => ?_, fun hf hn => ?_, fun a ha => ?_⟩
  · have := h2.1.2
    unfold PP.boundY at this
    rw [hf] at this
    simpa using this
  · have := h2.1.2
    unfold PP.boundY at this
    rw [hf, hn] at this
    exact PP.inV_iff this
  · have := h2.2
    unfold PP.allV at this
    exact PP.inV_iff (List.all_eq_true.1 this a ha)
structure PP.GoodF (P : PP) (f : PF) : Prop where
  params : ∀ a ∈ f.params, 0 ≤ a ∧ a < P.vars.length
  ret : 0 ≤ f.ret ∧ f.ret < P.vars.length
  few : f.params.length ≤ 3
theorem Rn.Ok.at {P : PP} {s : Rn} (h : s.Ok P) (n : Int) : (s.at n).In P.vars.length s.things.length P.funs.length := by
  unfold Rn.at
  rw [List.getD_eq_getElem?_getD]
  cases hx : s.vars[n.toNat]? with
  | none => exact trivial
  | some v => exact h.rv v (List.mem_of_getElem? hx)
theorem Rn.Ok.get {P : PP} {s : Rn} (h : s.Ok P) (c : Vl) : (s.get c).In P.vars.length s.things.length P.funs.length := by
  cases c with
  | none => exact trivial
  | fn n => exact trivial
  | var n =>
    simp only [Rn.get, List.getD_eq_getElem?_getD]
    cases hx : s.vars[n]? with
    | none => exact trivial
    | some v => exact h.rv v (List.mem_of_getElem? hx)
  | thing n =>
    simp only [Rn.get, List.getD_eq_getElem?_getD]
    cases hx : s.things[n]? with
    | none => exact trivial
    | some v => exact h.rt v (List.mem_of_getElem? hx)
theorem Rn.Ok.set {P : PP} {s : Rn} (h : s.Ok P) (n : Int) {v : Vl} (hv : v.In P.vars.length s.things.length P.funs.length) : (s.set n v).Ok P := by
  refine ⟨by simp [Rn.set, h.lv], fun u hu => ?_, h.rt, h.lp⟩
  rcases List.mem_or_eq_of_mem_set hu with hu | rfl
  · exact h.rv u hu
  · exact hv
theorem Rn.Ok.put {P : PP} {s : Rn} (h : s.Ok P) (c : Vl) {v : Vl} (hv : v.In P.vars.length s.things.length P.funs.length) : (s.put c v).Ok P := by
  cases c with
  | none => exact h
  | fn n => exact h
  | var n => exact h.set (n : Int) hv
  | thing n =>
    refine ⟨h.lv, fun u hu => ?_, fun u hu => ?_, ?_⟩
    · simp only [Rn.put, List.length_set]; exact h.rv u hu
    · simp only [Rn.put, List.length_set]
      rcases List.mem_or_eq_of_mem_set hu with hu | rfl
      · exact h.rt u hu
      · exact hv
    · simp only [Rn.put, List.length_set]; exact h.lp
theorem Rn.Ok.give {P : PP} : ∀ (ps : List Int) (vs : List Vl) {s : Rn}, s.Ok P → (∀ v ∈ vs, v.In P.vars.length s.things.length P.funs.length) → (s.give ps vs).Ok P
  | [], _, _, h, _ => h
  | _ :: _, [], _, h, _ => h
  | p :: ps, v :: vs, s, h, hv => Rn.Ok.give ps vs (h.set p (hv v (List.mem_cons_self ..))) fun u hu => hv u (List.mem_cons_of_mem _ hu)
theorem Rn.Ok.call {P : PP} {s : Rn} (h : s.Ok P) (x : PS) : (s.call P x).Ok P := by
  unfold Rn.call
  split
  · split
    · rename_i f _
      unfold Rn.callF
      split
      · have h1 : (s.give f.params (x.args.map s.at)).Ok P := h.give _ _ (fun v hv => by
          obtain ⟨a, _, rfl⟩ := List.mem_map.1 hv
          exact h.at a)
        exact h1.set _ (h1.at _)
      · exact h
    · exact h
  · exact h
theorem Rn.Ok.stmt {P : PP} {s : Rn} (h : s.Ok P) (k : Nat) {x : PS} (hg : P.Good x) : (s.stmt P k x).Ok P := by
  unfold Rn.stmt
  cases h1 : x.isK kAddr with
  | true =>
    have hf : x.isK kFun = false := by unfold PS.isK at h1 ⊢; rw [eq_of_beq h1]; rfl
    have hn : x.isK kNew = false := by unfold PS.isK at h1 ⊢; rw [eq_of_beq h1]; rfl
    have := hg.yv hf hn
    exact h.set _ (show Vl.In _ _ _ (.var _) by simp only [Vl.In]; omega)
  | false =>
  cases h2 : x.isK kCopy with
  | true => exact h.set _ (h.at _)
  | false =>
  cases h3 : x.isK kLoad with
  | true =>
    simp only [cond_true, cond_false]
    cases h4 : (s.at x.y).isAddr with
    | true => exact h.set _ (h.get _)
    | false => exact h
  | false =>
  cases h4 : x.isK kStore with
  | true => exact h.put _ (h.at _)
  | false =>
  cases h5 : x.isK kNew with
  | true =>
    simp only [cond_true, cond_false]
    refine ⟨by simp [Rn.set, h.lv], fun u hu => ?_, fun u hu => ?_, by simp [h.lp]⟩
    · rcases List.mem_or_eq_of_mem_set hu with hu | rfl
      · exact (h.rv u hu).mono (by simp)
      · simp only [Vl.In, List.length_append, List.length_singleton]; omega
    · rcases List.mem_append.1 hu with hu | hu
      · exact (h.rt u hu).mono (by simp)
      · rw [List.mem_singleton.1 hu]; exact trivial
  | false =>
  cases h6 : x.isK kFun with
  | true =>
    have := hg.yf h6
    exact h.set _ (show Vl.In _ _ _ (.fn _) by simp only [Vl.In]; omega)
  | false =>
  cases h7 : x.isK kCall with
  | true => exact h.call x
  | false => exact h
theorem Rn.Ok.begin (P : PP) : (Rn.begin P).Ok P :=
  ⟨by simp [Rn.begin], fun v hv => by rw [(List.mem_replicate.1 hv).2]; exact trivial, fun v hv => (by cases hv), rfl⟩
def Rn.pl (s : Rn) : List Int := s.places.map Int.ofNat
def store2 (w : World) (g i : Nat) (y : Vl) : World := (w.setCell ⟨g, i, none⟩ (.string y.kind)).setCell ⟨g, i + 1, none⟩ (.int .i64 (y.num : Int))
def Vl.ptr (vv tv : Value) : Vl → Value
  | .var n => .pointer (vv.ownBlock.map fun g => ⟨g, n * 2, Option.none⟩)
  | .thing n => .pointer (tv.ownBlock.map fun g => ⟨g, n * 2, Option.none⟩)
  | _ => .pointer Option.none
section
variable {P : Program} {ops : Array Oper} {X : Nat → Prop} {w0 : World} {Q : Act → World → Prop} {L : List Nat}
end
section
variable {P : Program} {ops : Array Oper} {X : Nat → Prop} {w0 : World} {Q : Act → World → Prop} {L : List Nat}
theorem Flow.l {listed : Array Bool} {C : World → Prop} {a : Act} {v : Value} (i : Nat) (o : Oper) (ho : ops[i]? = some o) (hr : (Region.ready .any ops listed).contains i = true)
    (h : ∀ w, does P ops o a w (DetR v w)) (k : Flow P ops w0 Q X (i :: L) (listed.setIfInBounds i true) C (a.put o.dst v)) : Flow P ops w0 Q X L listed C a :=
  Flow.loose i o v ho (by simpa using hr) h k
end
def IntOne (k : Nat) (u : Value) (w : World) : Prop := ∃ b, u = .slice (some ⟨b, 0, none⟩) 1 1 ∧ Blk w b #[.int .i64 (k : Int)] 3
theorem IntOne.ext {k : Nat} {u : Value} {w w' : World} (h : IntOne k u w) (x : Ext w w') : IntOne k u w' := by
  obtain ⟨b, e, hb⟩ := h
  exact ⟨b, e, hb.ext x⟩
theorem IntOne.mk (k : Nat) (w : World) : IntOne k (.slice (some ⟨w.heap.size, 0, none⟩) 1 1) (w.alloc (.cells #[.int .i64 (k : Int)] 3)) := ⟨_, rfl, Blk.new _ _ _⟩
def PP.badk (P : PP) (n : Int) : Bool := decide (n < 0) || decide ((P.stmts.length : Int) ≤ n)
def zeroS : Value := .agg #[.slice none 0 0, .slice none 0 0, .slice none 0 0]
def zcells : Array Value := #[.slice none 0 0, .slice none 0 0, .slice none 0 0]
theorem ErrIs.form {ad : Nat → Addr} {P : PP} {w : World} {v : Value} (h : ErrIs ad P w v) : (v = .nilIface ∧ P.err1 = 0 ∧ P.allWell) ∨ ((∃ t x, v = .iface t (.pointer (some x))) ∧ ¬ (P.err1 = 0 ∧ P.allWell)) := by
  rcases h with ⟨h1, h2⟩ | ⟨h1, h2, h3⟩ | ⟨h1, i, s, b, h2, h3, _⟩
  · refine .inr ⟨?_, fun h => h1 h.1⟩
    obtain ⟨x, hx⟩ : ∃ x, evOf ad P.err1 = .iface 282 (.pointer (some x)) := ⟨_, rfl⟩
    exact ⟨_, _, by rw [h2, hx]⟩
  · exact .inl ⟨h3, h1, h2⟩
  · refine .inr ⟨⟨_, _, h3⟩, fun h => h2.2.1 (h.2 i s ?_ h2.1)⟩
    rcases Nat.lt_or_ge i P.stmts.length with h | h
    · exact h
    · have h3 := h2.1; rw [List.getElem?_eq_none h] at h3; cases h3
def PP.FirstK (P : PP) (l : List Int) (i : Nat) : Prop := ∃ x, l[i]? = some x ∧ P.badk x = true ∧ ∀ j y, j < i → l[j]? = some y → P.badk y = false
def RunNo (ad : Nat → Addr) (P : PP) (l : List Int) (w : World) (v : Value) : Prop :=
  (¬ (P.err1 = 0 ∧ P.allWell) ∧ ErrIs ad P w v) ∨ (P.err1 = 0 ∧ P.allWell ∧ 2000 < l.length ∧ v = evOf ad 8) ∨
  (P.err1 = 0 ∧ P.allWell ∧ l.length ≤ 2000 ∧ ∃ i b, P.FirstK l i ∧ v = .iface 92 (.pointer (some ⟨b, 0, none⟩)) ∧ Blk w b #[.int .i64 (i : Int), evOf ad 2] 94)
def PP.Runs (P : PP) (l : List Int) : Prop := P.err1 = 0 ∧ P.allWell ∧ l.length ≤ 2000 ∧ ∀ x ∈ l, P.badk x = false
def FtAt (i : Nat) (ev : Value) (v : Value) (w : World) : Prop := ∃ b, v = .pointer (some ⟨b, 0, none⟩) ∧ Blk w b #[.int .i64 (i : Int), ev] 94
theorem FtAt.ext {i : Nat} {ev v : Value} {w w' : World} (h : FtAt i ev v w) (x : Ext w w') : FtAt i ev v w' := by
  obtain ⟨b, e, h⟩ := h
  exact ⟨b, e, h.ext x⟩
theorem Rn.Ok.step {P : PP} {s : Rn} (h : s.Ok P) (hw : P.allWell) (k : Nat) : (s.step P k).Ok P := by
  unfold Rn.step
  cases hx : P.stmts[k]? with
  | none => exact h
  | some x =>
    have hk : k < P.stmts.length := by
      rcases Nat.lt_or_ge k P.stmts.length with h | h
      · exact h
      · rw [List.getElem?_eq_none h] at hx; cases hx
    exact h.stmt k (PP.good (hw k x hk hx))
theorem Rn.Ok.foldl {P : PP} (hw : P.allWell) : ∀ (l : List Nat) {s : Rn}, s.Ok P → (l.foldl (Rn.step P) s).Ok P
  | [], _, h => h
  | k :: l, _, h => Rn.Ok.foldl hw l (h.step hw k)
theorem Rn.Ok.run {P : PP} (hw : P.allWell) (l : List Nat) : (Rn.run P l).Ok P := Rn.Ok.foldl hw l (Rn.Ok.begin P)
theorem ElR.lift {n0 n1 n : Nat} {v : Value} {E : Nat → Addr → Prop} (h : ElR n0 v n E) (hn : n0 ≤ n1) : ElR n1 v n E := h.mono hn fun _ _ _ _ h => h
theorem ProgR.lift {w : World} {n0 n1 : Nat} {v1 v2 v3 : Value} {P : PP} (h : ProgR w n0 v1 v2 v3 P) (hn : n0 ≤ n1) : ProgR w n1 v1 v2 v3 P :=
  ⟨ElR.lift h.vars hn, ElR.mono h.funs hn fun i y _ _ hE f hf => by
    obtain ⟨pv, h1, h2, h3, h4⟩ := hE f hf
    exact ⟨pv, h1, h2, h3, ElR.lift h4 hn⟩, ElR.mono h.stmts hn fun i y _ _ hE f hf => by
    obtain ⟨pv, h1, h2, h3, h4, h5⟩ := hE f hf
    exact ⟨pv, h1, h2, h3, h4, ElR.lift h5 hn⟩⟩
theorem IntsR.at {w : World} {n0 : Nat} {a : Option Addr} {n cap : Nat} {l : List Int} (h : IntsR w n0 (.slice a n cap) l) {k : Nat} (hk : k < l.length) : ∃ y q, a = some y ∧ l[k]? = some q ∧ w.cell? (y.add k) = some (.int .i64 q) := by
  obtain ⟨a', cap', h1, h2, h3, h4, h5⟩ := h
  obtain ⟨rfl, rfl, rfl⟩ : a = a' ∧ n = l.length ∧ cap = cap' := by simpa using h1
  obtain ⟨y, rfl⟩ := h4 (by omega)
  have hx : l[k]? = some (l[k]'hk) := List.getElem?_eq_getElem hk
  exact ⟨y, _, rfl, hx, (h5 y rfl (by omega)).2 k hk _ hx⟩
theorem FV.At.ints {w : World} {n0 : Nat} {t : Option Nat} {x : FV} {a : Option Addr} {cap : Nat} (h : x.At w n0 t) (hv : x.v = .slice a x.f.nums.length cap) : Ints w a x.f.nums.length x.f.nums := by
  obtain ⟨a', c', e, hi, _⟩ := NumsAt.form h
  rw [hv] at e
  simp only [Value.slice.injEq, true_and] at e
  rw [e.1]
  exact hi
def stampK (s : Snd) (x : FV × Int) : FV × Int := if s.late (x.1.f, x.2) then (x.1, s.now + 1) else x
def lateK (s : Snd) (x : FV × Int) : Bool := s.late (x.1.f, x.2)
def midK (s : Snd) (ks : List (FV × Int)) (i : Nat) : List (FV × Int) := (ks.take i).map (stampK s) ++ ks.drop i
section
variable {P : Program} {ops : Array Oper} {w : World} {o : Oper} {a : Act} {R : Value → World → Prop}
end
theorem Wr.map {w : World} {n0 : Nat} {t : Option Nat} {b : Nat} {m : List (Int × Value)} (h : MapAt w b m) (hl : n0 ≤ b) : Wr w n0 t fun g => g = b := fun g hg _ => ⟨by omega, fun hi => by
  subst hg
  obtain ⟨es, c, hb, _⟩ := h
  obtain ⟨c', z, hi⟩ := hi
  rw [hb] at hi
  cases hi⟩
def mapSize (w : World) (b : Nat) : Nat := match w.heap[b]? with
  | some (.map es _) => es.size
  | _ => 0
theorem MapAt.size {w : World} {b : Nat} {m : List (Int × Value)} (h : MapAt w b m) : mapSize w b = m.length := by
  obtain ⟨es, c, hb, he⟩ := h
  unfold mapSize
  rw [hb]
  have := congrArg List.length he
  simpa using this
end Go.Proofs.YtbagppdibncfdaaGreatDoor
namespace Go.Proofs.YtbagppdibncfdaaGreatDoor
def ofr (N : List Int) (k : Nat) : Fr := ⟨100, 2, 4, (k : Int), [N.getD k 0]⟩
def oks (N : List Int) : Nat → Snd
  | 0 => Snd.new 2 4
  | i + 1 => (oks N i).sent 100 [N.getD i 0]
def osn (N : List Int) (n a : Nat) (now c : Int) : Snd := ⟨2, 4, (n : Int), now, (List.range' a (n - a)).map fun j => (ofr N j, c)⟩
def AllOf (N : List Int) (n : Nat) (l : List Fr) : Prop := ∀ f ∈ l, ∃ j, j < n ∧ f = ofr N j
structure ORcv (N : List Int) (n d : Nat) (r : Rcv) : Prop where
  fr : r.fr = 2
  to : r.to = 4
  due : r.due = (d : Int)
  le : d ≤ n
  wait : AllOf N n r.wait
  len : r.wait.length ≤ 8
end Go.Proofs.YtbagppdibncfdaaGreatDoor
