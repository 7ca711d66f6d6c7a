/- Texts of one proof, put together: WI CD WJ V9 WK Z8 Z9 ZA ZC Z6 ZG ZH ZD S6 ZI ZZWz ZZWo. -/
import Derived.Test.YtngdpnlgnpdkcaaGreatDoorHWC01
import Derived.Test.YtngdpnlgnpdkcaaGreatDoorHWC02
import Derived.Test.YtngdpnlgnpdkcaaGreatDoorHWC03
import Derived.Test.YtngdpnlgnpdkcaaGreatDoorHWC04
import Derived.Test.YtngdpnlgnpdkcaaGreatDoorHWC05
import Derived.Test.YtngdpnlgnpdkcaaGreatDoorHWC06
import Derived.Test.YtngdpnlgnpdkcaaGreatDoorHWC07
import Derived.Test.YtngdpnlgnpdkcaaGreatDoorHWC10
set_option linter.unusedSimpArgs false
set_option linter.unusedVariables false
namespace Go.Proofs.YtngdpnlgnpdkcaaGreatDoor
open Go Go.RowKit
theorem code_err (w : World) (ad : Nat → Addr) (h : AllErrs w ad) (c : Nat) (hc : c ≤ 11) :
  Calls Tryz.prog 44 #[errv (evOf ad) c] w fun e w' => e = .returned (.tuple #[.int .i64 (c : Int), .int .i64 (-1)]) ∧ Ext w w' := by
 unfold errv
 by_cases h0 : c = 0
 ·subst h0
  rw [if_pos rfl]
  exact (code_nil w).mono fun e w' ⟨h1, h2⟩ => ⟨h1, h2 ▸ Ext.refl _⟩
 ·rw [if_neg h0]
  have := code_sent w ad h _ c hc (IsAs.sent h c (by omega))
  unfold codeV at this
  rw [if_neg h0] at this
  exact this
theorem AllErrs.errs {w : World} {ad : Nat → Addr} (h : AllErrs w ad) : Errs w (evOf ad) :=
 ⟨⟨h.at2, h.at3, h.at4, h.at8⟩, h.at1, h.at11⟩
theorem PP.stmtErr_le (P : PP) (s : PS) : P.stmtErr s ≤ 9 := by
 unfold PP.stmtErr
 cases (!memB s.kind kindsS) <;> simp only [cond_true, cond_false] <;> try omega
 cases (!P.bound s) <;> simp only [cond_true, cond_false] <;> try omega
 cases (s.isK kCall && decide (3 < s.args.length)) <;> simp only [cond_true, cond_false] <;> try omega
 cases ((!s.isK kCall && decide (0 < s.args.length)) || (s.isK kNew && !decide (s.y = 0))) <;> simp
theorem PP.err1_le (P : PP) : P.err1 ≤ 9 := by
 unfold PP.err1
 cases P.big <;> simp only [cond_true, cond_false] <;> try omega
 split
 ·omega
 ·split
  ·omega
  ·unfold PP.funsErr
   cases (P.funs.any bad9) <;> simp only [cond_true, cond_false] <;> try omega
   cases (P.funs.any P.bad2) <;> simp only [cond_true, cond_false] <;> try omega
   cases (P.funs.any bad7) <;> simp
theorem PP.FirstBad.uniq {P : PP} {i j : Nat} {s t : PS} (h : P.FirstBad i s) (g : P.FirstBad j t) : i = j ∧ s = t := by
 obtain ⟨h1, h2, h3⟩ := h
 obtain ⟨g1, g2, g3⟩ := g
 have e : i = j := by
  rcases Nat.lt_trichotomy i j with e | e | e
  ·exact absurd (g3 i s e h1) h2
  ·exact e
  ·exact absurd (h3 j t e g1) g2
 subst e
 exact ⟨rfl, Option.some.inj (h1.symm.trans g1)⟩
theorem PP.FirstBad.not {P : PP} {i : Nat} {s : PS} (h : P.FirstBad i s) : ¬ P.allWell := fun g => by
 obtain ⟨h1, h2, _⟩ := h
 have hi : i < P.stmts.length := by
  rcases Nat.lt_or_ge i P.stmts.length with e | e
  ·exact e
  ·rw [List.getElem?_eq_none e] at h1; cases h1
 exact h2 (g i s hi h1)
theorem FaultIs.uniq {P : PP} {c d : Nat} {p q : Int} (h : FaultIs P c p) (g : FaultIs P d q) : c = d ∧ p = q := by
 rcases h with ⟨h1, h2, h3⟩ | ⟨h1, h2, h3, h4⟩ | ⟨h1, i, s, h2, h3, h4⟩ <;> rcases g with ⟨g1, g2, g3⟩ | ⟨g1, g2, g3, g4⟩ | ⟨g1, j, t, g2, g3, g4⟩
 ·exact ⟨h2.trans g2.symm, h3.trans g3.symm⟩
 ·exact absurd g1 h1
 ·exact absurd g1 h1
 ·exact absurd h1 g1
 ·exact ⟨h3.trans g3.symm, h4.trans g4.symm⟩
 ·exact absurd h2 g2.not
 ·exact absurd h1 g1
 ·exact absurd g2 h2.not
 ·obtain ⟨rfl, rfl⟩ := h2.uniq g2
  exact ⟨h3.trans g3.symm, h4.trans g4.symm⟩
theorem PP.FirstK.uniq {P : PP} {l : List Int} {i j : Nat} (h : P.FirstK l i) (g : P.FirstK l j) : i = j := by
 obtain ⟨x, h1, h2, h3⟩ := h
 obtain ⟨y, g1, g2, g3⟩ := g
 rcases Nat.lt_trichotomy i j with e | e | e
 ·rw [g3 i x e h1] at h2; cases h2
 ·exact e
 ·rw [h3 j y e g1] at g2; cases g2
def RunFault (P : PP) (l : List Int) (c : Nat) (p : Int) : Prop :=
 (¬ (P.err1 = 0 ∧ P.allWell) ∧ FaultIs P c p) ∨ (P.err1 = 0 ∧ P.allWell ∧ 2000 < l.length ∧ c = 8 ∧ p = -1) ∨
 (P.err1 = 0 ∧ P.allWell ∧ l.length ≤ 2000 ∧ ∃ i : Nat, P.FirstK l i ∧ c = 2 ∧ p = (i : Int))
theorem RunFault.uniq {P : PP} {l : List Int} {c d : Nat} {p q : Int} (h : RunFault P l c p) (g : RunFault P l d q) : c = d ∧ p = q := by
 rcases h with ⟨h1, h2⟩ | ⟨h1, h2, h3, h4, h5⟩ | ⟨h1, h2, h3, i, h4, h5, h6⟩ <;> rcases g with ⟨g1, g2⟩ | ⟨g1, g2, g3, g4, g5⟩ | ⟨g1, g2, g3, j, g4, g5, g6⟩
 ·exact h2.uniq g2
 ·exact absurd ⟨g1, g2⟩ h1
 ·exact absurd ⟨g1, g2⟩ h1
 ·exact absurd ⟨h1, h2⟩ g1
 ·exact ⟨h4.trans g4.symm, h5.trans g5.symm⟩
 ·omega
 ·exact absurd ⟨h1, h2⟩ g1
 ·omega
 ·obtain rfl := h4.uniq g4
  exact ⟨h5.trans g5.symm, h6.trans g6.symm⟩
theorem code_of (w : World) (ad : Nat → Addr) (h : AllErrs w ad) (c : Nat) (h0 : c ≠ 0) (hc : c ≤ 11) :
  Calls Tryz.prog 44 #[evOf ad c] w fun e w' => e = .returned (.tuple #[.int .i64 (c : Int), .int .i64 (-1)]) ∧ Ext w w' := by
 have := code_err w ad h c hc
 unfold errv at this
 rw [if_neg h0] at this
 exact this
theorem code_at (w : World) (ad : Nat → Addr) (h : AllErrs w ad) (c : Nat) (h0 : c ≠ 0) (hc : c ≤ 11) (b : Nat) (i : Int) (hb : Blk w b #[.int .i64 i, evOf ad c] 128) :
  Calls Tryz.prog 44 #[.iface 126 (.pointer (some ⟨b, 0, none⟩))] w fun e w' => e = .returned (.tuple #[.int .i64 (c : Int), .int .i64 i]) ∧ Ext w w' := by
 have := code_fault w ad h b i c hc ((hb.cell 0).trans rfl) (IsAs.fault h c (by omega) b ((hb.cell 1).trans rfl))
 unfold codeV at this
 rw [if_neg h0] at this
 exact this
section
variable {P : Program} {ops : Array Oper} {X : Nat → Prop} {w0 : World} {Q : Act → World → Prop} {L : List Nat}
end
def IntsNew (W : World) (l : List Int) (v : Value) (w : World) : Prop := (∃ a n c, v = .slice a n c) ∧ IntsR w w.heap.size v l ∧ Ext W w
theorem IntsNew.ext {W w w' : World} {l : List Int} {v : Value} (h : IntsNew W l v w) (x : Ext w w') : IntsNew W l v w' := ⟨h.1, ElR.lift (h.2.1.old (x.old _)) x.size, h.2.2.trans x⟩
def RunNew (W : World) (P : PP) (l : List Int) (t : Value) (w : World) : Prop := (∃ a1 n1 c1 a2 n2 c2 a3 n3 c3 ev, t = .tuple #[.agg #[.slice a1 n1 c1, .slice a2 n2 c2, .slice a3 n3 c3], ev] ∧ RunOut P l W.heap.size w (.agg #[.slice a1 n1 c1, .slice a2 n2 c2, .slice a3 n3 c3]) ev) ∧ Ext W w
theorem RunNew.ext {W w w' : World} {P : PP} {l : List Int} {t : Value} (h : RunNew W P l t w) (x : Ext w w') : RunNew W P l t w' := by
 obtain ⟨⟨a1, n1, c1, a2, n2, c2, a3, n3, c3, ev, h1, h2⟩, h3⟩ := h
 exact ⟨⟨a1, n1, c1, a2, n2, c2, a3, n3, c3, ev, h1, h2.ext x⟩, h3.trans x⟩
def tup0 : Value → Value
 | .tuple cs => cs.getD 0 undef
 | _ => undef
def tup1 : Value → Value
 | .tuple cs => cs.getD 1 undef
 | _ => undef
def IsTup (t : Value) : Prop := ∃ u v, t = .tuple #[u, v]
theorem ErrIs.ext {ad : Nat → Addr} {P : PP} {w w' : World} {v : Value} (h : ErrIs ad P w v) (x : Ext w w') : ErrIs ad P w' v := by
 rcases h with h | h | ⟨h1, i, s, b, h2, h3, h4⟩
 ·exact .inl h
 ·exact .inr (.inl h)
 ·exact .inr (.inr ⟨h1, i, s, b, h2, h3, h4.ext x⟩)
theorem RunNo.ext {ad : Nat → Addr} {P : PP} {l : List Int} {w w' : World} {v : Value} (h : RunNo ad P l w v) (x : Ext w w') : RunNo ad P l w' v := by
 rcases h with ⟨h1, h2⟩ | h | ⟨h1, h2, h3, i, b, h4, h5, h6⟩
 ·exact .inl ⟨h1, h2.ext x⟩
 ·exact .inr (.inl h)
 ·exact .inr (.inr ⟨h1, h2, h3, i, b, h4, h5, h6.ext x⟩)
def aliasV (S : List (List Int)) (x y : Nat) : Bool := (S.getD x []).any fun o => decide (o ∈ S.getD y [])
def PP.fitsV (P : PP) (x : PS) (o : Int) : Bool := decide (0 ≤ P.funV o) && decide ((P.funs.getD (P.funV o).toNat ⟨⟨#[]⟩, [], 0⟩).params.length = x.args.length)
def calledL (P : PP) (S : List (List Int)) (x : PS) : List Int := bif x.isK kCall then ((S.getD x.y.toNat []).filter (P.fitsV x)).map P.funV else []
def calledP : PP := ⟨[⟨#[97]⟩, ⟨#[98]⟩], [⟨⟨#[102]⟩, [], 1⟩], [⟨⟨#[102, 117, 110]⟩, 0, 0, []⟩, ⟨⟨#[99, 97, 108, 108]⟩, 1, 0, []⟩]⟩
def calledS : Array Value := #[.string ⟨#[102, 117, 110]⟩, .int .i64 0, .int .i64 0, .slice none 0 0, .string ⟨#[99, 97, 108, 108]⟩, .int .i64 1, .int .i64 0, .slice none 0 0]
def nodesL (S : List (List Int)) (l : List Int) : List Int := l.filter fun o => !decide ((S.length : Int) ≤ o)
def idleV (P : PP) (S : List (List Int)) (x : PS) : Bool :=
 bif x.isK kLoad then decide ((nodesL S (S.getD x.y.toNat [])).length = 0) else
 bif x.isK kStore then decide ((nodesL S (S.getD x.x.toNat [])).length = 0) else
 bif x.isK kCall then decide ((calledL P S x).length = 0) else false
def idleUp (P : PP) (S : List (List Int)) (n : Nat) : List Int := ((List.range n).filter fun k => idleV P S (P.stAt k)).map fun k : Nat => (k : Int)
def idleL (P : PP) (S : List (List Int)) : List Int := idleUp P S P.stmts.length
def vkNone : List UInt8 := [110, 111, 110, 101]
def Rn.atN (P : PP) (s : Rn) (j : Nat) : Nat := P.vars.length + P.newsN (s.places.getD j 0)
def Rn.oN (P : PP) (s : Rn) : Vl → Nat
 | .none => 0
 | .var n => n
 | .thing n => s.atN P n
 | .fn n => P.nodesV + n
def Hs (P : PP) (S : List (List Int)) (s : Rn) (i : Nat) (v : Vl) : Prop := v ≠ .none → ((s.oN P v : Nat) : Int) ∈ S.getD i []
theorem Hs.none {P : PP} {S : List (List Int)} {s : Rn} {i : Nat} : Hs P S s i .none := fun h => absurd rfl h
theorem Hs.to {P : PP} {S : List (List Int)} {s : Rn} {i j : Nat} {v : Vl} (h : Hs P S s i v) (hs : ∀ n ∈ S.getD i [], n ∈ S.getD j []) : Hs P S s j v := fun g => hs _ (h g)
theorem Hs.same {P : PP} {S : List (List Int)} {s t : Rn} {i : Nat} {v : Vl} (h : Hs P S s i v) (e : t.oN P v = s.oN P v) : Hs P S t i v := fun g => by rw [e]; exact h g
theorem oN_set (P : PP) (s : Rn) (n : Int) (u v : Vl) : (s.set n u).oN P v = s.oN P v := by cases v <;> rfl
theorem oN_put (P : PP) (s : Rn) (c u v : Vl) : (s.put c u).oN P v = s.oN P v := by cases c <;> cases v <;> rfl
structure Sound (P : PP) (S : List (List Int)) (s : Rn) : Prop where
 ok : s.Ok P
 pl : ∀ (j k : Nat), s.places[j]? = some k → k < P.stmts.length ∧ P.isNew k = true
 vars : ∀ i, Hs P S s i (s.vars.getD i .none)
 things : ∀ j, Hs P S s (s.atN P j) (s.things.getD j .none)
theorem getD_set_cases (l : List Vl) (n i : Nat) (v d : Vl) : (l.set n v).getD i d = l.getD i d ∨ (n = i ∧ (l.set n v).getD i d = v) := by
 rw [List.getD_eq_getElem?_getD, List.getD_eq_getElem?_getD, List.getElem?_set]
 by_cases h : n = i
 ·subst h
  by_cases hl : n < l.length
  ·right
   simp [hl]
  ·left
   rw [if_pos rfl, if_neg hl, List.getElem?_eq_none (by omega)]
 ·left
  rw [if_neg h]
theorem Sound.set {P : PP} {S : List (List Int)} {s : Rn} (h : Sound P S s) (n : Int) {v : Vl} (hv : v.In P.vars.length s.things.length P.funs.length) (hh : Hs P S s n.toNat v) : Sound P S (s.set n v) := by
 refine ⟨h.ok.set n hv, h.pl, fun i => ?_, fun j => (h.things j).same (oN_set _ _ _ _ _)⟩
 show Hs P S (s.set n v) i ((s.vars.set n.toNat v).getD i .none)
 rcases getD_set_cases s.vars n.toNat i v .none with e | ⟨rfl, e⟩
 ·rw [e]; exact (h.vars i).same (oN_set _ _ _ _ _)
 ·rw [e]; exact hh.same (oN_set _ _ _ _ _)
def Rn.cN (P : PP) (s : Rn) : Vl → Nat
 | .var n => n
 | .thing n => s.atN P n
 | _ => 0
theorem Sound.put {P : PP} {S : List (List Int)} {s : Rn} (h : Sound P S s) (c : Vl) {v : Vl} (hv : v.In P.vars.length s.things.length P.funs.length) (hh : c.isAddr = true → Hs P S s (s.cN P c) v) : Sound P S (s.put c v) := by
 cases c with
 | none => exact h
 | fn n => exact h
 | var n =>
  have hh := hh rfl
  refine ⟨h.ok.put _ hv, h.pl, fun i => ?_, fun j => (h.things j).same (oN_put P s (.var n) v _)⟩
  show Hs P S (s.put (.var n) v) i ((s.vars.set n v).getD i .none)
  rcases getD_set_cases s.vars n i v .none with e | ⟨rfl, e⟩
  ·rw [e]; exact (h.vars i).same (oN_put _ _ _ _ _)
  ·rw [e]; exact hh.same (oN_put _ _ _ _ _)
 | thing n =>
  have hh := hh rfl
  refine ⟨h.ok.put _ hv, h.pl, fun i => (h.vars i).same (oN_put P s (.thing n) v _), fun j => ?_⟩
  show Hs P S (s.put (.thing n) v) (s.atN P j) ((s.things.set n v).getD j .none)
  rcases getD_set_cases s.things n j v .none with e | ⟨rfl, e⟩
  ·rw [e]; exact (h.things j).same (oN_put _ _ _ _ _)
  ·rw [e]; exact hh.same (oN_put _ _ _ _ _)
theorem ClosedP.sedge {P : PP} {S : List (List Int)} (hc : ClosedP P S) {x : PS} (hx : x ∈ P.stmts) {a b : Int} (he : (a, b) ∈ P.sedges x S) : ∀ n ∈ S.getD a.toNat [], n ∈ S.getD b.toNat [] := by
 by_cases hab : a = b
 ·subst hab; exact fun n h => h
 ·exact hc.edge (a, b) (mem_edges0.2 ⟨x, hx, he⟩) hab
theorem kind_of {x : PS} {a : List UInt8} (h : x.isK a = true) : x.kind.toList = a := eq_of_beq h
theorem sedges_of {P : PP} {x : PS} {S : List (List Int)} (h1 : x.isK kAddr = false) (h2 : x.isK kNew = false) (h3 : x.isK kFun = false) (h4 : x.isK kCall = false) : P.sedges x S = P.redges ⟨x.kind, x.y, x.x, 0, []⟩ S := by
 unfold PP.sedges PP.ruleV
 rw [h1, h2, h3, h4]; rfl
theorem sedge_copy {P : PP} {x : PS} {S : List (List Int)} (h : x.isK kCopy = true) : (x.y, x.x) ∈ P.sedges x S := by
 rw [sedges_of (isK_ne h (by decide)) (isK_ne h (by decide)) (isK_ne h (by decide)) (isK_ne h (by decide))]
 unfold PP.redges
 simp only [kind_of h]
 exact List.mem_singleton.2 rfl
theorem sedge_load {P : PP} {x : PS} {S : List (List Int)} (h : x.isK kLoad = true) {o : Int} (ho : o ∈ S.getD x.y.toNat []) (hn : o < P.nodesV) : (o, x.x) ∈ P.sedges x S := by
 rw [sedges_of (isK_ne h (by decide)) (isK_ne h (by decide)) (isK_ne h (by decide)) (isK_ne h (by decide))]
 unfold PP.redges PP.nodesOf
 simp only [kind_of h]
 refine List.mem_map.2 ⟨o, List.mem_filter.2 ⟨ho, ?_⟩, rfl⟩
 rw [decide_eq_false (by omega)]; rfl
theorem sedge_store {P : PP} {x : PS} {S : List (List Int)} (h : x.isK kStore = true) {o : Int} (ho : o ∈ S.getD x.x.toNat []) (hn : o < P.nodesV) : (x.y, o) ∈ P.sedges x S := by
 rw [sedges_of (isK_ne h (by decide)) (isK_ne h (by decide)) (isK_ne h (by decide)) (isK_ne h (by decide))]
 unfold PP.redges PP.nodesOf
 simp only [kind_of h]
 refine List.mem_map.2 ⟨o, List.mem_filter.2 ⟨ho, ?_⟩, rfl⟩
 rw [decide_eq_false (by omega)]; rfl
theorem funV_of {P : PP} {n : Nat} (hn : n < P.funs.length) : P.funV ((P.nodesV + n : Nat) : Int) = n := by
 unfold PP.funV
 rw [if_pos (by omega)]; omega
theorem sedge_call {P : PP} {x : PS} {S : List (List Int)} (h : x.isK kCall = true) {n : Nat} {f : PF} (hf : P.funs[n]? = some f) (ho : ((P.nodesV + n : Nat) : Int) ∈ S.getD x.y.toNat []) {e : Int × Int} (he : e ∈ calledV f ⟨bCall, x.y, x.x, 0, x.args⟩) : e ∈ P.sedges x S := by
 have hb : bCall.toList = kCall := by decide +kernel
 unfold PP.sedges PP.ruleV
 rw [isK_ne h (by decide : (kCall == kAddr) = false), isK_ne h (by decide : (kCall == kNew) = false), isK_ne h (by decide : (kCall == kFun) = false), h]
 unfold PP.redges
 simp only [cond_true, cond_false, hb]
 refine List.mem_flatMap.2 ⟨_, ho, ?_⟩
 have hn : n < P.funs.length := by
  rcases Nat.lt_or_ge n P.funs.length with g | g
  ·exact g
  ·rw [List.getElem?_eq_none g] at hf; cases hf
 unfold PP.callsOf
 rw [funV_of hn, if_pos (by omega)]
 have e1 : P.funs.getD ((n : Int)).toNat ⟨⟨#[]⟩, [], 0⟩ = f := by rw [Int.toNat_natCast, List.getD_eq_getElem?_getD, hf]; rfl
 rw [e1]
 exact he
theorem ClosedP.addr {P : PP} {S : List (List Int)} (hc : ClosedP P S) {k : Nat} {x : PS} (hk : P.stmts[k]? = some x) (h : x.isK kAddr = true) : x.y ∈ S.getD x.x.toNat [] := by
 have hl : k < P.stmts.length := by
  rcases Nat.lt_or_ge k P.stmts.length with g | g
  ·exact g
  ·rw [List.getElem?_eq_none g] at hk; cases hk
 have e : P.stAt k = x := Option.some.inj ((stAt_some hl).symm.trans hk)
 have hb := hc.base k hl
 rw [e] at hb
 unfold PP.ruleV at hb
 rw [h] at hb
 exact hb rfl
theorem ClosedP.new {P : PP} {S : List (List Int)} (hc : ClosedP P S) {k : Nat} {x : PS} (hk : P.stmts[k]? = some x) (h : x.isK kNew = true) : P.placeV k ∈ S.getD x.x.toNat [] := by
 have hl : k < P.stmts.length := by
  rcases Nat.lt_or_ge k P.stmts.length with g | g
  ·exact g
  ·rw [List.getElem?_eq_none g] at hk; cases hk
 have e : P.stAt k = x := Option.some.inj ((stAt_some hl).symm.trans hk)
 have hb := hc.base k hl
 rw [e] at hb
 unfold PP.ruleV at hb
 rw [isK_ne h (by decide : (kNew == kAddr) = false), h] at hb
 exact hb rfl
theorem ClosedP.fn {P : PP} {S : List (List Int)} (hc : ClosedP P S) {k : Nat} {x : PS} (hk : P.stmts[k]? = some x) (h : x.isK kFun = true) : (P.nodesV : Int) + x.y ∈ S.getD x.x.toNat [] := by
 have hl : k < P.stmts.length := by
  rcases Nat.lt_or_ge k P.stmts.length with g | g
  ·exact g
  ·rw [List.getElem?_eq_none g] at hk; cases hk
 have e : P.stAt k = x := Option.some.inj ((stAt_some hl).symm.trans hk)
 have hb := hc.base k hl
 rw [e] at hb
 unfold PP.ruleV at hb
 rw [isK_ne h (by decide : (kFun == kAddr) = false), isK_ne h (by decide : (kFun == kNew) = false), h] at hb
 exact hb rfl
theorem newsN_mono (P : PP) {a b : Nat} (h : a ≤ b) : P.newsN a ≤ P.newsN b := by
 induction b with
 | zero => rw [Nat.le_zero.1 h]; exact Nat.le_refl _
 | succ b ih =>
  rcases Nat.lt_or_ge b a with g | g
  ·rw [show a = b + 1 by omega]; exact Nat.le_refl _
  ·have := ih g
   rw [P.newsN_succ]; omega
theorem Sound.at {P : PP} {S : List (List Int)} {s : Rn} (h : Sound P S s) {j : Nat} (hj : j < s.things.length) : P.vars.length ≤ s.atN P j ∧ s.atN P j < P.nodesV := by
 have hl : j < s.places.length := by rw [h.ok.lp]; exact hj
 have hp := List.getElem?_eq_getElem hl
 obtain ⟨h1, h2⟩ := h.pl j _ hp
 unfold Rn.atN PP.nodesV
 rw [List.getD_eq_getElem?_getD, hp]
 show _ ∧ P.vars.length + P.newsN (s.places[j]'hl) < _
 have h3 := P.newsN_succ (s.places[j]'hl)
 rw [h2] at h3
 have h4 := newsN_mono P (show s.places[j]'hl + 1 ≤ P.stmts.length from h1)
 simp only [if_true] at h3
 omega
theorem Hs.at {P : PP} {S : List (List Int)} {s : Rn} (h : Sound P S s) (n : Int) : Hs P S s n.toNat (s.at n) := h.vars n.toNat
theorem Sound.get {P : PP} {S : List (List Int)} {s : Rn} (h : Sound P S s) (c : Vl) : Hs P S s (s.cN P c) (s.get c) := by
 cases c with
 | none => exact Hs.none
 | fn n => exact Hs.none
 | var n => exact h.vars n
 | thing n => exact h.things n
theorem Sound.cell {P : PP} {S : List (List Int)} {s : Rn} (h : Sound P S s) (n : Int) (hc : (s.at n).isAddr = true) : ((s.cN P (s.at n) : Nat) : Int) ∈ S.getD n.toNat [] ∧ s.cN P (s.at n) < P.nodesV := by
 have hi := h.ok.at n
 have hh := Hs.at h n
 generalize s.at n = c at *
 cases c with
 | none => cases hc
 | fn n => cases hc
 | var m =>
  refine ⟨hh (by intro e; cases e), ?_⟩
  have : m < P.vars.length := hi
  show m < _
  unfold PP.nodesV; omega
 | thing m => exact ⟨hh (by intro e; cases e), (h.at hi).2⟩
theorem Sound.give {P : PP} {S : List (List Int)} : ∀ (ps : List Int) (vs : List Vl) {s : Rn}, Sound P S s → (∀ v ∈ vs, v.In P.vars.length s.things.length P.funs.length) → (∀ (i : Nat) (p : Int) (v : Vl), ps[i]? = some p → vs[i]? = some v → Hs P S s p.toNat v) → Sound P S (s.give ps vs)
 | [], _, _, h, _, _ => h
 | _ :: _, [], _, h, _, _ => h
 | p :: ps, v :: vs, s, h, h1, h2 => Sound.give ps vs (h.set p (h1 v List.mem_cons_self) (h2 0 p v rfl rfl)) (fun u hu => h1 u (List.mem_cons_of_mem _ hu)) fun i q u hq hu => (h2 (i + 1) q u (by simpa using hq) (by simpa using hu)).same (oN_set _ _ _ _ _)
theorem Sound.begin (P : PP) (S : List (List Int)) : Sound P S (Rn.begin P) := by
 refine ⟨Rn.Ok.begin P, fun j k h => (by cases h), fun i => ?_, fun j => Hs.none⟩
 have : (Rn.begin P).vars.getD i .none = .none := by
  show (List.replicate _ Vl.none).getD i .none = .none
  rw [List.getD_eq_getElem?_getD, List.getElem?_replicate]
  split <;> rfl
 rw [this]
 exact Hs.none
theorem oN_new {P : PP} {s : Rn} (h : s.Ok P) {vs ts : List Vl} (k : Nat) {v : Vl} (hv : v.In P.vars.length s.things.length P.funs.length) : Rn.oN P ⟨vs, ts, s.places ++ [k]⟩ v = s.oN P v := by
 cases v with
 | none => rfl
 | var n => rfl
 | fn n => rfl
 | thing n =>
  have hn : n < s.things.length := hv
  show P.vars.length + P.newsN ((s.places ++ [k]).getD n 0) = P.vars.length + P.newsN (s.places.getD n 0)
  rw [List.getD_eq_getElem?_getD, List.getElem?_append_left (by rw [h.lp]; exact hn), ← List.getD_eq_getElem?_getD]
theorem Ok_getD {P : PP} {s : Rn} (h : s.Ok P) (i : Nat) : (s.vars.getD i .none).In P.vars.length s.things.length P.funs.length := by
 have := h.at (i : Int)
 unfold Rn.at at this
 rwa [Int.toNat_natCast] at this
theorem Ok_getT {P : PP} {s : Rn} (h : s.Ok P) (i : Nat) : (s.things.getD i .none).In P.vars.length s.things.length P.funs.length := h.get (.thing i)
theorem Sound.stmt {P : PP} {S : List (List Int)} {s : Rn} (hw : P.Well) (hc : ClosedP P S) (h : Sound P S s) {k : Nat} {x : PS} (hk : P.stmts[k]? = some x) : Sound P S (s.stmt P k x) := by
 have hkl : k < P.stmts.length := by
  rcases Nat.lt_or_ge k P.stmts.length with g | g
  ·exact g
  ·rw [List.getElem?_eq_none g] at hk; cases hk
 have hg := PP.good (hw.2 k x hkl hk)
 have hx : x ∈ P.stmts := List.mem_of_getElem? hk
 have hok := h.ok.stmt k hg
 unfold Rn.stmt at hok ⊢
 cases h1 : x.isK kAddr with
 | true =>
  have hy := hg.yv (isK_ne h1 (by decide)) (isK_ne h1 (by decide))
  refine h.set x.x (show x.y.toNat < P.vars.length by omega) fun _ => ?_
  have := hc.addr hk h1
  have e : ((x.y.toNat : Nat) : Int) = x.y := Int.toNat_of_nonneg hy.1
  show ((x.y.toNat : Nat) : Int) ∈ _
  rw [e]; exact this
 | false =>
 cases h2 : x.isK kCopy with
 | true => exact h.set x.x (h.ok.at _) ((Hs.at h x.y).to (hc.sedge hx (sedge_copy h2)))
 | false =>
 cases h3 : x.isK kLoad with
 | true =>
  simp only [cond_true, cond_false]
  cases h4 : (s.at x.y).isAddr with
  | false => exact h
  | true =>
   obtain ⟨g1, g2⟩ := h.cell x.y h4
   refine h.set x.x (h.ok.get _) ((h.get _).to ?_)
   have := hc.sedge hx (sedge_load h3 g1 (by omega))
   rwa [Int.toNat_natCast] at this
 | false =>
 cases h4 : x.isK kStore with
 | true =>
  simp only [cond_true, cond_false]
  refine h.put _ (h.ok.at _) fun hca => ?_
  obtain ⟨g1, g2⟩ := h.cell x.x hca
  refine (Hs.at h x.y).to ?_
  have := hc.sedge hx (sedge_store h4 g1 (by omega))
  rwa [Int.toNat_natCast] at this
 | false =>
 cases h5 : x.isK kNew with
 | true =>
  rw [h1, h2, h3, h4, h5] at hok
  simp only [cond_true, cond_false] at hok ⊢
  have hpl : P.isNew k = true := (isNew_at hk).trans h5
  have hlast : ∀ vs ts, Rn.atN P ⟨vs, ts, s.places ++ [k]⟩ s.things.length = P.vars.length + P.newsN k := fun vs ts => by
   show P.vars.length + P.newsN ((s.places ++ [k]).getD s.things.length 0) = _
   rw [List.getD_eq_getElem?_getD, ← h.ok.lp, List.getElem?_concat_length]; rfl
  refine ⟨hok, fun j q hq => ?_, fun i => ?_, fun j => ?_⟩
  ·have hq : (s.places ++ [k])[j]? = some q := hq
   rcases Nat.lt_or_ge j s.places.length with g | g
   ·rw [List.getElem?_append_left g] at hq; exact h.pl j q hq
   ·rw [List.getElem?_append_right g] at hq
    have : j - s.places.length = 0 := by
     rcases Nat.eq_zero_or_pos (j - s.places.length) with g | g
     ·exact g
     ·rw [List.getElem?_eq_none (by simp; omega)] at hq; cases hq
    rw [this] at hq
    obtain rfl := Option.some.inj hq
    exact ⟨hkl, hpl⟩
  ·show Hs P S _ i ((s.vars.set x.x.toNat (.thing s.things.length)).getD i .none)
   rcases getD_set_cases s.vars x.x.toNat i (.thing s.things.length) .none with e | ⟨rfl, e⟩
   ·rw [e]; exact (h.vars i).same (oN_new h.ok k (Ok_getD h.ok i))
   ·rw [e]
    intro _
    have hp := hc.new hk h5
    unfold PP.placeV at hp
    rw [if_pos ⟨by omega, by omega, by rw [Int.toNat_natCast]; exact hpl⟩, Int.toNat_natCast] at hp
    show ((Rn.atN P ⟨_, _, s.places ++ [k]⟩ s.things.length : Nat) : Int) ∈ _
    rw [hlast]
    exact hp
  ·show Hs P S _ (Rn.atN P ⟨_, _, s.places ++ [k]⟩ j) ((s.things ++ [Vl.none]).getD j Vl.none)
   rcases Nat.lt_or_ge j s.things.length with g | g
   ·have e1 : (s.things ++ [Vl.none]).getD j .none = s.things.getD j .none := by
     rw [List.getD_eq_getElem?_getD, List.getElem?_append_left g, ← List.getD_eq_getElem?_getD]
    have e2 : Rn.atN P ⟨(s.set x.x (.thing s.things.length)).vars, s.things ++ [Vl.none], s.places ++ [k]⟩ j = s.atN P j := oN_new h.ok k (v := .thing j) g
    rw [e1, e2]
    exact (h.things j).same (oN_new h.ok k (Ok_getT h.ok j))
   ·have e1 : (s.things ++ [Vl.none]).getD j .none = .none := by
     rw [List.getD_eq_getElem?_getD, List.getElem?_append_right g]
     cases j - s.things.length <;> rfl
    rw [e1]; exact Hs.none
 | false =>
 cases h6 : x.isK kFun with
 | true =>
  have hy := hg.yf h6
  refine h.set x.x (show x.y.toNat < P.funs.length by omega) fun _ => ?_
  have := hc.fn hk h6
  show ((P.nodesV + x.y.toNat : Nat) : Int) ∈ _
  rw [show ((P.nodesV + x.y.toNat : Nat) : Int) = (P.nodesV : Int) + x.y by omega]; exact this
 | false =>
 cases h7 : x.isK kCall with
 | false => exact h
 | true =>
  simp only [cond_true, cond_false]
  unfold Rn.call
  have hh := Hs.at h x.y
  have hi := h.ok.at x.y
  generalize s.at x.y = c at *
  cases c with
  | none => exact h
  | var n => exact h
  | thing n => exact h
  | fn n =>
   have hn : n < P.funs.length := hi
   have ho := hh (by intro e; cases e)
   have hf := List.getElem?_eq_getElem hn
   obtain ⟨f, hfe⟩ : ∃ f, P.funs[n]? = some f := ⟨_, hf⟩
   simp only [hfe]
   unfold Rn.callF
   split
   case isFalse => exact h
   case isTrue hlen =>
    have hed : ∀ e ∈ calledV f ⟨bCall, x.y, x.x, 0, x.args⟩, ∀ n ∈ S.getD e.1.toNat [], n ∈ S.getD e.2.toNat [] := fun e he => hc.sedge hx (sedge_call h7 hfe ho he)
    unfold calledV at hed
    rw [if_pos hlen] at hed
    have hgv : Sound P S (s.give f.params (x.args.map s.at)) := by
     refine Sound.give _ _ h (fun v hv => ?_) fun i p v hp hv => ?_
     ·obtain ⟨a, _, rfl⟩ := List.mem_map.1 hv
      exact h.ok.at a
     ·rw [List.getElem?_map] at hv
      cases ha : x.args[i]? with
      | none => rw [ha] at hv; cases hv
      | some a =>
       rw [ha] at hv
       obtain rfl := Option.some.inj hv
       exact (Hs.at h a).to (hed (a, p) (List.mem_cons_of_mem _ (List.mem_of_getElem? (List.getElem?_zip_eq_some.2 ⟨ha, hp⟩))))
    exact hgv.set x.x (hgv.ok.at _) ((Hs.at hgv f.ret).to (hed _ List.mem_cons_self))
theorem Sound.foldl {P : PP} {S : List (List Int)} (hw : P.Well) (hc : ClosedP P S) : ∀ (l : List Nat) (s : Rn), Sound P S s → Sound P S (l.foldl (Rn.step P) s)
 | [], _, h => h
 | k :: l, s, h => by
  refine Sound.foldl hw hc l _ ?_
  unfold Rn.step
  cases hk : P.stmts[k]? with
  | none => exact h
  | some x => exact h.stmt hw hc hk
theorem Sound.run {P : PP} {S : List (List Int)} (hw : P.Well) (hc : ClosedP P S) (l : List Nat) : Sound P S (Rn.run P l) := Sound.foldl hw hc l _ (Sound.begin P S)
def PP.fitsR (P : PP) (S : List (List Int)) (x : PS) (f : Nat) : Bool := decide (((P.nodesV + f : Nat) : Int) ∈ S.getD x.y.toNat []) && decide ((P.funs.getD f ⟨⟨#[]⟩, [], 0⟩).params.length = x.args.length)
def calledUp (P : PP) (S : List (List Int)) (x : PS) (n : Nat) : List Int := ((List.range n).filter (P.fitsR S x)).map fun k : Nat => (k : Int)
def paramsL (P : PP) (fs : List Int) : List Int := fs.flatMap fun f => (P.funs.getD f.toNat ⟨⟨#[]⟩, [], 0⟩).params
def writesL (P : PP) (S : List (List Int)) (x : PS) : List Int :=
 bif x.isK kStore then nodesL S (S.getD x.x.toNat []) else
 bif x.isK kCall && decide ((calledL P S x).length = 0) then [] else sset (x.x :: paramsL P (calledL P S x))
def seen (l : List Int) : List Value := (List.range 1000).map fun n : Nat => Value.bool (decide ((n : Int) ∈ l))
def setUp (l : List Int) (n : Nat) : List Int := ((List.range n).filter fun k : Nat => decide ((k : Int) ∈ l)).map fun k : Nat => (k : Int)
set_option maxRecDepth 100000 in
set_option maxHeartbeats 800000 in
theorem coded2_any (w : World) (v : Value) (c : Int) (h : Calls Tryz.prog 44 #[v] w fun e w' => e = .returned (.tuple #[.int .i64 c, .int .i64 (-1)]) ∧ Ext w w') :
  Calls Tryz.prog 16 #[v, .int .i64 c] w fun e w' => e = .returned (.bool true) ∧ Ext w w' := by
 have HC := hid h
 clear h
 go_enter Tryz.func16, Tryz.ntmps16
 go_wp2_with fail
 refine HC.out.mono ?_
 intro e w1 hx
 obtain ⟨rfl, hx1⟩ := hx
 have HX1 := hid hx1
 clear HC hx1
 go_wp2
 go_ret
 exact ⟨rfl, HX1.out⟩
theorem ProofErr.ok {ad : Nat → Addr} {P : PP} {L : List ST} {w : World} {v : Value} (h : ProofErr ad P L w v) (hl : L.length ≤ 2000) (hs : StepsOk P L L.length) : v = .nilIface := by
 rcases h with ⟨h1, _⟩ | ⟨_, _, h3⟩ | ⟨_, i, s, b, h2, _, h4, _⟩
 ·omega
 ·exact h3
 ·exact absurd (hs i s (List.getElem?_eq_some_iff.1 h2).1 h2) h4
theorem ProofIs.ok {P : PP} {L : List ST} {c : Nat} {p : Int} (h : ProofIs P L c p) (hl : L.length ≤ 2000) (hs : StepsOk P L L.length) : c = 0 ∧ p = -1 := by
 rcases h with ⟨h1, _⟩ | ⟨_, _, h3⟩ | ⟨_, i, s, h2, _, h4, _⟩
 ·omega
 ·exact h3
 ·exact absurd (hs i s (List.getElem?_eq_some_iff.1 h2).1 h2) h4
theorem FoundW.yes {P : PP} {S : List (List Int)} {m base : Nat} {none6 : Value} {n o : Int} {e : Ending} {w' : World} (h : FoundW P S base none6 n o e w') (hL : LeastAt P m S) (hw : P.Well) (hin : (0 ≤ n ∧ n < P.nodesV) ∧ o ∈ S.getD n.toNat []) :
  ∃ (L Lm : List ST) (s : ST) (v : Value), L = Lm ++ [s] ∧ s.fact = (n, o) ∧ WhyOk P S L ∧ e = .returned (.tuple #[v, .nilIface]) ∧ w'.ownsRow base 47 5 v L.length (L.flatMap stCells) := by
 obtain ⟨l, hok, hfix, hc⟩ := h
 rcases hc with ⟨h1, _⟩ | ⟨i, s, M, v, h1, h2, h3, h4, h5⟩
 ·have := hok.done hL hw hfix (n := n.toNat) (by omega) hin.2
  rw [Int.toNat_of_nonneg hin.1.1] at this
  exact absurd this h1
 ·obtain ⟨Lm, hm⟩ := needed_last h3 (List.getElem?_eq_some_iff.1 h1).1
  refine ⟨_, Lm, _, v, hm, ?_, needed_ok hok h3, h4, h5⟩
  rw [← h2, List.getD_eq_getElem?_getD, h1]; rfl
theorem FoundW.no {P : PP} {S : List (List Int)} {base : Nat} {none6 : Value} {n o : Int} {e : Ending} {w' : World} (h : FoundW P S base none6 n o e w') (hout : ¬ ((0 ≤ n ∧ n < P.nodesV) ∧ o ∈ S.getD n.toNat [])) : e = .returned (.tuple #[.slice none 0 0, none6]) := by
 obtain ⟨l, hok, hfix, hc⟩ := h
 rcases hc with ⟨_, h2⟩ | ⟨i, s, M, v, h1, h2, _⟩
 ·exact h2
 ·have hs := hok.snd s (List.mem_of_getElem? h1)
  unfold ST.fact at h2
  obtain ⟨e1, e2⟩ := Prod.mk.inj h2
  rw [e1, e2] at hs
  exact absurd hs hout
set_option maxRecDepth 100000 in
set_option maxHeartbeats 3200000 in
theorem because_any (w : World) (ad : Nat → Addr) (hE : ErrsP w ad) (hA : AllErrs w ad) : Calls Tryz.prog 8 #[] w fun e w' => e = .returned (.bool true) ∧ Ext w w' := by
 obtain ⟨W1, hW1⟩ : ∃ W1, W1 = w.alloc (.cells #[.string ⟨#[97]⟩, .string ⟨#[98]⟩] 9) := ⟨_, rfl⟩
 obtain ⟨W2, hW2⟩ : ∃ W2, W2 = W1.alloc (.cells fixedS 76) := ⟨_, rfl⟩
 obtain ⟨W3, hW3⟩ : ∃ W3, W3 = W2.alloc (.cells #[.slice (some ⟨w.heap.size, 0, none⟩) 2 2, .slice none 0 0, .slice (some ⟨w.heap.size + 1, 0, none⟩) 2 2] 26) := ⟨_, rfl⟩
 have x1 : Ext w W1 := by rw [hW1]; exact (Ext.refl _).alloc _
 have x2 : Ext W1 W2 := by rw [hW2]; exact (Ext.refl _).alloc _
 have x3 : Ext W2 W3 := by rw [hW3]; exact (Ext.refl _).alloc _
 have s1 : W1.heap.size = w.heap.size + 1 := by rw [hW1, heap_size_alloc]
 have s2 : W2.heap.size = w.heap.size + 2 := by rw [hW2, heap_size_alloc, s1]
 have s3 : W3.heap.size = w.heap.size + 3 := by rw [hW3, heap_size_alloc, s2]
 have bA : Blk W1 w.heap.size #[.string ⟨#[97]⟩, .string ⟨#[98]⟩] 9 := by rw [hW1]; exact Blk.new _ _ _
 have bB : Blk W2 (w.heap.size + 1) fixedS 76 := by rw [hW2, ← s1]; exact Blk.new _ _ _
 have HBp : Hid (Blk W3 (w.heap.size + 2) #[.slice (some ⟨w.heap.size, 0, none⟩) 2 2, .slice none 0 0, .slice (some ⟨w.heap.size + 1, 0, none⟩) 2 2] 26) := hid (by rw [hW3, ← s2]; exact Blk.new _ _ _)
 have hP := fixed_prog (n0 := W3.heap.size) (bA.ext (x2.trans x3)) (bB.ext x3) (by omega) (by omega)
 have xx : Ext w W3 := x1.trans (x2.trans x3)
 have hg := fixed_least.good fixed_well
 have hc := fixed_least.closed fixed_well
 have hPW : PW W3 W3.heap.size ad _ _ _ 2 0 2 fixedP := ⟨hE.ext xx, hP, fun s hs => by rcases (by simpa [fixedP] using hs : s = ⟨#[97]⟩ ∨ s = ⟨#[98]⟩) with rfl | rfl <;> decide, fun s hs => by simp [PP.names, fixedP] at hs, fixed_well⟩
 have HD := hid (whyfind_any _ _ _ 2 0 2 fixedP [[1], [1]] 1 1 W3 ad hPW (hA.ext xx).at6 hg hc (by decide) (by decide))
 have HX := hid xx
 have HPW := hid hPW
 have HAA := hid hA
 have Hg := hid hg
 have Hc := hid hc
 have HW3 : Hid (W3 = ((w.alloc (.cells #[.string ⟨#[97]⟩, .string ⟨#[98]⟩] 9)).alloc (.cells #[.string ⟨#[97, 100, 100, 114]⟩, .int .i64 0, .int .i64 1, .slice none 0 0, .string ⟨#[99, 111, 112, 121]⟩, .int .i64 1, .int .i64 0, .slice none 0 0] 76)).alloc (.cells #[.slice (some ⟨w.heap.size, 0, none⟩) 2 2, .slice none 0 0, .slice (some ⟨w.heap.size + 1, 0, none⟩) 2 2] 26)) := hid (by rw [hW3, hW2, hW1]; rfl)
 unfold pval at HD
 clear hE hA hW1 hW2 hW3 x1 x2 x3 s1 s2 s3 bA bB hP xx hg hc hPW
 go_enter Tryz.func8, Tryz.ntmps8
 go_wp2_with fail
 rw [← HW3.out]
 refine HD.out.mono ?_
 intro e w5 hx
 obtain ⟨hf, hx5⟩ := hx
 obtain ⟨L, Lm, s, v, hLm, hsf, hok, rfl, hrow⟩ := hf.yes fixed_least fixed_well ⟨⟨by decide, by rw [fixed_nodes]; decide⟩, by decide⟩
 have hl2 : L.length = 2 := by rw [hLm]; rw [hLm] at hok; exact because_two hok hsf
 have Hst := hid (hok.steps fixed_well)
 have hrs := StepsR.own hrow (Nat.le_refl _)
 obtain ⟨av, cv, rfl⟩ := row_form hrow
 have HCk := hid (whycheck_any _ _ _ 2 0 2 fixedP [[1], [1]] _ L w5 w5.heap.size ad ((HPW.out.ext hx5).lift hx5.size) (HAA.out.ext (HX.out.trans hx5)) Hg.out Hc.out hrs (by omega) (Nat.le_refl _))
 have Hl2 := hid hl2
 rw [hl2] at HCk
 rw [hl2]
 have Hx5 := hid hx5
 unfold pval at HCk
 have p0 := (HBp.out.ext hx5).av 0 rfl
 have p1 := (HBp.out.ext hx5).av 1 rfl
 have p2 := (HBp.out.ext hx5).av 2 rfl
 simp only [qA0, qA1, qA2] at p0 p1 p2
 clear HD hf hx5 hLm hok hrow hrs hl2
 go_wp2_with fail
 refine HCk.out.mono ?_
 intro e w6 hx
 obtain ⟨v, rfl, hpe, hx6⟩ := hx
 obtain rfl := hpe.ok (by have := Hl2.out; omega) Hst.out
 have Hx6 := hid (Hx5.out.trans hx6)
 have HCo := hid (coded2_any w6 .nilIface 0 ((code_nil w6).mono fun e w' ⟨h1, h2⟩ => ⟨h1, by rw [← h2]; exact Ext.refl _⟩))
 clear HCk hpe hx6 p0 p1 p2
 go_wp2_with fail
 refine HCo.out.mono ?_
 intro e w7 hx
 obtain ⟨rfl, hx7⟩ := hx
 have HX7 := hid (HX.out.trans (Hx6.out.trans hx7))
 clear HCo hx7
 go_wp2
 go_ret
 exact ⟨rfl, HX7.out⟩
set_option maxRecDepth 100000 in
set_option maxHeartbeats 6400000 in
theorem rfollows_base (a1 a2 a3 : Option Addr) (c1 c2 c3 : Nat) (P : PP) (vl : Value) (L : List ST) (i : Nat) (s : ST) (k : Nat) (y : PS) (w : World) (n0 : Nat) (h : ProgR w n0 (.slice a1 P.vars.length c1) (.slice a2 P.funs.length c2) (.slice a3 P.stmts.length c3) P) (hw : P.Well) (n1 : Nat) (hr : StepsR w n1 vl L) (hll : L.length ≤ 2000) (hs : L[i]? = some s) (hk : s.stmt = (k : Int)) (hy : P.stmts[k]? = some y) (hkb : ((P.ruleR k y).kind.toList == [98, 97, 115, 101]) = true) (b1 b2 : Bool) (h1 : (s.node == (P.ruleR k y).a) = b1) (h2 : (s.obj == (P.ruleR k y).b) = b2) :
  Calls Tryz.prog 48 #[pval a1 a2 a3 c1 c2 c3 P, vl, .int .i64 (i : Int)] w fun e w' => e = .returned (.bool (b1 && b2)) ∧ Ext w w' := by
 have hil := (List.getElem?_eq_some_iff.1 hs).1
 obtain ⟨y8, c8, rfl⟩ := hr.some (by omega)
 obtain ⟨sn, so, ss, sf, sv⟩ := s
 simp only at *
 subst hk
 obtain ⟨W1, hW1⟩ : ∃ W1, W1 = w.alloc (.cells #[.slice a1 P.vars.length c1, .slice a2 P.funs.length c2, .slice a3 P.stmts.length c3] 26) := ⟨_, rfl⟩
 obtain ⟨W, hW⟩ : ∃ W, W = W1.alloc (.cells #[.int .i64 sn, .int .i64 so, .int .i64 (k : Int), .int .i64 sf, .int .i64 sv] 48) := ⟨_, rfl⟩
 have x1 : Ext w W1 := by rw [hW1]; exact (Ext.refl _).alloc _
 have x2 : Ext W1 W := by rw [hW]; exact (Ext.refl _).alloc _
 have s1 : W1.heap.size = w.heap.size + 1 := by rw [hW1, heap_size_alloc]
 have HX := hid (x1.trans x2)
 have HBp : Hid (Blk W w.heap.size #[.slice a1 P.vars.length c1, .slice a2 P.funs.length c2, .slice a3 P.stmts.length c3] 26) := hid ((show Blk W1 w.heap.size _ 26 by rw [hW1]; exact Blk.new _ _ _).ext x2)
 have HBs : Hid (Blk W (w.heap.size + 1) #[.int .i64 sn, .int .i64 so, .int .i64 (k : Int), .int .i64 sf, .int .i64 sv] 48) := hid (by rw [← s1, hW]; exact Blk.new _ _ _)
 obtain ⟨q0, q1, q2, q3, q4⟩ := (hr.ext x1).at5 hs
 have HWe : Hid (W = (w.alloc (.cells #[.slice a1 P.vars.length c1, .slice a2 P.funs.length c2, .slice a3 P.stmts.length c3] 26)).alloc (.cells #[.int .i64 sn, .int .i64 so, .int .i64 (k : Int), .int .i64 sf, .int .i64 sv] 48)) := hid (by rw [hW, hW1])
 have HRu := hid (rruleof_any a1 a2 a3 c1 c2 c3 P k y hy W n0 (h.ext HX.out) hw)
 unfold pval at HRu
 have HP := hid (h.ext HX.out)
 have Hr := hid hr
 have p0 := HBp.out.av 0 rfl
 have p1 := HBp.out.av 1 rfl
 have p2 := HBp.out.av 2 rfl
 have e2 := HBs.out.av 2 rfl
 simp only [qA0, qA1, qA2] at p0 p1 p2 e2
 rw [HWe.out] at p0 p1 p2 e2
 simp only at q0 q1 q2 q3 q4
 rw [hW1] at q0 q1 q2 q3 q4
 unfold pval
 clear h hr hW hW1 x1 x2 s1 hs
 generalize P.ruleR k y = r at *
 go_enter Tryz.func48, Tryz.ntmps48
 go_wp2_with fail
 rw [← HWe.out]
 refine HRu.out.mono ?_
 intro e w2 hx
 obtain ⟨av, rfl, hI, hx2⟩ := hx
 obtain ⟨aa, ca, rfl, hal1, hal2, _⟩ := id hI
 have hal : (r.args.length : Int) ≤ 9223372036854775807 := by omega
 obtain ⟨W3, hW3⟩ : ∃ W3, W3 = w2.alloc (.cells #[.string r.kind, .int .i64 r.a, .int .i64 r.b, .int .i64 r.k, .slice aa r.args.length ca] 139) := ⟨_, rfl⟩
 have HX3 : Hid (Ext w2 W3) := hid (by rw [hW3]; exact (Ext.refl _).alloc _)
 have Hx2 := hid hx2
 have HI := hid hI
 have HBs3 := hid ((HBs.out.ext hx2).ext HX3.out)
 have HBp3 := hid ((HBp.out.ext hx2).ext HX3.out)
 have HBr3 : Hid (Blk W3 w2.heap.size #[.string r.kind, .int .i64 r.a, .int .i64 r.b, .int .i64 r.k, .slice aa r.args.length ca] 139) := hid (by rw [hW3]; exact Blk.new _ _ _)
 have HXw : Hid (Ext w W3) := hid ((HX.out.trans hx2).trans HX3.out)
 have HW3 := hid hW3
 unfold RV.val
 clear HRu hx2 hI hal1 hal2 q0 q1 q2 q3 q4 p0 p1 p2 e2 hW3
 have e0 := HBs3.out.av 0 rfl
 have e1 := HBs3.out.av 1 rfl
 have e3 := HBs3.out.av 3 rfl
 have e4 := HBs3.out.av 4 rfl
 have p0 := HBp3.out.av 0 rfl
 have p1 := HBp3.out.av 1 rfl
 have p2 := HBp3.out.av 2 rfl
 simp only [qA0, qA1, qA2] at e0 e1 e3 e4 p0 p1 p2
 rw [HW3.out] at e0 e1 e3 e4 p0 p1 p2
 cases b1 <;> cases b2 <;>
 (go_wp2
  go_ret
  rw [← HW3.out]
  exact ⟨rfl, HXw.out⟩)
set_option maxRecDepth 100000 in
set_option maxHeartbeats 6400000 in
theorem rfollows_xobj (a1 a2 a3 : Option Addr) (c1 c2 c3 : Nat) (P : PP) (vl : Value) (L : List ST) (i : Nat) (s : ST) (k : Nat) (y : PS) (w : World) (n0 : Nat) (h : ProgR w n0 (.slice a1 P.vars.length c1) (.slice a2 P.funs.length c2) (.slice a3 P.stmts.length c3) P) (hw : P.Well) (n1 : Nat) (hr : StepsR w n1 vl L) (hll : L.length ≤ 2000) (hs : L[i]? = some s) (hk : s.stmt = (k : Int)) (hy : P.stmts[k]? = some y) (hkb : ((P.ruleR k y).kind.toList == [98, 97, 115, 101]) = false) (f : Nat) (x : ST) (hf : Hid (s.frm = (f : Int))) (hx : Hid (L[f]? = some x)) (hxo : (x.obj == s.obj) = false) :
  Calls Tryz.prog 48 #[pval a1 a2 a3 c1 c2 c3 P, vl, .int .i64 (i : Int)] w fun e w' => e = .returned (.bool (false)) ∧ Ext w w' := by
 have hil := (List.getElem?_eq_some_iff.1 hs).1
 obtain ⟨y8, c8, rfl⟩ := hr.some (by omega)
 obtain ⟨sn, so, ss, sf, sv⟩ := s
 simp only at *
 subst hk
 obtain ⟨W1, hW1⟩ : ∃ W1, W1 = w.alloc (.cells #[.slice a1 P.vars.length c1, .slice a2 P.funs.length c2, .slice a3 P.stmts.length c3] 26) := ⟨_, rfl⟩
 obtain ⟨W, hW⟩ : ∃ W, W = W1.alloc (.cells #[.int .i64 sn, .int .i64 so, .int .i64 (k : Int), .int .i64 sf, .int .i64 sv] 48) := ⟨_, rfl⟩
 have x1 : Ext w W1 := by rw [hW1]; exact (Ext.refl _).alloc _
 have x2 : Ext W1 W := by rw [hW]; exact (Ext.refl _).alloc _
 have s1 : W1.heap.size = w.heap.size + 1 := by rw [hW1, heap_size_alloc]
 have HX := hid (x1.trans x2)
 have HBp : Hid (Blk W w.heap.size #[.slice a1 P.vars.length c1, .slice a2 P.funs.length c2, .slice a3 P.stmts.length c3] 26) := hid ((show Blk W1 w.heap.size _ 26 by rw [hW1]; exact Blk.new _ _ _).ext x2)
 have HBs : Hid (Blk W (w.heap.size + 1) #[.int .i64 sn, .int .i64 so, .int .i64 (k : Int), .int .i64 sf, .int .i64 sv] 48) := hid (by rw [← s1, hW]; exact Blk.new _ _ _)
 obtain ⟨q0, q1, q2, q3, q4⟩ := (hr.ext x1).at5 hs
 have HWe : Hid (W = (w.alloc (.cells #[.slice a1 P.vars.length c1, .slice a2 P.funs.length c2, .slice a3 P.stmts.length c3] 26)).alloc (.cells #[.int .i64 sn, .int .i64 so, .int .i64 (k : Int), .int .i64 sf, .int .i64 sv] 48)) := hid (by rw [hW, hW1])
 have HRu := hid (rruleof_any a1 a2 a3 c1 c2 c3 P k y hy W n0 (h.ext HX.out) hw)
 unfold pval at HRu
 have HP := hid (h.ext HX.out)
 have Hr := hid hr
 have p0 := HBp.out.av 0 rfl
 have p1 := HBp.out.av 1 rfl
 have p2 := HBp.out.av 2 rfl
 have e2 := HBs.out.av 2 rfl
 simp only [qA0, qA1, qA2] at p0 p1 p2 e2
 rw [HWe.out] at p0 p1 p2 e2
 simp only at q0 q1 q2 q3 q4
 rw [hW1] at q0 q1 q2 q3 q4
 unfold pval
 clear h hr hW hW1 x1 x2 s1 hs
 generalize P.ruleR k y = r at *
 go_enter Tryz.func48, Tryz.ntmps48
 go_wp2_with fail
 rw [← HWe.out]
 refine HRu.out.mono ?_
 intro e w2 hx
 obtain ⟨av, rfl, hI, hx2⟩ := hx
 obtain ⟨aa, ca, rfl, hal1, hal2, _⟩ := id hI
 have hal : (r.args.length : Int) ≤ 9223372036854775807 := by omega
 obtain ⟨W3, hW3⟩ : ∃ W3, W3 = w2.alloc (.cells #[.string r.kind, .int .i64 r.a, .int .i64 r.b, .int .i64 r.k, .slice aa r.args.length ca] 139) := ⟨_, rfl⟩
 have HX3 : Hid (Ext w2 W3) := hid (by rw [hW3]; exact (Ext.refl _).alloc _)
 have Hx2 := hid hx2
 have HI := hid hI
 have HBs3 := hid ((HBs.out.ext hx2).ext HX3.out)
 have HBp3 := hid ((HBp.out.ext hx2).ext HX3.out)
 have HBr3 : Hid (Blk W3 w2.heap.size #[.string r.kind, .int .i64 r.a, .int .i64 r.b, .int .i64 r.k, .slice aa r.args.length ca] 139) := hid (by rw [hW3]; exact Blk.new _ _ _)
 have HXw : Hid (Ext w W3) := hid ((HX.out.trans hx2).trans HX3.out)
 have HW3 := hid hW3
 unfold RV.val
 clear HRu hx2 hI hal1 hal2 q0 q1 q2 q3 q4 p0 p1 p2 e2 hW3
 have e0 := HBs3.out.av 0 rfl
 have e1 := HBs3.out.av 1 rfl
 have e3 := HBs3.out.av 3 rfl
 have e4 := HBs3.out.av 4 rfl
 have p0 := HBp3.out.av 0 rfl
 have p1 := HBp3.out.av 1 rfl
 have p2 := HBp3.out.av 2 rfl
 simp only [qA0, qA1, qA2] at e0 e1 e3 e4 p0 p1 p2
 rw [HW3.out] at e0 e1 e3 e4 p0 p1 p2
 have hf := hf.out
 subst hf
 have hx := hx.out
 have hfl := (List.getElem?_eq_some_iff.1 hx).1
 obtain ⟨t0, t1, t2, t3, t4⟩ := (Hr.out.ext HXw.out).at5 hx
 rw [HW3.out] at t0 t1 t2 t3 t4
 obtain ⟨W4, hW4⟩ : ∃ W4, W4 = W3.alloc (.cells #[.int .i64 x.node, .int .i64 x.obj, .int .i64 x.stmt, .int .i64 x.frm, .int .i64 x.via] 48) := ⟨_, rfl⟩
 have x4 : Ext W3 W4 := by rw [hW4]; exact (Ext.refl _).alloc _
 have HX4 := hid (HXw.out.trans x4)
 clear e1
 have e1 := (HBs3.out.ext x4).av 1 rfl
 simp only [qA0, qA1, qA2] at e1
 have HW4 := hid hW4
 rw [hW4, HW3.out] at e1
 have hxn : (x.obj != so) = true := by unfold bne; rw [hxo]; rfl
 clear hW4 hx x4 p0 p1 p2
 go_wp2
 go_ret
 rw [← HW3.out, ← HW4.out]
 exact ⟨rfl, HX4.out⟩
set_option maxRecDepth 100000 in
set_option maxHeartbeats 6400000 in
theorem rfollows_copy (a1 a2 a3 : Option Addr) (c1 c2 c3 : Nat) (P : PP) (vl : Value) (L : List ST) (i : Nat) (s : ST) (k : Nat) (y : PS) (w : World) (n0 : Nat) (h : ProgR w n0 (.slice a1 P.vars.length c1) (.slice a2 P.funs.length c2) (.slice a3 P.stmts.length c3) P) (hw : P.Well) (n1 : Nat) (hr : StepsR w n1 vl L) (hll : L.length ≤ 2000) (hs : L[i]? = some s) (hk : s.stmt = (k : Int)) (hy : P.stmts[k]? = some y) (hkb : ((P.ruleR k y).kind.toList == [98, 97, 115, 101]) = false) (hkc : ((P.ruleR k y).kind.toList == [99, 111, 112, 121]) = true) (f : Nat) (x : ST) (hf : Hid (s.frm = (f : Int))) (hx : Hid (L[f]? = some x)) (hxo : Hid (x.obj = s.obj)) (hv : Hid (s.via = -1)) (b1 b2 : Bool) (h1 : (x.node == (P.ruleR k y).a) = b1) (h2 : (s.node == (P.ruleR k y).b) = b2) :
  Calls Tryz.prog 48 #[pval a1 a2 a3 c1 c2 c3 P, vl, .int .i64 (i : Int)] w fun e w' => e = .returned (.bool (b1 && b2)) ∧ Ext w w' := by
 have hil := (List.getElem?_eq_some_iff.1 hs).1
 obtain ⟨y8, c8, rfl⟩ := hr.some (by omega)
 obtain ⟨sn, so, ss, sf, sv⟩ := s
 simp only at *
 subst hk
 obtain ⟨W1, hW1⟩ : ∃ W1, W1 = w.alloc (.cells #[.slice a1 P.vars.length c1, .slice a2 P.funs.length c2, .slice a3 P.stmts.length c3] 26) := ⟨_, rfl⟩
 obtain ⟨W, hW⟩ : ∃ W, W = W1.alloc (.cells #[.int .i64 sn, .int .i64 so, .int .i64 (k : Int), .int .i64 sf, .int .i64 sv] 48) := ⟨_, rfl⟩
 have x1 : Ext w W1 := by rw [hW1]; exact (Ext.refl _).alloc _
 have x2 : Ext W1 W := by rw [hW]; exact (Ext.refl _).alloc _
 have s1 : W1.heap.size = w.heap.size + 1 := by rw [hW1, heap_size_alloc]
 have HX := hid (x1.trans x2)
 have HBp : Hid (Blk W w.heap.size #[.slice a1 P.vars.length c1, .slice a2 P.funs.length c2, .slice a3 P.stmts.length c3] 26) := hid ((show Blk W1 w.heap.size _ 26 by rw [hW1]; exact Blk.new _ _ _).ext x2)
 have HBs : Hid (Blk W (w.heap.size + 1) #[.int .i64 sn, .int .i64 so, .int .i64 (k : Int), .int .i64 sf, .int .i64 sv] 48) := hid (by rw [← s1, hW]; exact Blk.new _ _ _)
 obtain ⟨q0, q1, q2, q3, q4⟩ := (hr.ext x1).at5 hs
 have HWe : Hid (W = (w.alloc (.cells #[.slice a1 P.vars.length c1, .slice a2 P.funs.length c2, .slice a3 P.stmts.length c3] 26)).alloc (.cells #[.int .i64 sn, .int .i64 so, .int .i64 (k : Int), .int .i64 sf, .int .i64 sv] 48)) := hid (by rw [hW, hW1])
 have HRu := hid (rruleof_any a1 a2 a3 c1 c2 c3 P k y hy W n0 (h.ext HX.out) hw)
 unfold pval at HRu
 have HP := hid (h.ext HX.out)
 have Hr := hid hr
 have p0 := HBp.out.av 0 rfl
 have p1 := HBp.out.av 1 rfl
 have p2 := HBp.out.av 2 rfl
 have e2 := HBs.out.av 2 rfl
 simp only [qA0, qA1, qA2] at p0 p1 p2 e2
 rw [HWe.out] at p0 p1 p2 e2
 simp only at q0 q1 q2 q3 q4
 rw [hW1] at q0 q1 q2 q3 q4
 unfold pval
 clear h hr hW hW1 x1 x2 s1 hs
 generalize P.ruleR k y = r at *
 go_enter Tryz.func48, Tryz.ntmps48
 go_wp2_with fail
 rw [← HWe.out]
 refine HRu.out.mono ?_
 intro e w2 hx
 obtain ⟨av, rfl, hI, hx2⟩ := hx
 obtain ⟨aa, ca, rfl, hal1, hal2, _⟩ := id hI
 have hal : (r.args.length : Int) ≤ 9223372036854775807 := by omega
 obtain ⟨W3, hW3⟩ : ∃ W3, W3 = w2.alloc (.cells #[.string r.kind, .int .i64 r.a, .int .i64 r.b, .int .i64 r.k, .slice aa r.args.length ca] 139) := ⟨_, rfl⟩
 have HX3 : Hid (Ext w2 W3) := hid (by rw [hW3]; exact (Ext.refl _).alloc _)
 have Hx2 := hid hx2
 have HI := hid hI
 have HBs3 := hid ((HBs.out.ext hx2).ext HX3.out)
 have HBp3 := hid ((HBp.out.ext hx2).ext HX3.out)
 have HBr3 : Hid (Blk W3 w2.heap.size #[.string r.kind, .int .i64 r.a, .int .i64 r.b, .int .i64 r.k, .slice aa r.args.length ca] 139) := hid (by rw [hW3]; exact Blk.new _ _ _)
 have HXw : Hid (Ext w W3) := hid ((HX.out.trans hx2).trans HX3.out)
 have HW3 := hid hW3
 unfold RV.val
 clear HRu hx2 hI hal1 hal2 q0 q1 q2 q3 q4 p0 p1 p2 e2 hW3
 have e0 := HBs3.out.av 0 rfl
 have e1 := HBs3.out.av 1 rfl
 have e3 := HBs3.out.av 3 rfl
 have e4 := HBs3.out.av 4 rfl
 have p0 := HBp3.out.av 0 rfl
 have p1 := HBp3.out.av 1 rfl
 have p2 := HBp3.out.av 2 rfl
 simp only [qA0, qA1, qA2] at e0 e1 e3 e4 p0 p1 p2
 rw [HW3.out] at e0 e1 e3 e4 p0 p1 p2
 have hv := hv.out
 subst hv
 have hf := hf.out
 have hxo := hxo.out
 subst hf hxo
 have hx := hx.out
 have hfl := (List.getElem?_eq_some_iff.1 hx).1
 obtain ⟨t0, t1, t2, t3, t4⟩ := (Hr.out.ext HXw.out).at5 hx
 rw [HW3.out] at t0 t1 t2 t3 t4
 obtain ⟨W4, hW4⟩ : ∃ W4, W4 = W3.alloc (.cells #[.int .i64 x.node, .int .i64 x.obj, .int .i64 x.stmt, .int .i64 x.frm, .int .i64 x.via] 48) := ⟨_, rfl⟩
 obtain ⟨W5, hW5⟩ : ∃ W5, W5 = W4.alloc (.cells #[.int .i64 0, .int .i64 0, .int .i64 0, .int .i64 0, .int .i64 0] 48) := ⟨_, rfl⟩
 obtain ⟨W6, hW6⟩ : ∃ W6, W6 = W4.alloc (.cells #[.int .i64 0, .int .i64 0, .int .i64 0, .int .i64 0, .int .i64 0] 48) := ⟨_, rfl⟩
 have s3 : W3.heap.size = w2.heap.size + 1 := by rw [HW3.out, heap_size_alloc]
 have s4 : W4.heap.size = w2.heap.size + 2 := by rw [hW4, heap_size_alloc, s3]
 have x4 : Ext W3 W4 := by rw [hW4]; exact (Ext.refl _).alloc _
 have x5 : Ext W4 W5 := by rw [hW5]; exact (Ext.refl _).alloc _
 have x6 : Ext W4 W6 := by rw [hW6]; exact (Ext.refl _).alloc _
 have HXz := hid (HXw.out.trans (x4.trans x6))
 have HX6 : Hid (Ext W W6) := hid ((Hx2.out.trans HX3.out).trans (x4.trans x6))
 have HBx6 : Hid (Blk W6 (w2.heap.size + 1) #[.int .i64 x.node, .int .i64 x.obj, .int .i64 x.stmt, .int .i64 x.frm, .int .i64 x.via] 48) := hid ((show Blk W4 (w2.heap.size + 1) _ 48 by rw [← s3, hW4]; exact Blk.new _ _ _).ext x6)
 have HBz6 : Hid (Blk W6 (w2.heap.size + 2) #[.int .i64 0, .int .i64 0, .int .i64 0, .int .i64 0, .int .i64 0] 48) := hid (by rw [← s4, hW6]; exact Blk.new _ _ _)
 have HBs6 := hid ((HBs3.out.ext x4).ext x6)
 have HBp6 := hid ((HBp3.out.ext x4).ext x6)
 have HBr6 := hid ((HBr3.out.ext x4).ext x6)
 clear e1 e4 p0 p1 p2
 have e1 := (HBs3.out.ext x4).av 1 rfl
 have e4 := ((HBs3.out.ext x4).ext x5).av 4 rfl
 have p0 := HBp6.out.av 0 rfl
 have p1 := HBp6.out.av 1 rfl
 have p2 := HBp6.out.av 2 rfl
 simp only [qA0, qA1, qA2] at e1 e4 p0 p1 p2
 have HNo := hid (rnodesof_any a1 a2 a3 c1 c2 c3 P W6 n0 (HP.out.ext ((Hx2.out.trans HX3.out).trans (x4.trans x6))) (by have := hw.few; omega) (by have := hw.few; omega))
 unfold pval at HNo
 have HW6 : Hid (W6 = (((w2.alloc (.cells #[.string r.kind, .int .i64 r.a, .int .i64 r.b, .int .i64 r.k, .slice aa r.args.length ca] 139)).alloc (.cells #[.int .i64 x.node, .int .i64 x.obj, .int .i64 x.stmt, .int .i64 x.frm, .int .i64 x.via] 48)).alloc (.cells #[.int .i64 0, .int .i64 0, .int .i64 0, .int .i64 0, .int .i64 0] 48))) := hid (by rw [hW6, hW4, HW3.out])
 rw [hW4, HW3.out] at e1
 rw [hW5, hW4, HW3.out] at e4
 rw [HW6.out] at p0 p1 p2
 clear hW4 hW5 hW6 s3 s4 x4 x5 x6 hx
 go_wp2_with fail
 rw [← HW6.out]
 refine HNo.out.mono ?_
 intro e w7 hx
 obtain ⟨rfl, hx7⟩ := hx
 have Hx7 := hid (HXz.out.trans hx7)
 have Hy7 := hid hx7
 clear t0 t1 t2 t3 t4 e0 e1 e3 e4 p0 p1 p2
 have e0 := (HBs6.out.ext hx7).av 0 rfl
 have e1 := (HBs6.out.ext hx7).av 1 rfl
 have t0 := (HBx6.out.ext hx7).av 0 rfl
 have u0 := (HBz6.out.ext hx7).av 0 rfl
 have u1 := (HBz6.out.ext hx7).av 1 rfl
 have r0 := (HBr6.out.ext hx7).av 0 rfl
 have r1 := (HBr6.out.ext hx7).av 1 rfl
 have r2 := (HBr6.out.ext hx7).av 2 rfl
 simp only [qA0, qA1, qA2] at e0 e1 t0 u0 u1 r0 r1 r2
 clear HNo hx7
 cases b1 <;> cases b2 <;>
 (go_wp2
  go_ret
  exact ⟨rfl, Hx7.out⟩)
set_option maxRecDepth 100000 in
set_option maxHeartbeats 6400000 in
theorem rfollows_load (a1 a2 a3 : Option Addr) (c1 c2 c3 : Nat) (P : PP) (vl : Value) (L : List ST) (i : Nat) (s : ST) (k : Nat) (y : PS) (w : World) (n0 : Nat) (h : ProgR w n0 (.slice a1 P.vars.length c1) (.slice a2 P.funs.length c2) (.slice a3 P.stmts.length c3) P) (hw : P.Well) (n1 : Nat) (hr : StepsR w n1 vl L) (hll : L.length ≤ 2000) (hs : L[i]? = some s) (hk : s.stmt = (k : Int)) (hy : P.stmts[k]? = some y) (hkb : ((P.ruleR k y).kind.toList == [98, 97, 115, 101]) = false) (hkc : ((P.ruleR k y).kind.toList == [99, 111, 112, 121]) = false) (hkl : ((P.ruleR k y).kind.toList == [108, 111, 97, 100]) = true) (f : Nat) (x : ST) (hf : Hid (s.frm = (f : Int))) (hx : Hid (L[f]? = some x)) (hxo : Hid (x.obj = s.obj)) (v : Nat) (z : ST) (hv : Hid (s.via = (v : Int))) (hz : Hid (L[v]? = some z)) (b1 b2 b3 : Bool) (h1 : (z.node == (P.ruleR k y).a) = b1) (h2 : (z.obj == x.node) = b2) (h3 : (s.node == (P.ruleR k y).b) = b3) :
  Calls Tryz.prog 48 #[pval a1 a2 a3 c1 c2 c3 P, vl, .int .i64 (i : Int)] w fun e w' => e = .returned (.bool (b1 && b2 && b3)) ∧ Ext w w' := by
 have hil := (List.getElem?_eq_some_iff.1 hs).1
 obtain ⟨y8, c8, rfl⟩ := hr.some (by omega)
 obtain ⟨sn, so, ss, sf, sv⟩ := s
 simp only at *
 subst hk
 obtain ⟨W1, hW1⟩ : ∃ W1, W1 = w.alloc (.cells #[.slice a1 P.vars.length c1, .slice a2 P.funs.length c2, .slice a3 P.stmts.length c3] 26) := ⟨_, rfl⟩
 obtain ⟨W, hW⟩ : ∃ W, W = W1.alloc (.cells #[.int .i64 sn, .int .i64 so, .int .i64 (k : Int), .int .i64 sf, .int .i64 sv] 48) := ⟨_, rfl⟩
 have x1 : Ext w W1 := by rw [hW1]; exact (Ext.refl _).alloc _
 have x2 : Ext W1 W := by rw [hW]; exact (Ext.refl _).alloc _
 have s1 : W1.heap.size = w.heap.size + 1 := by rw [hW1, heap_size_alloc]
 have HX := hid (x1.trans x2)
 have HBp : Hid (Blk W w.heap.size #[.slice a1 P.vars.length c1, .slice a2 P.funs.length c2, .slice a3 P.stmts.length c3] 26) := hid ((show Blk W1 w.heap.size _ 26 by rw [hW1]; exact Blk.new _ _ _).ext x2)
 have HBs : Hid (Blk W (w.heap.size + 1) #[.int .i64 sn, .int .i64 so, .int .i64 (k : Int), .int .i64 sf, .int .i64 sv] 48) := hid (by rw [← s1, hW]; exact Blk.new _ _ _)
 obtain ⟨q0, q1, q2, q3, q4⟩ := (hr.ext x1).at5 hs
 have HWe : Hid (W = (w.alloc (.cells #[.slice a1 P.vars.length c1, .slice a2 P.funs.length c2, .slice a3 P.stmts.length c3] 26)).alloc (.cells #[.int .i64 sn, .int .i64 so, .int .i64 (k : Int), .int .i64 sf, .int .i64 sv] 48)) := hid (by rw [hW, hW1])
 have HRu := hid (rruleof_any a1 a2 a3 c1 c2 c3 P k y hy W n0 (h.ext HX.out) hw)
 unfold pval at HRu
 have HP := hid (h.ext HX.out)
 have Hr := hid hr
 have p0 := HBp.out.av 0 rfl
 have p1 := HBp.out.av 1 rfl
 have p2 := HBp.out.av 2 rfl
 have e2 := HBs.out.av 2 rfl
 simp only [qA0, qA1, qA2] at p0 p1 p2 e2
 rw [HWe.out] at p0 p1 p2 e2
 simp only at q0 q1 q2 q3 q4
 rw [hW1] at q0 q1 q2 q3 q4
 unfold pval
 clear h hr hW hW1 x1 x2 s1 hs
 generalize P.ruleR k y = r at *
 go_enter Tryz.func48, Tryz.ntmps48
 go_wp2_with fail
 rw [← HWe.out]
 refine HRu.out.mono ?_
 intro e w2 hx
 obtain ⟨av, rfl, hI, hx2⟩ := hx
 obtain ⟨aa, ca, rfl, hal1, hal2, _⟩ := id hI
 have hal : (r.args.length : Int) ≤ 9223372036854775807 := by omega
 obtain ⟨W3, hW3⟩ : ∃ W3, W3 = w2.alloc (.cells #[.string r.kind, .int .i64 r.a, .int .i64 r.b, .int .i64 r.k, .slice aa r.args.length ca] 139) := ⟨_, rfl⟩
 have HX3 : Hid (Ext w2 W3) := hid (by rw [hW3]; exact (Ext.refl _).alloc _)
 have Hx2 := hid hx2
 have HI := hid hI
 have HBs3 := hid ((HBs.out.ext hx2).ext HX3.out)
 have HBp3 := hid ((HBp.out.ext hx2).ext HX3.out)
 have HBr3 : Hid (Blk W3 w2.heap.size #[.string r.kind, .int .i64 r.a, .int .i64 r.b, .int .i64 r.k, .slice aa r.args.length ca] 139) := hid (by rw [hW3]; exact Blk.new _ _ _)
 have HXw : Hid (Ext w W3) := hid ((HX.out.trans hx2).trans HX3.out)
 have HW3 := hid hW3
 unfold RV.val
 clear HRu hx2 hI hal1 hal2 q0 q1 q2 q3 q4 p0 p1 p2 e2 hW3
 have e0 := HBs3.out.av 0 rfl
 have e1 := HBs3.out.av 1 rfl
 have e3 := HBs3.out.av 3 rfl
 have e4 := HBs3.out.av 4 rfl
 have p0 := HBp3.out.av 0 rfl
 have p1 := HBp3.out.av 1 rfl
 have p2 := HBp3.out.av 2 rfl
 simp only [qA0, qA1, qA2] at e0 e1 e3 e4 p0 p1 p2
 rw [HW3.out] at e0 e1 e3 e4 p0 p1 p2
 have hv := hv.out
 subst hv
 have hz := hz.out
 have hf := hf.out
 have hxo := hxo.out
 subst hf hxo
 have hx := hx.out
 have hfl := (List.getElem?_eq_some_iff.1 hx).1
 obtain ⟨t0, t1, t2, t3, t4⟩ := (Hr.out.ext HXw.out).at5 hx
 rw [HW3.out] at t0 t1 t2 t3 t4
 obtain ⟨W4, hW4⟩ : ∃ W4, W4 = W3.alloc (.cells #[.int .i64 x.node, .int .i64 x.obj, .int .i64 x.stmt, .int .i64 x.frm, .int .i64 x.via] 48) := ⟨_, rfl⟩
 obtain ⟨W5, hW5⟩ : ∃ W5, W5 = W4.alloc (.cells #[.int .i64 0, .int .i64 0, .int .i64 0, .int .i64 0, .int .i64 0] 48) := ⟨_, rfl⟩
 obtain ⟨W6, hW6⟩ : ∃ W6, W6 = W4.alloc (.cells #[.int .i64 z.node, .int .i64 z.obj, .int .i64 z.stmt, .int .i64 z.frm, .int .i64 z.via] 48) := ⟨_, rfl⟩
 have s3 : W3.heap.size = w2.heap.size + 1 := by rw [HW3.out, heap_size_alloc]
 have s4 : W4.heap.size = w2.heap.size + 2 := by rw [hW4, heap_size_alloc, s3]
 have x4 : Ext W3 W4 := by rw [hW4]; exact (Ext.refl _).alloc _
 have x5 : Ext W4 W5 := by rw [hW5]; exact (Ext.refl _).alloc _
 have x6 : Ext W4 W6 := by rw [hW6]; exact (Ext.refl _).alloc _
 have HXz := hid (HXw.out.trans (x4.trans x6))
 have HX6 : Hid (Ext W W6) := hid ((Hx2.out.trans HX3.out).trans (x4.trans x6))
 have HBx6 : Hid (Blk W6 (w2.heap.size + 1) #[.int .i64 x.node, .int .i64 x.obj, .int .i64 x.stmt, .int .i64 x.frm, .int .i64 x.via] 48) := hid ((show Blk W4 (w2.heap.size + 1) _ 48 by rw [← s3, hW4]; exact Blk.new _ _ _).ext x6)
 have HBz6 : Hid (Blk W6 (w2.heap.size + 2) #[.int .i64 z.node, .int .i64 z.obj, .int .i64 z.stmt, .int .i64 z.frm, .int .i64 z.via] 48) := hid (by rw [← s4, hW6]; exact Blk.new _ _ _)
 have HBs6 := hid ((HBs3.out.ext x4).ext x6)
 have HBp6 := hid ((HBp3.out.ext x4).ext x6)
 have HBr6 := hid ((HBr3.out.ext x4).ext x6)
 clear e1 e4 p0 p1 p2
 have e1 := (HBs3.out.ext x4).av 1 rfl
 have e4 := ((HBs3.out.ext x4).ext x5).av 4 rfl
 have p0 := HBp6.out.av 0 rfl
 have p1 := HBp6.out.av 1 rfl
 have p2 := HBp6.out.av 2 rfl
 simp only [qA0, qA1, qA2] at e1 e4 p0 p1 p2
 have HNo := hid (rnodesof_any a1 a2 a3 c1 c2 c3 P W6 n0 (HP.out.ext ((Hx2.out.trans HX3.out).trans (x4.trans x6))) (by have := hw.few; omega) (by have := hw.few; omega))
 unfold pval at HNo
 have HW6 : Hid (W6 = (((w2.alloc (.cells #[.string r.kind, .int .i64 r.a, .int .i64 r.b, .int .i64 r.k, .slice aa r.args.length ca] 139)).alloc (.cells #[.int .i64 x.node, .int .i64 x.obj, .int .i64 x.stmt, .int .i64 x.frm, .int .i64 x.via] 48)).alloc (.cells #[.int .i64 z.node, .int .i64 z.obj, .int .i64 z.stmt, .int .i64 z.frm, .int .i64 z.via] 48))) := hid (by rw [hW6, hW4, HW3.out])
 rw [hW4, HW3.out] at e1
 rw [hW5, hW4, HW3.out] at e4
 rw [HW6.out] at p0 p1 p2
 obtain ⟨v0, v1, v2, v3, v4⟩ := (Hr.out.ext ((HXw.out.trans x4).trans x5)).at5 hz
 rw [hW5, hW4, HW3.out] at v0 v1 v2 v3 v4
 have hvl := (List.getElem?_eq_some_iff.1 hz).1
 have b4 := (show Blk W5 (w2.heap.size + 2) #[.int .i64 0, .int .i64 0, .int .i64 0, .int .i64 0, .int .i64 0] 48 by rw [← s4, hW5]; exact Blk.new _ _ _)
 clear hz
 clear hW4 hW5 hW6 s3 s4 x4 x5 x6 hx
 go_wp2_with fail
 rw [← HW6.out]
 refine HNo.out.mono ?_
 intro e w7 hx
 obtain ⟨rfl, hx7⟩ := hx
 have Hx7 := hid (HXz.out.trans hx7)
 have Hy7 := hid hx7
 clear t0 t1 t2 t3 t4 e0 e1 e3 e4 p0 p1 p2
 have e0 := (HBs6.out.ext hx7).av 0 rfl
 have e1 := (HBs6.out.ext hx7).av 1 rfl
 have t0 := (HBx6.out.ext hx7).av 0 rfl
 have u0 := (HBz6.out.ext hx7).av 0 rfl
 have u1 := (HBz6.out.ext hx7).av 1 rfl
 have r0 := (HBr6.out.ext hx7).av 0 rfl
 have r1 := (HBr6.out.ext hx7).av 1 rfl
 have r2 := (HBr6.out.ext hx7).av 2 rfl
 simp only [qA0, qA1, qA2] at e0 e1 t0 u0 u1 r0 r1 r2
 clear HNo hx7
 clear v0 v1 v2 v3 v4 b4
 cases b1 <;> cases b2 <;> cases b3 <;>
 (go_wp2
  go_ret
  exact ⟨rfl, Hx7.out⟩)
set_option maxRecDepth 100000 in
set_option maxHeartbeats 6400000 in
theorem rfollows_store (a1 a2 a3 : Option Addr) (c1 c2 c3 : Nat) (P : PP) (vl : Value) (L : List ST) (i : Nat) (s : ST) (k : Nat) (y : PS) (w : World) (n0 : Nat) (h : ProgR w n0 (.slice a1 P.vars.length c1) (.slice a2 P.funs.length c2) (.slice a3 P.stmts.length c3) P) (hw : P.Well) (n1 : Nat) (hr : StepsR w n1 vl L) (hll : L.length ≤ 2000) (hs : L[i]? = some s) (hk : s.stmt = (k : Int)) (hy : P.stmts[k]? = some y) (hkb : ((P.ruleR k y).kind.toList == [98, 97, 115, 101]) = false) (hkc : ((P.ruleR k y).kind.toList == [99, 111, 112, 121]) = false) (hkl : ((P.ruleR k y).kind.toList == [108, 111, 97, 100]) = false) (hks : ((P.ruleR k y).kind.toList == [115, 116, 111, 114, 101]) = true) (f : Nat) (x : ST) (hf : Hid (s.frm = (f : Int))) (hx : Hid (L[f]? = some x)) (hxo : Hid (x.obj = s.obj)) (v : Nat) (z : ST) (hv : Hid (s.via = (v : Int))) (hz : Hid (L[v]? = some z)) (b1 b2 b3 b4 : Bool) (h1 : (z.node == (P.ruleR k y).b) = b1) (h2 : (z.obj == s.node) = b2) (h3 : decide (s.node < P.nodesV) = b3) (h4 : (x.node == (P.ruleR k y).a) = b4) :
  Calls Tryz.prog 48 #[pval a1 a2 a3 c1 c2 c3 P, vl, .int .i64 (i : Int)] w fun e w' => e = .returned (.bool (b1 && b2 && b3 && b4)) ∧ Ext w w' := by
 have hil := (List.getElem?_eq_some_iff.1 hs).1
 obtain ⟨y8, c8, rfl⟩ := hr.some (by omega)
 obtain ⟨sn, so, ss, sf, sv⟩ := s
 simp only at *
 subst hk
 obtain ⟨W1, hW1⟩ : ∃ W1, W1 = w.alloc (.cells #[.slice a1 P.vars.length c1, .slice a2 P.funs.length c2, .slice a3 P.stmts.length c3] 26) := ⟨_, rfl⟩
 obtain ⟨W, hW⟩ : ∃ W, W = W1.alloc (.cells #[.int .i64 sn, .int .i64 so, .int .i64 (k : Int), .int .i64 sf, .int .i64 sv] 48) := ⟨_, rfl⟩
 have x1 : Ext w W1 := by rw [hW1]; exact (Ext.refl _).alloc _
 have x2 : Ext W1 W := by rw [hW]; exact (Ext.refl _).alloc _
 have s1 : W1.heap.size = w.heap.size + 1 := by rw [hW1, heap_size_alloc]
 have HX := hid (x1.trans x2)
 have HBp : Hid (Blk W w.heap.size #[.slice a1 P.vars.length c1, .slice a2 P.funs.length c2, .slice a3 P.stmts.length c3] 26) := hid ((show Blk W1 w.heap.size _ 26 by rw [hW1]; exact Blk.new _ _ _).ext x2)
 have HBs : Hid (Blk W (w.heap.size + 1) #[.int .i64 sn, .int .i64 so, .int .i64 (k : Int), .int .i64 sf, .int .i64 sv] 48) := hid (by rw [← s1, hW]; exact Blk.new _ _ _)
 obtain ⟨q0, q1, q2, q3, q4⟩ := (hr.ext x1).at5 hs
 have HWe : Hid (W = (w.alloc (.cells #[.slice a1 P.vars.length c1, .slice a2 P.funs.length c2, .slice a3 P.stmts.length c3] 26)).alloc (.cells #[.int .i64 sn, .int .i64 so, .int .i64 (k : Int), .int .i64 sf, .int .i64 sv] 48)) := hid (by rw [hW, hW1])
 have HRu := hid (rruleof_any a1 a2 a3 c1 c2 c3 P k y hy W n0 (h.ext HX.out) hw)
 unfold pval at HRu
 have HP := hid (h.ext HX.out)
 have Hr := hid hr
 have p0 := HBp.out.av 0 rfl
 have p1 := HBp.out.av 1 rfl
 have p2 := HBp.out.av 2 rfl
 have e2 := HBs.out.av 2 rfl
 simp only [qA0, qA1, qA2] at p0 p1 p2 e2
 rw [HWe.out] at p0 p1 p2 e2
 simp only at q0 q1 q2 q3 q4
 rw [hW1] at q0 q1 q2 q3 q4
 unfold pval
 clear h hr hW hW1 x1 x2 s1 hs
 generalize P.ruleR k y = r at *
 go_enter Tryz.func48, Tryz.ntmps48
 go_wp2_with fail
 rw [← HWe.out]
 refine HRu.out.mono ?_
 intro e w2 hx
 obtain ⟨av, rfl, hI, hx2⟩ := hx
 obtain ⟨aa, ca, rfl, hal1, hal2, _⟩ := id hI
 have hal : (r.args.length : Int) ≤ 9223372036854775807 := by omega
 obtain ⟨W3, hW3⟩ : ∃ W3, W3 = w2.alloc (.cells #[.string r.kind, .int .i64 r.a, .int .i64 r.b, .int .i64 r.k, .slice aa r.args.length ca] 139) := ⟨_, rfl⟩
 have HX3 : Hid (Ext w2 W3) := hid (by rw [hW3]; exact (Ext.refl _).alloc _)
 have Hx2 := hid hx2
 have HI := hid hI
 have HBs3 := hid ((HBs.out.ext hx2).ext HX3.out)
 have HBp3 := hid ((HBp.out.ext hx2).ext HX3.out)
 have HBr3 : Hid (Blk W3 w2.heap.size #[.string r.kind, .int .i64 r.a, .int .i64 r.b, .int .i64 r.k, .slice aa r.args.length ca] 139) := hid (by rw [hW3]; exact Blk.new _ _ _)
 have HXw : Hid (Ext w W3) := hid ((HX.out.trans hx2).trans HX3.out)
 have HW3 := hid hW3
 unfold RV.val
 clear HRu hx2 hI hal1 hal2 q0 q1 q2 q3 q4 p0 p1 p2 e2 hW3
 have e0 := HBs3.out.av 0 rfl
 have e1 := HBs3.out.av 1 rfl
 have e3 := HBs3.out.av 3 rfl
 have e4 := HBs3.out.av 4 rfl
 have p0 := HBp3.out.av 0 rfl
 have p1 := HBp3.out.av 1 rfl
 have p2 := HBp3.out.av 2 rfl
 simp only [qA0, qA1, qA2] at e0 e1 e3 e4 p0 p1 p2
 rw [HW3.out] at e0 e1 e3 e4 p0 p1 p2
 have hv := hv.out
 subst hv
 have hz := hz.out
 have hf := hf.out
 have hxo := hxo.out
 subst hf hxo
 have hx := hx.out
 have hfl := (List.getElem?_eq_some_iff.1 hx).1
 obtain ⟨t0, t1, t2, t3, t4⟩ := (Hr.out.ext HXw.out).at5 hx
 rw [HW3.out] at t0 t1 t2 t3 t4
 obtain ⟨W4, hW4⟩ : ∃ W4, W4 = W3.alloc (.cells #[.int .i64 x.node, .int .i64 x.obj, .int .i64 x.stmt, .int .i64 x.frm, .int .i64 x.via] 48) := ⟨_, rfl⟩
 obtain ⟨W5, hW5⟩ : ∃ W5, W5 = W4.alloc (.cells #[.int .i64 0, .int .i64 0, .int .i64 0, .int .i64 0, .int .i64 0] 48) := ⟨_, rfl⟩
 obtain ⟨W6, hW6⟩ : ∃ W6, W6 = W4.alloc (.cells #[.int .i64 z.node, .int .i64 z.obj, .int .i64 z.stmt, .int .i64 z.frm, .int .i64 z.via] 48) := ⟨_, rfl⟩
 have s3 : W3.heap.size = w2.heap.size + 1 := by rw [HW3.out, heap_size_alloc]
 have s4 : W4.heap.size = w2.heap.size + 2 := by rw [hW4, heap_size_alloc, s3]
 have x4 : Ext W3 W4 := by rw [hW4]; exact (Ext.refl _).alloc _
 have x5 : Ext W4 W5 := by rw [hW5]; exact (Ext.refl _).alloc _
 have x6 : Ext W4 W6 := by rw [hW6]; exact (Ext.refl _).alloc _
 have HXz := hid (HXw.out.trans (x4.trans x6))
 have HX6 : Hid (Ext W W6) := hid ((Hx2.out.trans HX3.out).trans (x4.trans x6))
 have HBx6 : Hid (Blk W6 (w2.heap.size + 1) #[.int .i64 x.node, .int .i64 x.obj, .int .i64 x.stmt, .int .i64 x.frm, .int .i64 x.via] 48) := hid ((show Blk W4 (w2.heap.size + 1) _ 48 by rw [← s3, hW4]; exact Blk.new _ _ _).ext x6)
 have HBz6 : Hid (Blk W6 (w2.heap.size + 2) #[.int .i64 z.node, .int .i64 z.obj, .int .i64 z.stmt, .int .i64 z.frm, .int .i64 z.via] 48) := hid (by rw [← s4, hW6]; exact Blk.new _ _ _)
 have HBs6 := hid ((HBs3.out.ext x4).ext x6)
 have HBp6 := hid ((HBp3.out.ext x4).ext x6)
 have HBr6 := hid ((HBr3.out.ext x4).ext x6)
 clear e1 e4 p0 p1 p2
 have e1 := (HBs3.out.ext x4).av 1 rfl
 have e4 := ((HBs3.out.ext x4).ext x5).av 4 rfl
 have p0 := HBp6.out.av 0 rfl
 have p1 := HBp6.out.av 1 rfl
 have p2 := HBp6.out.av 2 rfl
 simp only [qA0, qA1, qA2] at e1 e4 p0 p1 p2
 have HNo := hid (rnodesof_any a1 a2 a3 c1 c2 c3 P W6 n0 (HP.out.ext ((Hx2.out.trans HX3.out).trans (x4.trans x6))) (by have := hw.few; omega) (by have := hw.few; omega))
 unfold pval at HNo
 have HW6 : Hid (W6 = (((w2.alloc (.cells #[.string r.kind, .int .i64 r.a, .int .i64 r.b, .int .i64 r.k, .slice aa r.args.length ca] 139)).alloc (.cells #[.int .i64 x.node, .int .i64 x.obj, .int .i64 x.stmt, .int .i64 x.frm, .int .i64 x.via] 48)).alloc (.cells #[.int .i64 z.node, .int .i64 z.obj, .int .i64 z.stmt, .int .i64 z.frm, .int .i64 z.via] 48))) := hid (by rw [hW6, hW4, HW3.out])
 rw [hW4, HW3.out] at e1
 rw [hW5, hW4, HW3.out] at e4
 rw [HW6.out] at p0 p1 p2
 obtain ⟨v0, v1, v2, v3, v4⟩ := (Hr.out.ext ((HXw.out.trans x4).trans x5)).at5 hz
 rw [hW5, hW4, HW3.out] at v0 v1 v2 v3 v4
 have hvl := (List.getElem?_eq_some_iff.1 hz).1
 have b4 := (show Blk W5 (w2.heap.size + 2) #[.int .i64 0, .int .i64 0, .int .i64 0, .int .i64 0, .int .i64 0] 48 by rw [← s4, hW5]; exact Blk.new _ _ _)
 clear hz
 clear hW4 hW5 hW6 s3 s4 x4 x5 x6 hx
 go_wp2_with fail
 rw [← HW6.out]
 refine HNo.out.mono ?_
 intro e w7 hx
 obtain ⟨rfl, hx7⟩ := hx
 have Hx7 := hid (HXz.out.trans hx7)
 have Hy7 := hid hx7
 clear t0 t1 t2 t3 t4 e0 e1 e3 e4 p0 p1 p2
 have e0 := (HBs6.out.ext hx7).av 0 rfl
 have e1 := (HBs6.out.ext hx7).av 1 rfl
 have t0 := (HBx6.out.ext hx7).av 0 rfl
 have u0 := (HBz6.out.ext hx7).av 0 rfl
 have u1 := (HBz6.out.ext hx7).av 1 rfl
 have r0 := (HBr6.out.ext hx7).av 0 rfl
 have r1 := (HBr6.out.ext hx7).av 1 rfl
 have r2 := (HBr6.out.ext hx7).av 2 rfl
 simp only [qA0, qA1, qA2] at e0 e1 t0 u0 u1 r0 r1 r2
 clear HNo hx7
 clear v0 v1 v2 v3 v4 b4
 cases b1 <;> cases b2 <;> cases b3 <;> cases b4 <;>
 (go_wp2
  go_ret
  exact ⟨rfl, Hx7.out⟩)
end Go.Proofs.YtngdpnlgnpdkcaaGreatDoor
