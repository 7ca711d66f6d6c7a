/- Texts of one proof, put together: Z5 X1 ZB WL W5 WM WN WO Z7. -/
import Derived.Test.YtoaoienfggjepaaGreatDoorCN07
import Derived.Test.YtoaoienfggjepaaGreatDoorCN08
import Derived.Test.YtoaoienfggjepaaGreatDoorCN13
import Derived.Test.YtoaoienfggjepaaGreatDoorCN16
import Derived.Test.YtoaoienfggjepaaGreatDoorCN18

/- ConsOrder: the law walked. -/
namespace Go.Proofs.YtoaoienfggjepaaGreatDoor
set_option linter.unusedSimpArgs false
set_option linter.unusedVariables false
open Go Go.RowKit

end Go.Proofs.YtoaoienfggjepaaGreatDoor



/- FixClosed: the law walked. -/
namespace Go.Proofs.YtoaoienfggjepaaGreatDoor
set_option linter.unusedSimpArgs false
set_option linter.unusedVariables false
open Go Go.RowKit

end Go.Proofs.YtoaoienfggjepaaGreatDoor



/- CallsAlias: the law walked. -/
namespace Go.Proofs.YtoaoienfggjepaaGreatDoor
set_option linter.unusedSimpArgs false
set_option linter.unusedVariables false
open Go Go.RowKit

end Go.Proofs.YtoaoienfggjepaaGreatDoor



/- RunDoes: numbers copied and a program run, whatever order Go takes. -/
namespace Go.Proofs.YtoaoienfggjepaaGreatDoor
set_option linter.unusedSimpArgs false
set_option linter.unusedVariables false
open Go Go.RowKit

set_option maxRecDepth 100000 in
set_option maxHeartbeats 800000 in
theorem ownintsR_more (v : Value) (l : List Int) (w : World) (n0 : Nat) (h : IntsR w n0 v l) (hl : l.length ≤ 3000) :
    Calls Tryz.prog 11 #[v] w fun e w' => ∃ v', e = .returned v' ∧ Ext w w' ∧ w'.ownsRow w.heap.size 3 1 v' l.length (icells l) := by
  obtain ⟨a, cap, rfl, h'⟩ := id h
  have Hs := hid h.src
  have hl2 : 0 + l.length ≤ 1000000 := by omega
  clear h h'
  go_enter Tryz.func11, Tryz.ntmps11
  go_wp2_with (at_builtin; refine wpList_append_src w.heap.size (Nat.le_refl _) 22 3 (.int .i64 0) 1 8 Tryz.underlying22 ints_info rfl (by omega) (by omega) rfl _ _ rfl (.slice none 0 0) 0 [] rfl (World.ownsRow_nil _ _ _ _) a l.length cap (icells l) rfl Hs.out hl2 ?_; intro v' w' h1 h2 h4; have h3 := Keep.new (Ext.refl w) h2 (fun k hk => by cases hk))
  go_ret
  exact ⟨_, rfl, h3, by simpa using h1⟩


/-- What a run answered, whole. -/
def RdNew (W : World) (ad : Nat → Addr) (P : PP) (l : List Int) (t : Value) (w : World) : Prop := (∃ a1 n1 c1 a2 n2 c2 a3 n3 c3 ev, t = .tuple #[.agg #[.slice a1 n1 c1, .slice a2 n2 c2, .slice a3 n3 c3], ev] ∧ RdOut ad P l W.heap.size w a1 a2 a3 n1 n2 n3 c1 c2 c3 ev) ∧ Ext W w
theorem RdNew.ext {W w w' : World} {ad : Nat → Addr} {P : PP} {l : List Int} {t : Value} (h : RdNew W ad P l t w) (x : Ext w w') : RdNew W ad P l t w' := by
  obtain ⟨⟨a1, n1, c1, a2, n2, c2, a3, n3, c3, ev, h1, h2⟩, h3⟩ := h
  exact ⟨⟨a1, n1, c1, a2, n2, c2, a3, n3, c3, ev, h1, h2.ext x⟩, h3.trans x⟩
/-- .. and where its state lies. -/
structure RdAt (W : World) (ad : Nat → Addr) (P : PP) (l : List Int) (b : Nat) (a1 a2 a3 : Option Addr) (n1 n2 n3 c1 c2 c3 : Nat) (ev : Value) (w : World) : Prop where
  blk : Blk w b #[.slice a1 n1 c1, .slice a2 n2 c2, .slice a3 n3 c3] 52
  out : RdOut ad P l W.heap.size w a1 a2 a3 n1 n2 n3 c1 c2 c3 ev
  ext : Ext W w
theorem RdAt.on {W w w' : World} {ad : Nat → Addr} {P : PP} {l : List Int} {b : Nat} {a1 a2 a3 : Option Addr} {n1 n2 n3 c1 c2 c3 : Nat} {ev : Value} (h : RdAt W ad P l b a1 a2 a3 n1 n2 n3 c1 c2 c3 ev w) (x : Ext w w') : RdAt W ad P l b a1 a2 a3 n1 n2 n3 c1 c2 c3 ev w' := ⟨h.blk.ext x, h.out.ext x, h.ext.trans x⟩
theorem RdNew.tup {W w : World} {ad : Nat → Addr} {P : PP} {l : List Int} {t : Value} (h : RdNew W ad P l t w) : ∃ u v, t = .tuple #[u, v] := by
  obtain ⟨⟨a1, n1, c1, a2, n2, c2, a3, n3, c3, ev, h1, h2⟩, h3⟩ := h
  exact ⟨_, _, h1⟩
theorem RnRows.low {w : World} {n0 n1 : Nat} {vv tv pv : Value} {s : Rn} (h : RnRows w n0 vv tv pv s) (hn : n1 ≤ n0) : RnRows w n1 vv tv pv s := ⟨own_low h.vars hn, own_low h.things hn, own_low h.places hn⟩
theorem RdOut.low {ad : Nat → Addr} {P : PP} {l : List Int} {n0 n1 : Nat} {w : World} {a1 a2 a3 : Option Addr} {m1 m2 m3 c1 c2 c3 : Nat} {ev : Value} (h : RdOut ad P l n0 w a1 a2 a3 m1 m2 m3 c1 c2 c3 ev) (hn : n1 ≤ n0) : RdOut ad P l n1 w a1 a2 a3 m1 m2 m3 c1 c2 c3 ev := by
  rcases h with ⟨h1, h2, h3⟩ | h
  · exact .inl ⟨h1, h2, h3.low hn⟩
  · exact .inr h
theorem FaultIs.zero {P : PP} {p : Int} (h : FaultIs P 0 p) : P.err1 = 0 ∧ P.allWell ∧ p = -1 := by
  rcases h with ⟨h1, h2, _⟩ | ⟨h1, h2, _, h4⟩ | ⟨h1, i, s, h2, h3, _⟩
  · exact absurd h2.symm h1
  · exact ⟨h1, h2, h4⟩
  · exact absurd h3.symm h2.2.1
end Go.Proofs.YtoaoienfggjepaaGreatDoor



/- The reference's fault of a program: the walk. -/
namespace Go.Proofs.YtoaoienfggjepaaGreatDoor
set_option linter.unusedSimpArgs false
set_option linter.unusedVariables false
open Go Go.RowKit

end Go.Proofs.YtoaoienfggjepaaGreatDoor



/- RunDoes: the law walked: where the script, or the kind, is long. -/
namespace Go.Proofs.YtoaoienfggjepaaGreatDoor
set_option linter.unusedSimpArgs false
set_option linter.unusedVariables false
open Go Go.RowKit

end Go.Proofs.YtoaoienfggjepaaGreatDoor



/- RunDoes: a script that may not be done. -/
namespace Go.Proofs.YtoaoienfggjepaaGreatDoor
set_option linter.unusedSimpArgs false
set_option linter.unusedVariables false
open Go Go.RowKit

end Go.Proofs.YtoaoienfggjepaaGreatDoor



/- RunDoes: a script that is done. -/
namespace Go.Proofs.YtoaoienfggjepaaGreatDoor
set_option linter.unusedSimpArgs false
set_option linter.unusedVariables false
open Go Go.RowKit

end Go.Proofs.YtoaoienfggjepaaGreatDoor



/- FixSound: the law walked. -/
namespace Go.Proofs.YtoaoienfggjepaaGreatDoor
set_option linter.unusedSimpArgs false
set_option linter.unusedVariables false
open Go Go.RowKit

theorem thing_kind {n : Nat} : ¬ (Vl.thing n).kind.toList = vkNone := by
  rw [thing_kind1]; decide
theorem RunNo.form {ad : Nat → Addr} {P : PP} {l : List Int} {w : World} {v : Value} (h : RunNo ad P l w v) : ∃ t x, v = .iface t (.pointer (some x)) := by
  rcases h with ⟨hb, hr⟩ | ⟨_, _, _, rfl⟩ | ⟨_, _, _, i, b, _, rfl, _⟩
  · rcases hr.form with ⟨_, h1⟩ | ⟨h1, _⟩
    · exact absurd h1 hb
    · exact h1
  · exact ⟨_, _, rfl⟩
  · exact ⟨_, _, rfl⟩
end Go.Proofs.YtoaoienfggjepaaGreatDoor

