/- Texts of one proof, put together: L2 L3 L5 L6 L7 U8 U9. -/
import Derived.Test.YtdppgcbekhabnaaGreatDoorSD01
import Derived.Test.YtdppgcbekhabnaaGreatDoorSD02
import Derived.Test.YtdppgcbekhabnaaGreatDoorSD04
import Derived.Lib.SliceRun
import Derived.Carry
import Derived.Maps.AppendAt
import Derived.LaidEql

/- Links: a frame is copied; a sender and a receiver are made. -/
namespace Go.Proofs.YtdppgcbekhabnaaGreatDoor
set_option linter.unusedSimpArgs false
set_option linter.unusedVariables false
open Go Go.RowKit

/-- Are the ends of a link so? -/
def endsCode (fr to : Int) : Nat := if fr < 0 ∨ 6 ≤ fr ∨ to < 0 ∨ 6 ≤ to then 2 else if fr = to then 3 else 0

def kcells (x : FV × Int) : List Value := x.1.cells ++ [.int .i64 x.2]
end Go.Proofs.YtdppgcbekhabnaaGreatDoor



/- Links: a frame is sent. -/
namespace Go.Proofs.YtdppgcbekhabnaaGreatDoor
set_option linter.unusedSimpArgs false
set_option linter.unusedVariables false
open Go Go.RowKit

section
variable {w : World} {n0 : Nat} {t : Option Nat}
theorem Wr.blk {b : Nat} {c : Array Value} {e : TypeId} (hb : Blk w b c e) (hne : e ≠ 3) (hl : n0 ≤ b) : Wr w n0 t fun k => k = b :=
  fun k hk _ => ⟨by omega, fun hi => absurd hi (by subst hk; exact IsInt.not hb hne)⟩
theorem Wr.or {X Y : Nat → Prop} (h1 : Wr w n0 t X) (h2 : Wr w n0 t Y) : Wr w n0 t fun b => X b ∨ Y b := fun b hb hl => hb.elim (fun h => h1 b h hl) fun h => h2 b h hl
theorem Wr.row {v : Value} {e : TypeId} {size n : Nat} {xs : List Value} (h : w.ownsRow n0 e size v n xs) (hne : e ≠ 3) : Wr w n0 t fun k => v.ownBlock = some k :=
  fun k hk _ => ⟨(World.ownsRow.lt h k hk).1, fun hi => by
    obtain ⟨c, hc⟩ := own_ty h hk
    exact absurd hi (IsInt.not hc hne)⟩
theorem Wr.sub {X Y : Nat → Prop} (h : Wr w n0 t Y) (hx : ∀ b, X b → b < w.heap.size → Y b) : Wr w n0 t X := fun b hb hl => h b (hx b hb hl) hl
end
end Go.Proofs.YtdppgcbekhabnaaGreatDoor



/- Links: what is answered is struck. -/
namespace Go.Proofs.YtdppgcbekhabnaaGreatDoor
set_option linter.unusedSimpArgs false
set_option linter.unusedVariables false
open Go Go.RowKit

def kval (x : FV × Int) : Value := .agg #[.int .u8 (x.1.f.kind.toNat : Int), .int .i64 x.1.f.fr, .int .i64 x.1.f.to, .int .i64 x.1.f.seq, x.1.v, .int .i64 x.2]
def store6 (w : World) (g i : Nat) (y : FV × Int) : World := (((((w.setCell ⟨g, i, none⟩ (.int .u8 (y.1.f.kind.toNat : Int))).setCell ⟨g, i + 1, none⟩ (.int .i64 y.1.f.fr)).setCell ⟨g, i + 2, none⟩ (.int .i64 y.1.f.to)).setCell ⟨g, i + 3, none⟩ (.int .i64 y.1.f.seq)).setCell ⟨g, i + 4, none⟩ y.1.v).setCell ⟨g, i + 5, none⟩ (.int .i64 y.2)
/-- What is not answered below n. -/
def keptB (n : Int) (x : FV × Int) : Bool := decide (n ≤ x.1.f.seq)
end Go.Proofs.YtdppgcbekhabnaaGreatDoor



/- Links: what is answered is struck, in place. -/
namespace Go.Proofs.YtdppgcbekhabnaaGreatDoor
set_option linter.unusedSimpArgs false
set_option linter.unusedVariables false
open Go Go.RowKit

theorem mem_zeroCells {z : Array Value} {n : Nat} {u : Value} (h : u ∈ (Builtin.zeroCells z n).toList) : u ∈ z.toList := by
  obtain ⟨i, hi, e⟩ := List.mem_iff_getElem.1 h
  simp only [Builtin.zeroCells] at e
  rw [← e]
  simp only [Array.getElem_toList, Array.getElem_map, Array.getElem_range]
  have hz : 0 < z.size := by
    rcases Nat.eq_zero_or_pos z.size with h0 | h0
    · rw [Array.length_toList, size_zeroCells, h0] at hi; simp at hi
    · exact h0
  have hlt := Nat.mod_lt i hz
  rw [getElem!_pos z _ hlt]
  simp
/-- clear of n elements in a row of one's own. -/
theorem run_clear_row {P : Program} (w : World) (t ty e : TypeId) (i : TypeInfo) (z : Value) (ht : P.underlying t = some (.slice e)) (hi : P.info? e = some i) (hz : i.zero = some z) (h1 : ∀ u ∈ z.cells.toList, u.oneCell' = true)
    (g off n cap : Nat) (hn : 0 < n) (c : Array Value) (hb : Blk w g c e) (hfit : off + n * z.cells.size ≤ c.size) :
    (Builtin.clear_ #[t] ty #[.slice (some ⟨g, off, none⟩) n cap]).run P w = .ok (.tuple #[]) (w.setRow g (c.toList.take off ++ (Builtin.zeroCells z.cells n).toList ++ c.toList.drop (off + n * z.cells.size)).toArray) := by
  obtain ⟨k, rfl⟩ : ∃ k, n = k + 1 := ⟨n - 1, by omega⟩
  have hl : (Builtin.zeroCells z.cells (k + 1)).toList.length = (k + 1) * z.cells.size := by rw [Array.length_toList, size_zeroCells]
  have hst := run_storeCells_at P g off e (Builtin.zeroCells z.cells (k + 1)).toList 0 c w hb (by rw [hl]; simpa using hfit) (fun u hu => h1 u (mem_zeroCells hu))
  rw [hl] at hst
  simp only [Nat.add_zero] at hst
  simp [Builtin.clear_, run_underlying ht, zeroValue, typeInfo, hi, hz, hst, Result.andThen]

theorem take_set_succ {α : Type} (R : List α) (i : Nat) (x : α) (hi : i < R.length) : (R.set i x).take (i + 1) = R.take i ++ [x] := by
  apply List.ext_getElem?
  intro k
  rw [List.getElem?_take, List.getElem?_set]
  by_cases h1 : k < i
  · rw [if_pos (by omega), if_neg (by omega), List.getElem?_append_left (by rw [List.length_take]; omega), List.getElem?_take, if_pos h1]
  · by_cases h2 : k = i
    · subst h2
      rw [if_pos (by omega), if_pos rfl, if_pos hi, List.getElem?_append_right (by rw [List.length_take]; omega), List.length_take, Nat.min_eq_left (by omega)]
      simp
    · rw [if_neg (by omega), List.getElem?_eq_none (by simp; omega)]
def kz : Array Value := #[.int .u8 0, .int .i64 0, .int .i64 0, .int .i64 0, .slice none 0 0, .int .i64 0]
end Go.Proofs.YtdppgcbekhabnaaGreatDoor



/- Links: what is answered; frames are appended. -/
namespace Go.Proofs.YtdppgcbekhabnaaGreatDoor
set_option linter.unusedSimpArgs false
set_option linter.unusedVariables false
open Go Go.RowKit

/-- append of one element of several cells to a row of one's own, in a sequence. -/
theorem wpList_append_el {ops : Array Oper} {Q : Exit → Act → World → Prop} {rest : List Oper} {o : Oper} {a : Act} {w : World} (base : Nat) (hbase : base ≤ w.heap.size) (t e : TypeId) (z : Value) (size bytes : Nat) (ht : Tryz.prog.underlying t = some (.slice e)) (hinf : (Tryz.prog.info? e).map (fun i => (i.zero, i.size, i.bytes)) = some (some z, size, bytes)) (hz1 : z.cells.size = size) (hsz : 0 < size)
    (hb8 : bytes ≤ 64) (hg : o.guard = none) (s x : Operand) (ho : o.op = .call { callee := .builtin .append, args := #[s, x], argTypes := #[t, t] })
    (v : Value) (n : Nat) (xs : List Value) (hs : a.eval s = v) (hown : w.ownsRow base e size v n xs) (g : Nat) (us : List Value) (hul : us.length = size) (hu : ∀ u ∈ us, u.oneCell' = true) (hx : a.eval x = .slice (some ⟨g, 0, none⟩) 1 1) (hb : Blk w g us.toArray e) (hl : n ≤ 1000000)
    (h : ∀ v' w', w'.ownsRow base e size v' (n + 1) (xs ++ us) → Keep (fun k => v.ownBlock = some k) w w' → (v'.ownBlock = v.ownBlock ∨ v'.ownBlock = some w.heap.size) → wpList Tryz.prog ops Q rest (a.put o.dst v') w') : wpList Tryz.prog ops Q (o :: rest) a w := by
  obtain ⟨ti, hi, hz0, hz, hz2⟩ := info_parts hinf
  obtain ⟨v', w', hr, h2, h3, _, h4⟩ := run_append_own_at (P := Tryz.prog) w base t o.type e ti z size bytes ht hi hz0 hz hz2 hz1 hsz v n xs hown ⟨g, 0, none⟩ 1 1 us (by rw [hul]; omega) (fun j q hq => by
    rw [show (⟨g, 0, none⟩ : Addr).add j = ⟨g, j, none⟩ from by by_cases h0 : j = 0 <;> simp [Addr.add, h0], hb.cell j]
    simpa using hq) hu (by simp only [maxLen]; omega) (by
      have : (n + 1) * bytes ≤ (n + 1) * 64 := Nat.mul_le_mul_left _ hb8
      omega) hbase
  refine wpList_plain hg fun K hK => ?_
  unfold Oper.wp
  rw [run_exec_append s x t ho hs hx hr]
  exact hK _ _ (h v' w' h2 (grown_keep h3) h4)
end Go.Proofs.YtdppgcbekhabnaaGreatDoor



/- Programs: the functions' names. -/
namespace Go.Proofs.YtdppgcbekhabnaaGreatDoor
set_option linter.unusedSimpArgs false
set_option linter.unusedVariables false
open Go Go.RowKit

theorem own_low {w : World} {base b2 : Nat} {e : TypeId} {size : Nat} {v : Value} {n : Nat} {xs : List Value} (h : w.ownsRow base e size v n xs) (hb : b2 ≤ base) : w.ownsRow b2 e size v n xs := by
  obtain ⟨h1, h2⟩ := h
  refine ⟨h1, h2.imp id ?_⟩
  rintro ⟨g, cap, cur, rfl, hg, h3⟩
  exact ⟨g, cap, cur, rfl, Nat.le_trans hb hg, h3⟩
theorem str_info : (Tryz.prog.info? 9).map (fun i => (i.zero, i.size, i.bytes)) = some (some (.string ⟨#[]⟩), 1, 16) := by kernel_rfl
/-- A row of one's own, as a slice that is read. -/
theorem ElR.own {w : World} {base n0 : Nat} {e : TypeId} {size : Nat} {v : Value} {n : Nat} {xs : List Value} {E : Nat → Addr → Prop} (h : w.ownsRow base e size v n xs) (h0 : w.heap.size ≤ n0) (hE : ∀ g, (∀ i u, xs[i]? = some u → w.cell? ((⟨g, 0, none⟩ : Addr).add i) = some u) → ∀ i, i < n → E i ⟨g, 0, none⟩) : ElR n0 v n E := by
  obtain ⟨hl, h2⟩ := id h
  rcases h2 with ⟨rfl, rfl⟩ | ⟨g, cap, cur, rfl, hb, hg, hn, hc, hs, _⟩
  · exact ⟨none, 0, rfl, Nat.le_refl _, by omega, fun h => by omega, fun y hy => by cases hy⟩
  · have hml : maxLen = 9223372036854775807 := by decide
    refine ⟨_, cap, rfl, hn, by omega, fun _ => ⟨_, rfl⟩, fun y hy hp => ?_⟩
    obtain rfl := Option.some.inj hy
    refine ⟨Nat.lt_of_lt_of_le (Array.getElem?_eq_some_iff.1 hg).1 h0, hE g fun i u hu => h.cells (g := g) rfl i u hu⟩
theorem StrsR.own {w : World} {base n0 : Nat} {e : TypeId} {v : Value} {l : List ByteArray} (h : w.ownsRow base e 1 v l.length (l.map .string)) (h0 : w.heap.size ≤ n0) : StrsR w n0 v l :=
  ElR.own h h0 fun g hc i hi s hs => hc i _ (by rw [List.getElem?_map, hs]; rfl)
theorem IntsR.own {w : World} {base n0 : Nat} {e : TypeId} {v : Value} {l : List Int} (h : w.ownsRow base e 1 v l.length (icells l)) (h0 : w.heap.size ≤ n0) : IntsR w n0 v l :=
  ElR.own h h0 fun g hc i hi s hs => hc i _ (by unfold icells; rw [List.getElem?_map, hs]; rfl)

set_option maxRecDepth 100000 in
set_option maxHeartbeats 3200000 in
theorem pfunnames_any (a1 a2 a3 : Option Addr) (c1 c2 c3 : Nat) (P : PP) (w : World) (n0 : Nat) (h : FunsR w n0 (.slice a2 P.funs.length c2) P.funs) (hl : P.funs.length ≤ 1000) :
    Calls Tryz.prog 60 #[pval a1 a2 a3 c1 c2 c3 P] w fun e w' => ∃ v, e = .returned v ∧ w'.ownsRow w.heap.size 9 1 v P.funs.length ((P.funs.map PF.name).map .string) ∧ Ext w w' := by
  have HF := hid h
  clear h
  obtain ⟨W, hW⟩ : ∃ W, W = w.alloc (.cells (pcells a1 a2 a3 c1 c2 c3 P) 26) := ⟨_, rfl⟩
  have HW : Hid (Ext w W) := hid (by rw [hW]; exact (Ext.refl _).alloc _)
  have HB : Hid (Blk W w.heap.size (pcells a1 a2 a3 c1 c2 c3 P) 26) := hid (by rw [hW]; exact Blk.new _ _ _)
  unfold pval
  unfold pcells at hW
  have HWe := hid hW
  clear hW
  go_enter Tryz.func60, Tryz.ntmps60
  go_wp2
  rw [← HWe.out]
  go_loopw [3, 9] (fun t3 t9 wr => ∃ (k : Nat), t9 = .int .i64 (k : Int) ∧ k ≤ P.funs.length ∧ wr.ownsRow W.heap.size 9 1 t3 k (((P.funs.take k).map PF.name).map .string) ∧ Ext W wr) (fun _ t9 _ => P.funs.length - (intOf t9).toNat)
  case atStart => exact ⟨0, rfl, Nat.zero_le _, World.ownsRow_nil _ _ _ _, Ext.refl _⟩
  case round =>
    obtain ⟨k, rfl, hk, hrow, hx⟩ := hrel
    obtain ⟨ao, co, rfl⟩ := row_form hrow
    have Hrow := hid hrow
    have Hx := hid hx
    clear hrow hx
    by_cases hlt : k < P.funs.length
    · obtain ⟨y, f, av, cv, rfl, hfk, e0, e1, e2, _⟩ := (HF.out.old ((HW.out.trans Hx.out).old n0)).at hlt
      have Hfk := hid hfk
      obtain ⟨W2, hW2⟩ : ∃ W2, W2 = (wr.alloc (.cells #[.string f.name, .slice av f.params.length cv, .int .i64 f.ret] 74)).alloc (.cells #[.string f.name] 9) := ⟨_, rfl⟩
      have hx2 : Ext wr W2 := by rw [hW2]; exact ((Ext.refl _).alloc _).alloc _
      have HB2 : Hid (Blk W2 (wr.heap.size + 1) #[.string f.name] 9) := hid (by
        rw [hW2]
        have := Blk.new (wr.alloc (.cells #[.string f.name, .slice av f.params.length cv, .int .i64 f.ret] 74)) #[.string f.name] 9
        rwa [heap_size_alloc] at this)
      have Hq := hid (row_keep Hrow.out (hx2.keep fun _ => False) (fun _ _ h => h))
      have Hxw := hid (Hx.out.trans hx2)
      have Hbs : Hid (W.heap.size ≤ W2.heap.size) := hid Hxw.out.size
      have Hol : Hid (k ≤ 1000000) := hid (by omega)
      have HW2 := hid hW2
      clear hW2 hx2 hfk
      go_wp2_with (at_builtin; rw [← HW2.out]; refine wpList_append_el W.heap.size Hbs.out 22 9 (.string ⟨#[]⟩) 1 16 Tryz.underlying22 str_info rfl (by omega) (by omega) rfl _ _ rfl (.slice ao k co) k (((P.funs.take k).map PF.name).map .string) rfl Hq.out (wr.heap.size + 1) [.string f.name] rfl (by simp [Value.oneCell']) rfl HB2.out Hol.out ?_; intro v6 w6 ho6 hk6 hl6)
      go_roundw
      case rel =>
        refine ⟨k + 1, by go_num, by omega, ?_, ?_⟩
        · rw [List.take_add_one, Hfk.out]
          simpa using ho6
        · exact Keep.new Hxw.out hk6 fun b hb => (World.ownsRow.lt Hq.out b hb).1
      case measure => simp [intOf]; omega
    · obtain rfl : k = P.funs.length := by omega
      have Hr := hid (show wr.ownsRow w.heap.size 9 1 (.slice ao P.funs.length co) P.funs.length ((P.funs.map PF.name).map .string) by
        have := Hrow.out
        rw [List.take_length] at this
        exact own_low this HW.out.size)
      clear Hrow
      go_wp2
      go_ret
      exact ⟨_, rfl, Hr.out, HW.out.trans Hx.out⟩
end Go.Proofs.YtdppgcbekhabnaaGreatDoor



/- Programs: the check. -/
namespace Go.Proofs.YtdppgcbekhabnaaGreatDoor
set_option linter.unusedSimpArgs false
set_option linter.unusedVariables false
open Go Go.RowKit

def PP.big (P : PP) : Bool := decide (40 < P.vars.length) || decide (6 < P.funs.length) || decide (80 < P.stmts.length)
def PP.names (P : PP) : List ByteArray := P.funs.map PF.name
/-- What is wrong ahead of the statements. -/
def PP.err1 (P : PP) : Nat := bif P.big then 8 else if namesErr P.vars = 5 ∨ namesErr P.names = 5 then 5 else if namesErr P.vars = 7 ∨ namesErr P.names = 7 then 7 else P.funsErr
/-- The first statement that is not well. -/
def PP.FirstBad (P : PP) (i : Nat) (s : PS) : Prop := P.stmts[i]? = some s ∧ P.stmtErr s ≠ 0 ∧ ∀ j t, j < i → P.stmts[j]? = some t → P.stmtErr t = 0
def PP.allWell (P : PP) : Prop := ∀ j t, j < P.stmts.length → P.stmts[j]? = some t → P.stmtErr t = 0
/-- What a check tells. -/
def ErrIs (ad : Nat → Addr) (P : PP) (w : World) (v : Value) : Prop :=
  (P.err1 ≠ 0 ∧ v = evOf ad P.err1) ∨ (P.err1 = 0 ∧ P.allWell ∧ v = .nilIface) ∨
  (P.err1 = 0 ∧ ∃ i s b, P.FirstBad i s ∧ v = .iface 118 (.pointer (some ⟨b, 0, none⟩)) ∧ Blk w b #[.int .i64 (i : Int), evOf ad (P.stmtErr s)] 120)

theorem epComp : (Tryz.prog.info? 270).map (·.comparable) = some true := by kernel_rfl
theorem epSize : (Tryz.prog.info? 290).map (·.size) = some 1 := by kernel_rfl
/-- Errors that are compared. -/
theorem eq_facts {w : World} {ad : Nat → Addr} (h : ErrsP w ad) :
    (binOp .eql 32 (.iface 270 (.pointer (some (ad 5)))) (.iface 270 (.pointer (some (ad 5))))).run Tryz.prog w = .ok (.bool true) w ∧
    (binOp .eql 32 (.iface 270 (.pointer (some (ad 7)))) (.iface 270 (.pointer (some (ad 7))))).run Tryz.prog w = .ok (.bool true) w ∧
    (binOp .eql 32 (.iface 270 (.pointer (some (ad 5)))) (.iface 270 (.pointer (some (ad 7))))).run Tryz.prog w = .ok (.bool false) w ∧
    (binOp .eql 32 (.iface 270 (.pointer (some (ad 7)))) (.iface 270 (.pointer (some (ad 5))))).run Tryz.prog w = .ok (.bool false) w ∧
    (binOp .eql 32 .nilIface (.iface 270 (.pointer (some (ad 5))))).run Tryz.prog w = .ok (.bool false) w ∧
    (binOp .eql 32 .nilIface (.iface 270 (.pointer (some (ad 7))))).run Tryz.prog w = .ok (.bool false) w := by
  obtain ⟨i, hi, hcmp⟩ := Option.map_eq_some_iff.1 epComp
  obtain ⟨j, hj, hjs⟩ := Option.map_eq_some_iff.1 epSize
  obtain ⟨c5, t5, r5⟩ := h.row5
  obtain ⟨c7, t7, r7⟩ := h.row7
  exact ⟨run_eql_iface_ptr_same w _ Tryz.underlying32 Tryz.underlying270 hi hcmp hj, run_eql_iface_ptr_same w _ Tryz.underlying32 Tryz.underlying270 hi hcmp hj,
    run_eql_iface_ptr_other w Tryz.underlying32 Tryz.underlying270 hi hcmp hj (by rw [hjs]; decide) h.ne57 r5 r7, run_eql_iface_ptr_other w Tryz.underlying32 Tryz.underlying270 hi hcmp hj (by rw [hjs]; decide) h.ne57.symm r7 r5,
    run_eql_iface_nil_left w _ _ Tryz.underlying32, run_eql_iface_nil_left w _ _ Tryz.underlying32⟩

theorem namesErr_cases (l : List ByteArray) : namesErr l = 0 ∨ namesErr l = 5 ∨ namesErr l = 7 := by
  unfold namesErr
  cases anyBad l <;> cases dupS l <;> simp

set_option maxRecDepth 100000 in
set_option maxHeartbeats 12800000 in
theorem pcheck_any (a1 a2 a3 : Option Addr) (c1 c2 c3 : Nat) (P : PP) (w : World) (n0 : Nat) (ad : Nat → Addr) (hE : ErrsP w ad) (h : ProgR w n0 (.slice a1 P.vars.length c1) (.slice a2 P.funs.length c2) (.slice a3 P.stmts.length c3) P)
    (hz1 : ∀ s ∈ P.vars, s.size ≤ 1000000) (hz2 : ∀ s ∈ P.names, s.size ≤ 1000000) (hml1 : (P.vars.length : Int) ≤ 9223372036854775807) :
    Calls Tryz.prog 29 #[pval a1 a2 a3 c1 c2 c3 P] w fun e w' => ∃ v, e = .returned v ∧ ErrIs ad P w' v ∧ Ext w w' := by
  have HP := hid h
  have HE := hid hE
  have hml2 := h.funs.len
  have hml3 := h.stmts.len
  clear h hE
  obtain ⟨W, hW⟩ : ∃ W, W = w.alloc (.cells (pcells a1 a2 a3 c1 c2 c3 P) 26) := ⟨_, rfl⟩
  have HW : Hid (Ext w W) := hid (by rw [hW]; exact (Ext.refl _).alloc _)
  have HB : Hid (Blk W w.heap.size (pcells a1 a2 a3 c1 c2 c3 P) 26) := hid (by rw [hW]; exact Blk.new _ _ _)
  unfold pval
  unfold pcells at hW
  have HWe := hid hW
  clear hW
  have d0 := HB.out.kc (X := fun _ => False) (fun e => e) 0 rfl
  have d1 := HB.out.kc (X := fun _ => False) (fun e => e) 1 rfl
  have d2 := HB.out.kc (X := fun _ => False) (fun e => e) 2 rfl
  simp only [pcells, List.getElem_toArray, List.getElem_cons_zero, List.getElem_cons_succ] at d0 d1 d2
  by_cases hbig : P.big = true
  · have he : P.err1 = 8 := by unfold PP.err1; rw [hbig]; rfl
    have He := hid (show ErrIs ad P W (evOf ad 8) from .inl ⟨by rw [he]; decide, by rw [he]⟩)
    unfold PP.big at hbig
    simp only [Bool.or_eq_true, decide_eq_true_eq] at hbig
    have k8 := (HE.out.ext HW.out).at8
    have HE8 := hid (show ErrIs ad P (w.alloc (.cells #[.slice a1 P.vars.length c1, .slice a2 P.funs.length c2, .slice a3 P.stmts.length c3] 26)) (.iface 270 (.pointer (some (ad 8)))) by rw [← HWe.out]; exact He.out)
    have HX8 := hid (show Ext w (w.alloc (.cells #[.slice a1 P.vars.length c1, .slice a2 P.funs.length c2, .slice a3 P.stmts.length c3] 26)) from (Ext.refl w).alloc _)
    unfold evOf at k8
    rw [HWe.out] at k8
    clear he d0 d1 d2
    go_enter Tryz.func29, Tryz.ntmps29
    by_cases b1 : 40 < P.vars.length
    · clear hbig
      go_wp2
      go_ret
      exact ⟨_, rfl, HE8.out, HX8.out⟩
    · by_cases b2 : 6 < P.funs.length
      · clear hbig
        go_wp2
        go_ret
        exact ⟨_, rfl, HE8.out, HX8.out⟩
      · have b3 : 80 < P.stmts.length := by omega
        clear hbig
        go_wp2
        go_ret
        exact ⟨_, rfl, HE8.out, HX8.out⟩
  have hbig' : P.big = false := by simpa using hbig
  have HBig := hid hbig'
  have hb := hbig'
  unfold PP.big at hb
  simp only [Bool.or_eq_false_iff, decide_eq_false_iff_not] at hb
  obtain ⟨⟨q1, q2⟩, q3⟩ := hb
  clear hbig hbig'
  have HFn := hid fun w1 (x : Ext w w1) => pfunnames_any a1 a2 a3 c1 c2 c3 P w1 n0 (HP.out.ext x).funs (by omega)
  unfold pval at HFn
  go_enter Tryz.func29, Tryz.ntmps29
  go_wp2
  rw [← HWe.out]
  refine wp_flowT (fun _ => False) (by kernel_rfl) (by kernel_rfl) ?_
  repeat (apply FlowT.d; (intro w1 hk; unfold does; go_simp; (try go_ints); (first | exact DetR.mk | (simp only [↓IntWalk.iteOmega, Oper.doesUpon_value]; exact DetR.mk) | (simp only [↓IntWalk.iteOmega]; go_simp; (try go_ints); exact DetR.mk))); simp only [Act.put, List.setIfInBounds_toArray, List.set_cons_zero, List.set_cons_succ])
  refine FlowT.s (fun v w' => w'.ownsRow W.heap.size 9 1 v P.funs.length (P.names.map .string) ∧ Ext W w') 3 rfl (by kernel_rfl) (fun _ _ _ ⟨h1, h2⟩ x => ⟨own_ext h1 x, h2.trans x⟩) (fun w1 hC hk => ?_) ?_
  · unfold does
    go_simp
    refine CallR.act ((HFn.out w1 (HW.out.trans hk.ext)).mono ?_)
    rintro e w2 ⟨v, rfl, hr, hx⟩
    exact ⟨v, rfl, (hk.ext.trans hx).keep _, own_low hr hk.size, hk.ext.trans hx⟩
  rintro v ⟨_, hI, _⟩
  obtain ⟨a4, c4, rfl⟩ := row_form hI
  clear hI
  simp only [Act.put, List.setIfInBounds_toArray, List.set_cons_zero, List.set_cons_succ]
  refine FlowT.s (fun v w' => ∃ g, v = .slice (some ⟨g, 0, none⟩) 2 2 ∧ Blk w' g #[.slice a1 P.vars.length c1, .slice a4 P.funs.length c4] 22 ∧ w'.ownsRow W.heap.size 9 1 (.slice a4 P.funs.length c4) P.funs.length (P.names.map .string) ∧ Ext W w') 4 rfl (by kernel_rfl) (fun _ _ _ ⟨g, h1, h2, h3, h4⟩ x => ⟨g, h1, h2.ext x, own_ext h3 x, h4.trans x⟩) (fun w1 hC hk => ?_) ?_
  · unfold does
    go_simp
    exact ⟨hk.alloc _, _, rfl, Blk.new _ _ _, own_ext hC.1 ((Ext.refl _).alloc _), hC.2.alloc _⟩
  rintro _ ⟨_, g, rfl, _, _⟩
  simp only [Act.put, List.setIfInBounds_toArray, List.set_cons_zero, List.set_cons_succ]
  repeat (apply FlowT.d; (intro w1 hk; unfold does; go_simp; (try go_ints); (first | exact DetR.mk | (simp only [↓IntWalk.iteOmega, Oper.doesUpon_value]; exact DetR.mk) | (simp only [↓IntWalk.iteOmega]; go_simp; (try go_ints); exact DetR.mk))); simp only [Act.put, List.setIfInBounds_toArray, List.set_cons_zero, List.set_cons_succ])
  refine FlowT.fin fun wA hC hk => ?_
  obtain ⟨g', e, hg, hrow, hxA⟩ := hC
  obtain rfl : g = g' := by simpa using e
  have Hg := hid hg
  have HS2 := hid (StrsR.own (n0 := wA.heap.size) (l := P.names) (by simpa [PP.names] using hrow) (Nat.le_refl _))
  have HxA := hid hxA
  clear hg hrow hxA e hk
  have k5 := (HE.out.ext (HW.out.trans HxA.out)).at5
  have k7 := (HE.out.ext (HW.out.trans HxA.out)).at7
  unfold evOf at k5 k7
  obtain ⟨wB, hwB⟩ : ∃ wB, wB = wA.alloc (.cells #[.iface 270 (.pointer (some (ad 5))), .iface 270 (.pointer (some (ad 7)))] 32) := ⟨_, rfl⟩
  have HxC : Hid (Ext wA wB) := hid (by rw [hwB]; exact (Ext.refl _).alloc _)
  have HxB := hid (HxA.out.trans HxC.out)
  have HB9 : Hid (Blk wB wA.heap.size #[.iface 270 (.pointer (some (ad 5))), .iface 270 (.pointer (some (ad 7)))] 32) := hid (by rw [hwB]; exact Blk.new _ _ _)
  have hne1 : ¬ ad 5 = ad 7 := HE.out.ne57
  have hne2 : ¬ ad 7 = ad 5 := fun h => hne1 h.symm
  have HwB := hid hwB
  clear hwB d0 d1 d2
  go_wp2
  rw [← HwB.out]
  clear k5 k7
  go_loopw [39] (fun t39 wr => ∃ k : Nat, t39 = .int .i64 (k : Int) ∧ k ≤ 2 ∧ (0 < k → namesErr P.vars ≠ 5 ∧ namesErr P.names ≠ 5) ∧ (1 < k → namesErr P.vars ≠ 7 ∧ namesErr P.names ≠ 7) ∧ Ext wB wr) (fun t39 _ => 2 - (intOf t39).toNat)
  case atStart => exact ⟨0, rfl, by omega, fun h => by omega, fun h => by omega, Ext.refl _⟩
  case round =>
    obtain ⟨k, rfl, hk, hp5, hp7, hx⟩ := hrel
    have Hx := hid hx
    have x0 := (HB9.out.ext hx).av 0 rfl
    have x1 := (HB9.out.ext hx).av 1 rfl
    simp only [List.getElem_toArray, List.getElem_cons_zero, List.getElem_cons_succ] at x0 x1
    clear hx
    rcases (by omega : k = 0 ∨ k = 1 ∨ k = 2) with rfl | rfl | rfl
    · clear hp5 hp7
      go_wp2
      generalize wr = wz at *
      go_loopw [45] (fun t45 wr => ∃ j : Nat, t45 = .int .i64 (j : Int) ∧ j ≤ 2 ∧ (0 < j → namesErr P.vars ≠ 5) ∧ (1 < j → namesErr P.names ≠ 5) ∧ Ext wB wr) (fun t45 _ => 2 - (intOf t45).toNat)
      case atStart => exact ⟨0, rfl, by omega, fun h => by omega, fun h => by omega, Hx.out⟩
      case round =>
        obtain ⟨j, rfl, hj, hq0, hq1, hy⟩ := hrel
        have Hy := hid hy
        have Hq0 := hid hq0
        have Hq1 := hid hq1
        have r0 := (Hg.out.ext (HxC.out.trans hy)).av 0 rfl
        have r1 := (Hg.out.ext (HxC.out.trans hy)).av 1 rfl
        simp only [List.getElem_toArray, List.getElem_cons_zero, List.getElem_cons_succ] at r0 r1
        clear hy hq0 hq1
        rcases (by omega : j = 0 ∨ j = 1 ∨ j = 2) with rfl | rfl | rfl
        · have HN := hid (names_any _ P.vars wr n0 ad (HE.out.ext (HW.out.trans (HxB.out.trans Hy.out))) (HP.out.ext (HW.out.trans (HxB.out.trans Hy.out))).vars hz1)
          go_wp2_with fail
          refine HN.out.mono ?_
          intro e w5 hx5
          obtain ⟨rfl, hx5⟩ := hx5
          have Hx5 := hid (Hy.out.trans hx5)
          clear HN hx5
          obtain ⟨z1, z2, z3, z4, z5, z6⟩ := eq_facts (HE.out.ext (HW.out.trans (HxB.out.trans Hx5.out)))
          rcases namesErr_cases P.vars with hd | hd | hd
          · rw [show errv (evOf ad) (namesErr P.vars) = .nilIface from by rw [hd]; rfl]
            have Hd := hid hd
            clear hd
            go_wp2
            go_roundw
            case rel => exact ⟨_, _, _, _, _, _, _, _, _, _, _, _, _, _, ⟨1, by go_num, by omega, fun h => by first | omega | exact Hq0.out (by omega) | (rw [Hd.out]; decide), fun h => by first | omega | (rw [Hd.out]; decide), Hx5.out⟩, rfl⟩
            case measure => simp [intOf]
          · rw [show errv (evOf ad) (namesErr P.vars) = .iface 270 (.pointer (some (ad 5))) from by rw [hd]; rfl]
            have Hd := hid hd
            clear hd
            go_wp2
            go_ret
            have he : P.err1 = 5 := by unfold PP.err1; rw [HBig.out]; simp [Hd.out]
            exact ⟨_, rfl, .inl ⟨by rw [he]; decide, by rw [he]; rfl⟩, HW.out.trans (HxB.out.trans Hx5.out)⟩
          · rw [show errv (evOf ad) (namesErr P.vars) = .iface 270 (.pointer (some (ad 7))) from by rw [hd]; rfl]
            have Hd := hid hd
            clear hd
            go_wp2
            go_roundw
            case rel => exact ⟨_, _, _, _, _, _, _, _, _, _, _, _, _, _, ⟨1, by go_num, by omega, fun h => by first | omega | exact Hq0.out (by omega) | (rw [Hd.out]; decide), fun h => by first | omega | (rw [Hd.out]; decide), Hx5.out⟩, rfl⟩
            case measure => simp [intOf]
        · have HN := hid (names_any _ P.names wr wA.heap.size ad (HE.out.ext (HW.out.trans (HxB.out.trans Hy.out))) (HS2.out.old ((HxC.out.trans Hy.out).old _)) hz2)
          go_wp2_with fail
          refine HN.out.mono ?_
          intro e w5 hx5
          obtain ⟨rfl, hx5⟩ := hx5
          have Hx5 := hid (Hy.out.trans hx5)
          clear HN hx5
          obtain ⟨z1, z2, z3, z4, z5, z6⟩ := eq_facts (HE.out.ext (HW.out.trans (HxB.out.trans Hx5.out)))
          rcases namesErr_cases P.names with hd | hd | hd
          · rw [show errv (evOf ad) (namesErr P.names) = .nilIface from by rw [hd]; rfl]
            have Hd := hid hd
            clear hd
            go_wp2
            go_roundw
            case rel => exact ⟨_, _, _, _, _, _, _, _, _, _, _, _, _, _, ⟨2, by go_num, by omega, fun h => by first | omega | exact Hq0.out (by omega) | (rw [Hd.out]; decide), fun h => by first | omega | (rw [Hd.out]; decide), Hx5.out⟩, rfl⟩
            case measure => simp [intOf]
          · rw [show errv (evOf ad) (namesErr P.names) = .iface 270 (.pointer (some (ad 5))) from by rw [hd]; rfl]
            have Hd := hid hd
            clear hd
            go_wp2
            go_ret
            have he : P.err1 = 5 := by unfold PP.err1; rw [HBig.out]; simp [Hd.out]
            exact ⟨_, rfl, .inl ⟨by rw [he]; decide, by rw [he]; rfl⟩, HW.out.trans (HxB.out.trans Hx5.out)⟩
          · rw [show errv (evOf ad) (namesErr P.names) = .iface 270 (.pointer (some (ad 7))) from by rw [hd]; rfl]
            have Hd := hid hd
            clear hd
            go_wp2
            go_roundw
            case rel => exact ⟨_, _, _, _, _, _, _, _, _, _, _, _, _, _, ⟨2, by go_num, by omega, fun h => by first | omega | exact Hq0.out (by omega) | (rw [Hd.out]; decide), fun h => by first | omega | (rw [Hd.out]; decide), Hx5.out⟩, rfl⟩
            case measure => simp [intOf]
        · go_wp2
          go_roundw
          case rel => exact ⟨1, by go_num, by omega, fun _ => ⟨Hq0.out (by omega), Hq1.out (by omega)⟩, fun h => by omega, Hy.out⟩
          case measure => simp [intOf]
    · have Hp5 := hid (hp5 (by omega))
      clear hp5 hp7
      go_wp2
      generalize wr = wz at *
      go_loopw [45] (fun t45 wr => ∃ j : Nat, t45 = .int .i64 (j : Int) ∧ j ≤ 2 ∧ (0 < j → namesErr P.vars ≠ 7) ∧ (1 < j → namesErr P.names ≠ 7) ∧ Ext wB wr) (fun t45 _ => 2 - (intOf t45).toNat)
      case atStart => exact ⟨0, rfl, by omega, fun h => by omega, fun h => by omega, Hx.out⟩
      case round =>
        obtain ⟨j, rfl, hj, hq0, hq1, hy⟩ := hrel
        have Hy := hid hy
        have Hq0 := hid hq0
        have Hq1 := hid hq1
        have r0 := (Hg.out.ext (HxC.out.trans hy)).av 0 rfl
        have r1 := (Hg.out.ext (HxC.out.trans hy)).av 1 rfl
        simp only [List.getElem_toArray, List.getElem_cons_zero, List.getElem_cons_succ] at r0 r1
        clear hy hq0 hq1
        rcases (by omega : j = 0 ∨ j = 1 ∨ j = 2) with rfl | rfl | rfl
        · have HN := hid (names_any _ P.vars wr n0 ad (HE.out.ext (HW.out.trans (HxB.out.trans Hy.out))) (HP.out.ext (HW.out.trans (HxB.out.trans Hy.out))).vars hz1)
          go_wp2_with fail
          refine HN.out.mono ?_
          intro e w5 hx5
          obtain ⟨rfl, hx5⟩ := hx5
          have Hx5 := hid (Hy.out.trans hx5)
          clear HN hx5
          obtain ⟨z1, z2, z3, z4, z5, z6⟩ := eq_facts (HE.out.ext (HW.out.trans (HxB.out.trans Hx5.out)))
          rcases namesErr_cases P.vars with hd | hd | hd
          · rw [show errv (evOf ad) (namesErr P.vars) = .nilIface from by rw [hd]; rfl]
            have Hd := hid hd
            clear hd
            go_wp2
            go_roundw
            case rel => exact ⟨_, _, _, _, _, _, _, _, _, _, _, _, _, _, ⟨1, by go_num, by omega, fun h => by first | omega | exact Hq0.out (by omega) | (rw [Hd.out]; decide), fun h => by first | omega | (rw [Hd.out]; decide), Hx5.out⟩, rfl⟩
            case measure => simp [intOf]
          · rw [show errv (evOf ad) (namesErr P.vars) = .iface 270 (.pointer (some (ad 5))) from by rw [hd]; rfl]
            have Hd := hid hd
            clear hd
            go_wp2
            go_roundw
            case rel => exact ⟨_, _, _, _, _, _, _, _, _, _, _, _, _, _, ⟨1, by go_num, by omega, fun h => by first | omega | exact Hq0.out (by omega) | (rw [Hd.out]; decide), fun h => by first | omega | (rw [Hd.out]; decide), Hx5.out⟩, rfl⟩
            case measure => simp [intOf]
          · rw [show errv (evOf ad) (namesErr P.vars) = .iface 270 (.pointer (some (ad 7))) from by rw [hd]; rfl]
            have Hd := hid hd
            clear hd
            go_wp2
            go_ret
            have he : P.err1 = 7 := by unfold PP.err1; rw [HBig.out]; simp [Hd.out, Hp5.out.1, Hp5.out.2]
            exact ⟨_, rfl, .inl ⟨by rw [he]; decide, by rw [he]; rfl⟩, HW.out.trans (HxB.out.trans Hx5.out)⟩
        · have HN := hid (names_any _ P.names wr wA.heap.size ad (HE.out.ext (HW.out.trans (HxB.out.trans Hy.out))) (HS2.out.old ((HxC.out.trans Hy.out).old _)) hz2)
          go_wp2_with fail
          refine HN.out.mono ?_
          intro e w5 hx5
          obtain ⟨rfl, hx5⟩ := hx5
          have Hx5 := hid (Hy.out.trans hx5)
          clear HN hx5
          obtain ⟨z1, z2, z3, z4, z5, z6⟩ := eq_facts (HE.out.ext (HW.out.trans (HxB.out.trans Hx5.out)))
          rcases namesErr_cases P.names with hd | hd | hd
          · rw [show errv (evOf ad) (namesErr P.names) = .nilIface from by rw [hd]; rfl]
            have Hd := hid hd
            clear hd
            go_wp2
            go_roundw
            case rel => exact ⟨_, _, _, _, _, _, _, _, _, _, _, _, _, _, ⟨2, by go_num, by omega, fun h => by first | omega | exact Hq0.out (by omega) | (rw [Hd.out]; decide), fun h => by first | omega | (rw [Hd.out]; decide), Hx5.out⟩, rfl⟩
            case measure => simp [intOf]
          · rw [show errv (evOf ad) (namesErr P.names) = .iface 270 (.pointer (some (ad 5))) from by rw [hd]; rfl]
            have Hd := hid hd
            clear hd
            go_wp2
            go_roundw
            case rel => exact ⟨_, _, _, _, _, _, _, _, _, _, _, _, _, _, ⟨2, by go_num, by omega, fun h => by first | omega | exact Hq0.out (by omega) | (rw [Hd.out]; decide), fun h => by first | omega | (rw [Hd.out]; decide), Hx5.out⟩, rfl⟩
            case measure => simp [intOf]
          · rw [show errv (evOf ad) (namesErr P.names) = .iface 270 (.pointer (some (ad 7))) from by rw [hd]; rfl]
            have Hd := hid hd
            clear hd
            go_wp2
            go_ret
            have he : P.err1 = 7 := by unfold PP.err1; rw [HBig.out]; simp [Hd.out, Hp5.out.1, Hp5.out.2]
            exact ⟨_, rfl, .inl ⟨by rw [he]; decide, by rw [he]; rfl⟩, HW.out.trans (HxB.out.trans Hx5.out)⟩
        · go_wp2
          go_roundw
          case rel => exact ⟨2, by go_num, by omega, fun _ => Hp5.out, fun _ => ⟨Hq0.out (by omega), Hq1.out (by omega)⟩, Hy.out⟩
          case measure => simp [intOf]
    · have Hp5 := hid (hp5 (by omega))
      have Hp7 := hid (hp7 (by omega))
      have H1 := hid (show P.err1 = P.funsErr by unfold PP.err1; rw [HBig.out]; simp [Hp5.out.1, Hp5.out.2, Hp7.out.1, Hp7.out.2])
      have d0 := (HB.out.ext (HxB.out.trans Hx.out)).av 0 rfl
      have d1 := (HB.out.ext (HxB.out.trans Hx.out)).av 1 rfl
      have d2 := (HB.out.ext (HxB.out.trans Hx.out)).av 2 rfl
      simp only [pcells, List.getElem_toArray, List.getElem_cons_zero, List.getElem_cons_succ] at d0 d1 d2
      have HF := hid (pfuns_any a1 a2 a3 c1 c2 c3 P wr n0 ad (HE.out.ext (HW.out.trans (HxB.out.trans Hx.out))) (HP.out.ext (HW.out.trans (HxB.out.trans Hx.out))).funs)
      unfold pval at HF
      clear hp5 hp7 x0 x1
      go_wp2_with fail
      refine HF.out.mono ?_
      intro e w5 hx5
      obtain ⟨rfl, hx5⟩ := hx5
      have Hx5 := hid (HxB.out.trans (Hx.out.trans hx5))
      clear HF hx5 d0 d1 d2
      by_cases hf : P.funsErr = 0
      · rw [show errv (evOf ad) P.funsErr = .nilIface from by rw [hf]; rfl]
        have Hf := hid (show P.err1 = 0 by rw [H1.out, hf])
        have d0 := (HB.out.ext Hx5.out).av 0 rfl
        have d1 := (HB.out.ext Hx5.out).av 1 rfl
        have d2 := (HB.out.ext Hx5.out).av 2 rfl
        simp only [pcells, List.getElem_toArray, List.getElem_cons_zero, List.getElem_cons_succ] at d0 d1 d2
        clear hf Hx H1
        go_wp2
        clear d0 d1 d2
        generalize wr = wz at *
        have HxD := Hx5
        clear Hx5
        go_loopw [65] (fun t65 wr => ∃ k : Nat, t65 = .int .i64 (k : Int) ∧ k ≤ P.stmts.length ∧ (∀ j s, j < k → P.stmts[j]? = some s → P.stmtErr s = 0) ∧ Ext W wr) (fun t65 _ => P.stmts.length - (intOf t65).toNat)
        case atStart => exact ⟨0, rfl, Nat.zero_le _, fun j s h => by omega, HxD.out⟩
        case round =>
          obtain ⟨k, rfl, hk, hne, hx⟩ := hrel
          have Hne := hid hne
          have Hx := hid hx
          clear hne hx HxD
          by_cases hlt : k < P.stmts.length
          · obtain ⟨y, s, av, cv, rfl, hfk, e0, e1, e2, e3, hI⟩ := (HP.out.ext (HW.out.trans Hx.out)).stmts.at hlt
            have Hfk := hid hfk
            obtain ⟨W3, hW3⟩ : ∃ W3, W3 = wr.alloc (.cells #[.string s.kind, .int .i64 s.x, .int .i64 s.y, .slice av s.args.length cv] 65) := ⟨_, rfl⟩
            have hx3 : Ext wr W3 := by rw [hW3]; exact (Ext.refl _).alloc _
            have Hx3 := hid (Hx.out.trans hx3)
            have HS := hid (pstmt_any a1 a2 (some y) c1 c2 c3 P s av cv W3 n0 ad (HE.out.ext (HW.out.trans Hx3.out)) (hI.old (hx3.old n0)))
            unfold pval sval at HS
            have HW3 := hid hW3
            have q0 := (HB.out.ext Hx3.out).av 0 rfl
            have q1 := (HB.out.ext Hx3.out).av 1 rfl
            have q2 := (HB.out.ext Hx3.out).av 2 rfl
            simp only [pcells, List.getElem_toArray, List.getElem_cons_zero, List.getElem_cons_succ] at q0 q1 q2
            rw [hW3] at q0 q1 q2
            clear hfk hI hW3 hx3
            go_wp2_with fail
            rw [← HW3.out]
            refine HS.out.mono ?_
            intro e w4 hx4
            obtain ⟨rfl, hx4⟩ := hx4
            have Hx4 := hid (Hx3.out.trans hx4)
            clear HS hx4 q0 q1 q2
            by_cases hz : P.stmtErr s = 0
            · rw [show errv (evOf ad) (P.stmtErr s) = .nilIface from by rw [hz]; rfl]
              have Hz := hid hz
              clear hz
              go_wp2
              go_roundw
              case rel => exact ⟨k + 1, by go_num, by omega, fun j t hj ht => by
                by_cases hjk : j = k
                · subst hjk
                  obtain rfl := Option.some.inj (Hfk.out.symm.trans ht)
                  exact Hz.out
                · exact Hne.out j t (by omega) ht, Hx4.out⟩
              case measure => simp [intOf]; omega
            · rw [show errv (evOf ad) (P.stmtErr s) = .iface 270 (.pointer (some (ad (P.stmtErr s)))) from by unfold errv; rw [if_neg hz]; rfl]
              have Hr : Hid (ErrIs ad P (w4.alloc (.cells #[.int .i64 (k : Int), .iface 270 (.pointer (some (ad (P.stmtErr s))))] 120)) (.iface 118 (.pointer (some ⟨w4.heap.size, 0, none⟩)))) := hid (.inr (.inr ⟨Hf.out, k, s, _, ⟨Hfk.out, hz, Hne.out⟩, rfl, Blk.new _ _ _⟩))
              have HxE := hid (HW.out.trans (Hx4.out.alloc (.cells #[.int .i64 (k : Int), .iface 270 (.pointer (some (ad (P.stmtErr s))))] 120)))
              clear hz
              go_wp2
              go_ret
              exact ⟨_, rfl, Hr.out, HxE.out⟩
          · obtain rfl : k = P.stmts.length := by omega
            have Hr := hid (show ErrIs ad P wr .nilIface from .inr (.inl ⟨Hf.out, Hne.out, rfl⟩))
            have HxE := hid (HW.out.trans Hx.out)
            go_wp2
            go_ret
            exact ⟨_, rfl, Hr.out, HxE.out⟩
      · rw [show errv (evOf ad) P.funsErr = .iface 270 (.pointer (some (ad P.funsErr))) from by unfold errv; rw [if_neg hf]; rfl]
        have Hf := hid (show ErrIs ad P w5 (.iface 270 (.pointer (some (ad P.funsErr)))) from .inl ⟨by rw [H1.out]; exact hf, by rw [H1.out]; rfl⟩)
        clear hf
        go_wp2
        go_ret
        exact ⟨_, rfl, Hf.out, HW.out.trans Hx5.out⟩
end Go.Proofs.YtdppgcbekhabnaaGreatDoor

