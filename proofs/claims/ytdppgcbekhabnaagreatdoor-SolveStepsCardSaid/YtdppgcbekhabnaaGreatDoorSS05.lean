/- Texts of one proof, put together: LM L2 L3 L5 L6 L7 U8. -/
import Derived.Test.YtdppgcbekhabnaaGreatDoorSS01
import Derived.Test.YtdppgcbekhabnaaGreatDoorSS02
import Derived.Test.YtdppgcbekhabnaaGreatDoorSS04
import Derived.Lib.SliceRun
import Derived.Carry
import Derived.Maps.AppendAt

/- Links, plainly: a sender and a receiver. -/
namespace Go.Proofs.YtdppgcbekhabnaaGreatDoor
set_option linter.unusedSimpArgs false
set_option linter.unusedVariables false

/-- A sender of a link: the frames that are kept, each with the tick at which it was sent last. -/
structure Snd where
  fr : Int
  to : Int
  next : Int
  now : Int
  l : List (Fr × Int)
namespace Snd
def new (fr to : Int) : Snd := ⟨fr, to, 0, 0, []⟩
def frame (s : Snd) (kind : UInt8) (nums : List Int) : Fr := ⟨kind, s.fr, s.to, s.next, nums⟩
/-- An error's number. -/
def err (s : Snd) (kind : UInt8) (nums : List Int) : Nat := if (s.frame kind nums).code ≠ 0 then (s.frame kind nums).code else if kind = 97 then 4 else if 200 ≤ s.l.length then 8 else 0
def sent (s : Snd) (kind : UInt8) (nums : List Int) : Snd := { s with next := s.next + 1, l := s.l ++ [(s.frame kind nums, s.now)] }
def send (s : Snd) (kind : UInt8) (nums : List Int) : Snd := if s.err kind nums = 0 then s.sent kind nums else s
/-- At the next tick: is it sent again? -/
def late (s : Snd) (k : Fr × Int) : Bool := decide (s.now + 1 - k.2 = 3)
def stamp (s : Snd) (k : Fr × Int) : Fr × Int := if s.late k then (k.1, s.now + 1) else k
def tick (s : Snd) : Snd := { s with now := s.now + 1, l := s.l.map s.stamp }
def again (s : Snd) : List Fr := (s.l.filter s.late).map (·.1)
def acked (s : Snd) (n : Int) : Snd := { s with l := s.l.filter fun k => decide (n ≤ k.1.seq) }
/-- What bounds it. -/
structure Ok (s : Snd) (m : Nat) : Prop where
  next : 0 ≤ s.next ∧ s.next ≤ m
  now : 0 ≤ s.now ∧ s.now ≤ m
  at_ : ∀ k ∈ s.l, 0 ≤ k.2 ∧ k.2 ≤ s.now
  len : s.l.length ≤ 200
theorem Ok.new (fr to : Int) : (new fr to).Ok 0 := ⟨by simp [Snd.new], by simp [Snd.new], by simp [Snd.new], by simp [Snd.new]⟩
theorem Ok.mono {s : Snd} {m k : Nat} (h : s.Ok m) (hk : m ≤ k) : s.Ok k := ⟨by have := h.next; omega, by have := h.now; omega, h.at_, h.len⟩
theorem err_zero {s : Snd} {kind : UInt8} {nums : List Int} (h : s.err kind nums = 0) : (s.frame kind nums).code = 0 ∧ kind ≠ 97 ∧ s.l.length < 200 := by
  unfold err at h
  split at h
  · contradiction
  rename_i h1
  split at h
  · contradiction
  rename_i h2
  split at h
  · contradiction
  rename_i h3
  exact ⟨by omega, h2, by omega⟩
theorem Ok.sent {s : Snd} {m : Nat} (h : s.Ok m) {kind : UInt8} {nums : List Int} (hl : s.l.length < 200) : (s.sent kind nums).Ok (m + 1) := by
  have h1 := h.next
  have h2 := h.now
  refine ⟨by simp only [Snd.sent]; omega, by simp only [Snd.sent]; omega, fun k hk => ?_, by simp only [Snd.sent, List.length_append, List.length_cons, List.length_nil]; omega⟩
  simp only [Snd.sent, List.mem_append, List.mem_singleton] at hk ⊢
  rcases hk with hk | rfl
  · exact h.at_ k hk
  · exact ⟨h2.1, Int.le_refl _⟩
theorem Ok.send {s : Snd} {m : Nat} (h : s.Ok m) (kind : UInt8) (nums : List Int) : (s.send kind nums).Ok (m + 1) := by
  unfold Snd.send
  split
  · rename_i he
    exact h.sent (err_zero he).2.2
  · exact h.mono (by omega)
theorem Ok.tick {s : Snd} {m : Nat} (h : s.Ok m) : s.tick.Ok (m + 1) := by
  have h1 := h.next
  have h2 := h.now
  refine ⟨by simp only [Snd.tick]; omega, by simp only [Snd.tick]; omega, fun k hk => ?_, by simpa [Snd.tick] using h.len⟩
  simp only [Snd.tick, List.mem_map] at hk ⊢
  obtain ⟨x, hx, rfl⟩ := hk
  have := h.at_ x hx
  unfold stamp
  split
  · simp only; omega
  · omega
theorem Ok.acked {s : Snd} {m : Nat} (h : s.Ok m) (n : Int) : (s.acked n).Ok m :=
  ⟨h.next, h.now, fun k hk => h.at_ k ((List.mem_filter.1 hk).1), Nat.le_trans (List.length_filter_le _ _) h.len⟩
end Snd

/-- A receiver of a link. -/
structure Rcv where
  fr : Int
  to : Int
  due : Int
  wait : List Fr
namespace Rcv
def new (fr to : Int) : Rcv := ⟨fr, to, 0, []⟩
def find (l : List Fr) (q : Int) : Option Nat := l.findIdx? fun f => decide (f.seq = q)
/-- What waits is told, as long as the next one waits. -/
def run : Nat → Rcv → List Fr → List Fr × Rcv
  | 0, r, out => (out, r)
  | n + 1, r, out => match find r.wait r.due with
    | none => (out, r)
    | some k => run n { r with due := r.due + 1, wait := r.wait.eraseIdx k } (out ++ (r.wait[k]?).toList)
def err (r : Rcv) (f : Fr) : Nat := if f.code ≠ 0 then f.code else if f.fr ≠ r.fr ∨ f.to ≠ r.to ∨ f.kind = 97 then 3 else 0
/-- A right frame is taken: what is told, and what then is. -/
def took (r : Rcv) (f : Fr) : List Fr × Rcv :=
  if f.seq < r.due ∨ (find r.wait f.seq).isSome then ([], r)
  else if r.due < f.seq then ([], if r.wait.length < 8 then { r with wait := r.wait ++ [f] } else r)
  else run (r.wait.length + 1) { r with due := r.due + 1 } [f]
def take (r : Rcv) (f : Fr) : List Fr × Rcv := if r.err f = 0 then r.took f else ([], r)
end Rcv
end Go.Proofs.YtdppgcbekhabnaaGreatDoor



/- Links: a frame is copied; a sender and a receiver are made. -/
namespace Go.Proofs.YtdppgcbekhabnaaGreatDoor
set_option linter.unusedSimpArgs false
set_option linter.unusedVariables false
open Go Go.RowKit

/-- Are the ends of a link so? -/
def endsCode (fr to : Int) : Nat := if fr < 0 ∨ 6 ≤ fr ∨ to < 0 ∨ 6 ≤ to then 2 else if fr = to then 3 else 0

def kcells (x : FV × Int) : List Value := x.1.cells ++ [.int .i64 x.2]
end Go.Proofs.YtdppgcbekhabnaaGreatDoor



/- Links: a frame is sent. -/
namespace Go.Proofs.YtdppgcbekhabnaaGreatDoor
set_option linter.unusedSimpArgs false
set_option linter.unusedVariables false
open Go Go.RowKit

section
variable {w : World} {n0 : Nat} {t : Option Nat}
theorem Wr.blk {b : Nat} {c : Array Value} {e : TypeId} (hb : Blk w b c e) (hne : e ≠ 3) (hl : n0 ≤ b) : Wr w n0 t fun k => k = b :=
  fun k hk _ => ⟨by omega, fun hi => absurd hi (by subst hk; exact IsInt.not hb hne)⟩
theorem Wr.or {X Y : Nat → Prop} (h1 : Wr w n0 t X) (h2 : Wr w n0 t Y) : Wr w n0 t fun b => X b ∨ Y b := fun b hb hl => hb.elim (fun h => h1 b h hl) fun h => h2 b h hl
theorem Wr.row {v : Value} {e : TypeId} {size n : Nat} {xs : List Value} (h : w.ownsRow n0 e size v n xs) (hne : e ≠ 3) : Wr w n0 t fun k => v.ownBlock = some k :=
  fun k hk _ => ⟨(World.ownsRow.lt h k hk).1, fun hi => by
    obtain ⟨c, hc⟩ := own_ty h hk
    exact absurd hi (IsInt.not hc hne)⟩
theorem Wr.sub {X Y : Nat → Prop} (h : Wr w n0 t Y) (hx : ∀ b, X b → b < w.heap.size → Y b) : Wr w n0 t X := fun b hb hl => h b (hx b hb hl) hl
end
end Go.Proofs.YtdppgcbekhabnaaGreatDoor



/- Links: what is answered is struck. -/
namespace Go.Proofs.YtdppgcbekhabnaaGreatDoor
set_option linter.unusedSimpArgs false
set_option linter.unusedVariables false
open Go Go.RowKit

def kval (x : FV × Int) : Value := .agg #[.int .u8 (x.1.f.kind.toNat : Int), .int .i64 x.1.f.fr, .int .i64 x.1.f.to, .int .i64 x.1.f.seq, x.1.v, .int .i64 x.2]
def store6 (w : World) (g i : Nat) (y : FV × Int) : World := (((((w.setCell ⟨g, i, none⟩ (.int .u8 (y.1.f.kind.toNat : Int))).setCell ⟨g, i + 1, none⟩ (.int .i64 y.1.f.fr)).setCell ⟨g, i + 2, none⟩ (.int .i64 y.1.f.to)).setCell ⟨g, i + 3, none⟩ (.int .i64 y.1.f.seq)).setCell ⟨g, i + 4, none⟩ y.1.v).setCell ⟨g, i + 5, none⟩ (.int .i64 y.2)
/-- What is not answered below n. -/
def keptB (n : Int) (x : FV × Int) : Bool := decide (n ≤ x.1.f.seq)
end Go.Proofs.YtdppgcbekhabnaaGreatDoor



/- Links: what is answered is struck, in place. -/
namespace Go.Proofs.YtdppgcbekhabnaaGreatDoor
set_option linter.unusedSimpArgs false
set_option linter.unusedVariables false
open Go Go.RowKit

def kz : Array Value := #[.int .u8 0, .int .i64 0, .int .i64 0, .int .i64 0, .slice none 0 0, .int .i64 0]
end Go.Proofs.YtdppgcbekhabnaaGreatDoor



/- Links: what is answered; frames are appended. -/
namespace Go.Proofs.YtdppgcbekhabnaaGreatDoor
set_option linter.unusedSimpArgs false
set_option linter.unusedVariables false
open Go Go.RowKit

/-- append of one element of several cells to a row of one's own, in a sequence. -/
theorem wpList_append_el {ops : Array Oper} {Q : Exit → Act → World → Prop} {rest : List Oper} {o : Oper} {a : Act} {w : World} (base : Nat) (hbase : base ≤ w.heap.size) (t e : TypeId) (z : Value) (size bytes : Nat) (ht : Tryz.prog.underlying t = some (.slice e)) (hinf : (Tryz.prog.info? e).map (fun i => (i.zero, i.size, i.bytes)) = some (some z, size, bytes)) (hz1 : z.cells.size = size) (hsz : 0 < size)
    (hb8 : bytes ≤ 64) (hg : o.guard = none) (s x : Operand) (ho : o.op = .call { callee := .builtin .append, args := #[s, x], argTypes := #[t, t] })
    (v : Value) (n : Nat) (xs : List Value) (hs : a.eval s = v) (hown : w.ownsRow base e size v n xs) (g : Nat) (us : List Value) (hul : us.length = size) (hu : ∀ u ∈ us, u.oneCell' = true) (hx : a.eval x = .slice (some ⟨g, 0, none⟩) 1 1) (hb : Blk w g us.toArray e) (hl : n ≤ 1000000)
    (h : ∀ v' w', w'.ownsRow base e size v' (n + 1) (xs ++ us) → Keep (fun k => v.ownBlock = some k) w w' → (v'.ownBlock = v.ownBlock ∨ v'.ownBlock = some w.heap.size) → wpList Tryz.prog ops Q rest (a.put o.dst v') w') : wpList Tryz.prog ops Q (o :: rest) a w := by
  obtain ⟨ti, hi, hz0, hz, hz2⟩ := info_parts hinf
  obtain ⟨v', w', hr, h2, h3, _, h4⟩ := run_append_own_at (P := Tryz.prog) w base t o.type e ti z size bytes ht hi hz0 hz hz2 hz1 hsz v n xs hown ⟨g, 0, none⟩ 1 1 us (by rw [hul]; omega) (fun j q hq => by
    rw [show (⟨g, 0, none⟩ : Addr).add j = ⟨g, j, none⟩ from by by_cases h0 : j = 0 <;> simp [Addr.add, h0], hb.cell j]
    simpa using hq) hu (by simp only [maxLen]; omega) (by
      have : (n + 1) * bytes ≤ (n + 1) * 64 := Nat.mul_le_mul_left _ hb8
      omega) hbase
  refine wpList_plain hg fun K hK => ?_
  unfold Oper.wp
  rw [run_exec_append s x t ho hs hx hr]
  exact hK _ _ (h v' w' h2 (grown_keep h3) h4)
end Go.Proofs.YtdppgcbekhabnaaGreatDoor



/- Programs: the functions' names. -/
namespace Go.Proofs.YtdppgcbekhabnaaGreatDoor
set_option linter.unusedSimpArgs false
set_option linter.unusedVariables false
open Go Go.RowKit

theorem own_low {w : World} {base b2 : Nat} {e : TypeId} {size : Nat} {v : Value} {n : Nat} {xs : List Value} (h : w.ownsRow base e size v n xs) (hb : b2 ≤ base) : w.ownsRow b2 e size v n xs := by
  obtain ⟨h1, h2⟩ := h
  refine ⟨h1, h2.imp id ?_⟩
  rintro ⟨g, cap, cur, rfl, hg, h3⟩
  exact ⟨g, cap, cur, rfl, Nat.le_trans hb hg, h3⟩
theorem str_info : (Tryz.prog.info? 9).map (fun i => (i.zero, i.size, i.bytes)) = some (some (.string ⟨#[]⟩), 1, 16) := by kernel_rfl
/-- A row of one's own, as a slice that is read. -/
theorem ElR.own {w : World} {base n0 : Nat} {e : TypeId} {size : Nat} {v : Value} {n : Nat} {xs : List Value} {E : Nat → Addr → Prop} (h : w.ownsRow base e size v n xs) (h0 : w.heap.size ≤ n0) (hE : ∀ g, (∀ i u, xs[i]? = some u → w.cell? ((⟨g, 0, none⟩ : Addr).add i) = some u) → ∀ i, i < n → E i ⟨g, 0, none⟩) : ElR n0 v n E := by
  obtain ⟨hl, h2⟩ := id h
  rcases h2 with ⟨rfl, rfl⟩ | ⟨g, cap, cur, rfl, hb, hg, hn, hc, hs, _⟩
  · exact ⟨none, 0, rfl, Nat.le_refl _, by omega, fun h => by omega, fun y hy => by cases hy⟩
  · have hml : maxLen = 9223372036854775807 := by decide
    refine ⟨_, cap, rfl, hn, by omega, fun _ => ⟨_, rfl⟩, fun y hy hp => ?_⟩
    obtain rfl := Option.some.inj hy
    refine ⟨Nat.lt_of_lt_of_le (Array.getElem?_eq_some_iff.1 hg).1 h0, hE g fun i u hu => h.cells (g := g) rfl i u hu⟩
theorem StrsR.own {w : World} {base n0 : Nat} {e : TypeId} {v : Value} {l : List ByteArray} (h : w.ownsRow base e 1 v l.length (l.map .string)) (h0 : w.heap.size ≤ n0) : StrsR w n0 v l :=
  ElR.own h h0 fun g hc i hi s hs => hc i _ (by rw [List.getElem?_map, hs]; rfl)
theorem IntsR.own {w : World} {base n0 : Nat} {e : TypeId} {v : Value} {l : List Int} (h : w.ownsRow base e 1 v l.length (icells l)) (h0 : w.heap.size ≤ n0) : IntsR w n0 v l :=
  ElR.own h h0 fun g hc i hi s hs => hc i _ (by unfold icells; rw [List.getElem?_map, hs]; rfl)

set_option maxRecDepth 100000 in
set_option maxHeartbeats 3200000 in
theorem pfunnames_any (a1 a2 a3 : Option Addr) (c1 c2 c3 : Nat) (P : PP) (w : World) (n0 : Nat) (h : FunsR w n0 (.slice a2 P.funs.length c2) P.funs) (hl : P.funs.length ≤ 1000) :
    Calls Tryz.prog 60 #[pval a1 a2 a3 c1 c2 c3 P] w fun e w' => ∃ v, e = .returned v ∧ w'.ownsRow w.heap.size 9 1 v P.funs.length ((P.funs.map PF.name).map .string) ∧ Ext w w' := by
  have HF := hid h
  clear h
  obtain ⟨W, hW⟩ : ∃ W, W = w.alloc (.cells (pcells a1 a2 a3 c1 c2 c3 P) 26) := ⟨_, rfl⟩
  have HW : Hid (Ext w W) := hid (by rw [hW]; exact (Ext.refl _).alloc _)
  have HB : Hid (Blk W w.heap.size (pcells a1 a2 a3 c1 c2 c3 P) 26) := hid (by rw [hW]; exact Blk.new _ _ _)
  unfold pval
  unfold pcells at hW
  have HWe := hid hW
  clear hW
  go_enter Tryz.func60, Tryz.ntmps60
  go_wp2
  rw [← HWe.out]
  go_loopw [3, 9] (fun t3 t9 wr => ∃ (k : Nat), t9 = .int .i64 (k : Int) ∧ k ≤ P.funs.length ∧ wr.ownsRow W.heap.size 9 1 t3 k (((P.funs.take k).map PF.name).map .string) ∧ Ext W wr) (fun _ t9 _ => P.funs.length - (intOf t9).toNat)
  case atStart => exact ⟨0, rfl, Nat.zero_le _, World.ownsRow_nil _ _ _ _, Ext.refl _⟩
  case round =>
    obtain ⟨k, rfl, hk, hrow, hx⟩ := hrel
    obtain ⟨ao, co, rfl⟩ := row_form hrow
    have Hrow := hid hrow
    have Hx := hid hx
    clear hrow hx
    by_cases hlt : k < P.funs.length
    · obtain ⟨y, f, av, cv, rfl, hfk, e0, e1, e2, _⟩ := (HF.out.old ((HW.out.trans Hx.out).old n0)).at hlt
      have Hfk := hid hfk
      obtain ⟨W2, hW2⟩ : ∃ W2, W2 = (wr.alloc (.cells #[.string f.name, .slice av f.params.length cv, .int .i64 f.ret] 74)).alloc (.cells #[.string f.name] 9) := ⟨_, rfl⟩
      have hx2 : Ext wr W2 := by rw [hW2]; exact ((Ext.refl _).alloc _).alloc _
      have HB2 : Hid (Blk W2 (wr.heap.size + 1) #[.string f.name] 9) := hid (by
        rw [hW2]
        have := Blk.new (wr.alloc (.cells #[.string f.name, .slice av f.params.length cv, .int .i64 f.ret] 74)) #[.string f.name] 9
        rwa [heap_size_alloc] at this)
      have Hq := hid (row_keep Hrow.out (hx2.keep fun _ => False) (fun _ _ h => h))
      have Hxw := hid (Hx.out.trans hx2)
      have Hbs : Hid (W.heap.size ≤ W2.heap.size) := hid Hxw.out.size
      have Hol : Hid (k ≤ 1000000) := hid (by omega)
      have HW2 := hid hW2
      clear hW2 hx2 hfk
      go_wp2_with (at_builtin; rw [← HW2.out]; refine wpList_append_el W.heap.size Hbs.out 22 9 (.string ⟨#[]⟩) 1 16 Tryz.underlying22 str_info rfl (by omega) (by omega) rfl _ _ rfl (.slice ao k co) k (((P.funs.take k).map PF.name).map .string) rfl Hq.out (wr.heap.size + 1) [.string f.name] rfl (by simp [Value.oneCell']) rfl HB2.out Hol.out ?_; intro v6 w6 ho6 hk6 hl6)
      go_roundw
      case rel =>
        refine ⟨k + 1, by go_num, by omega, ?_, ?_⟩
        · rw [List.take_add_one, Hfk.out]
          simpa using ho6
        · exact Keep.new Hxw.out hk6 fun b hb => (World.ownsRow.lt Hq.out b hb).1
      case measure => simp [intOf]; omega
    · obtain rfl : k = P.funs.length := by omega
      have Hr := hid (show wr.ownsRow w.heap.size 9 1 (.slice ao P.funs.length co) P.funs.length ((P.funs.map PF.name).map .string) by
        have := Hrow.out
        rw [List.take_length] at this
        exact own_low this HW.out.size)
      clear Hrow
      go_wp2
      go_ret
      exact ⟨_, rfl, Hr.out, HW.out.trans Hx.out⟩
end Go.Proofs.YtdppgcbekhabnaaGreatDoor

