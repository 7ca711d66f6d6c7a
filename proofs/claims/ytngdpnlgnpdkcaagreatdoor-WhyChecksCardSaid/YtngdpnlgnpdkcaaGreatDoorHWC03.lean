/- Texts of one proof, put together: W9 V3 L4 L8 L9 LA LB LC LD LE LO LP V4 V5 V6 WA WB WC WD V7 V8 WE WF SP SB S1 VB Y1 Y2 SL S2 Y3 Y4 Y5. -/
import Derived.Test.YtngdpnlgnpdkcaaGreatDoorHWC01
import Derived.Test.YtngdpnlgnpdkcaaGreatDoorHWC02
import Derived.Lib.SlicesCompact
import Derived.Sort.Row
import Derived.Sort.Grow
import Derived.ProofKit
import Derived.OpenShut
import Derived.Lib.SmallJoins
import Derived.Deep.Slices
import Derived.Shelf.Strings.Trim
import Derived.Shelf.Small.Utf8
import Derived.Shelf.Small.Bits
import Derived.Shelf.Small.Strs
import Derived.Shelf.Small.Wraps
import Derived.Shelf.Strconv.Itoa0
import Derived.Shelf.Strings.Search1
import Derived.Shelf.Sort.Plain
import Derived.Shelf.Strings.Runes
import Derived.Shelf.Strings.AsciiSet
import Derived.Shelf.Bits.Mul64
import Derived.Shelf.Unicode.DecodeSlow
import Derived.Shelf.Unicode.DecodeAny
import Derived.Shelf.Slices.Clone
import Derived.Shelf.Slices.CompactI
import Derived.Shelf.Slices.SearchI
import Derived.Shelf.Slices.Delete
import Derived.Shelf.Slices.Cells
import Derived.Shelf.Slices.In.SortNone
import Derived.Shelf.SlicesE.Clone
import Derived.Test.YtngdpnlgnpdkcaaGreatDoorProg
import Derived.Lib.RowBridge
set_option linter.unusedSimpArgs false
set_option linter.unusedVariables false
namespace Go.Proofs.YtngdpnlgnpdkcaaGreatDoor
open Go Go.RowKit
structure PP.Small (P : PP) : Prop where
 vl : P.vars.length ≤ 41
 fl : P.funs.length ≤ 8
 sl : P.stmts.length ≤ 81
 vs : ∀ s ∈ P.vars, s.size ≤ 20
 fs : ∀ f ∈ P.funs, f.name.size ≤ 20 ∧ f.params.length ≤ 8
 ss : ∀ s ∈ P.stmts, s.kind.size ≤ 20 ∧ s.args.length ≤ 8
theorem StrsR.at {w : World} {n0 : Nat} {a : Option Addr} {n cap : Nat} {l : List ByteArray} (h : StrsR w n0 (.slice a n cap) l) {k : Nat} (hk : k < l.length) : ∃ y q, a = some y ∧ l[k]? = some q ∧ w.cell? (y.add k) = some (.string q) := by
 obtain ⟨a', cap', h1, h2, h3, h4, h5⟩ := h
 obtain ⟨rfl, rfl, rfl⟩ : a = a' ∧ n = l.length ∧ cap = cap' := by simpa using h1
 obtain ⟨y, rfl⟩ := h4 (by omega)
 have hx : l[k]? = some (l[k]'hk) := List.getElem?_eq_getElem hk
 exact ⟨y, _, rfl, hx, (h5 y rfl (by omega)).2 k hk _ hx⟩
theorem StrsR.len {w : World} {n0 : Nat} {a : Option Addr} {n cap : Nat} {l : List ByteArray} (h : StrsR w n0 (.slice a n cap) l) : (l.length : Int) ≤ 9223372036854775807 := by
 obtain ⟨_, _, _, h2, h3, _⟩ := h
 omega
theorem FV.At.ints {w : World} {n0 : Nat} {t : Option Nat} {x : FV} {a : Option Addr} {cap : Nat} (h : x.At w n0 t) (hv : x.v = .slice a x.f.nums.length cap) : Ints w a x.f.nums.length x.f.nums := by
 obtain ⟨a', c', e, hi, _⟩ := NumsAt.form h
 rw [hv] at e
 simp only [Value.slice.injEq, true_and] at e
 rw [e.1]
 exact hi
def stampK (s : Snd) (x : FV × Int) : FV × Int := if s.late (x.1.f, x.2) then (x.1, s.now + 1) else x
def lateK (s : Snd) (x : FV × Int) : Bool := s.late (x.1.f, x.2)
def midK (s : Snd) (ks : List (FV × Int)) (i : Nat) : List (FV × Int) := (ks.take i).map (stampK s) ++ ks.drop i
section
variable {P : Program} {ops : Array Oper} {w : World} {o : Oper} {a : Act} {R : Value → World → Prop}
end
theorem Wr.map {w : World} {n0 : Nat} {t : Option Nat} {b : Nat} {m : List (Int × Value)} (h : MapAt w b m) (hl : n0 ≤ b) : Wr w n0 t fun g => g = b := fun g hg _ => ⟨by omega, fun hi => by
 subst hg
 obtain ⟨es, c, hb, _⟩ := h
 obtain ⟨c', z, hi⟩ := hi
 rw [hb] at hi
 cases hi⟩
def mapSize (w : World) (b : Nat) : Nat := match w.heap[b]? with
 | some (.map es _) => es.size
 | _ => 0
theorem MapAt.size {w : World} {b : Nat} {m : List (Int × Value)} (h : MapAt w b m) : mapSize w b = m.length := by
 obtain ⟨es, c, hb, he⟩ := h
 unfold mapSize
 rw [hb]
 have := congrArg List.length he
 simpa using this
end Go.Proofs.YtngdpnlgnpdkcaaGreatDoor
namespace Go.Proofs.YtngdpnlgnpdkcaaGreatDoor
def ofr (N : List Int) (k : Nat) : Fr := ⟨100, 2, 4, (k : Int), [N.getD k 0]⟩
def oks (N : List Int) : Nat → Snd
 | 0 => Snd.new 2 4
 | i + 1 => (oks N i).sent 100 [N.getD i 0]
def osn (N : List Int) (n a : Nat) (now c : Int) : Snd := ⟨2, 4, (n : Int), now, (List.range' a (n - a)).map fun j => (ofr N j, c)⟩
def AllOf (N : List Int) (n : Nat) (l : List Fr) : Prop := ∀ f ∈ l, ∃ j, j < n ∧ f = ofr N j
structure ORcv (N : List Int) (n d : Nat) (r : Rcv) : Prop where
 fr : r.fr = 2
 to : r.to = 4
 due : r.due = (d : Int)
 le : d ≤ n
 wait : AllOf N n r.wait
 len : r.wait.length ≤ 8
end Go.Proofs.YtngdpnlgnpdkcaaGreatDoor
namespace Go.Proofs.YtngdpnlgnpdkcaaGreatDoor
open Go Go.RowKit
theorem own_nilSrc {w : World} {base : Nat} {t e : TypeId} {i : TypeInfo} {size n : Nat} {v : Value} {xs : List Value} (ht : Tryz.prog.underlying t = some (.slice e)) (hi : Tryz.prog.info? e = some i) (h : w.ownsRow base e size v n xs) (ty : TypeId) (c : Nat) : (Builtin.append_ #[t, t] ty #[v, .slice none 0 c]).run Tryz.prog w = .ok v w := by
 rcases h.2 with ⟨h2, h3⟩ | ⟨g, cap, cur, h2, _, _, hnc, _⟩
 ·subst h2
  simp [Builtin.append_, run_underlying ht, sizeOf, typeInfo, hi, Builtin.lenOf, Builtin.firstCells]
 ·subst h2
  simp [Builtin.append_, run_underlying ht, sizeOf, typeInfo, hi, Builtin.lenOf, Builtin.firstCells, hnc, storeCells]
structure Src (w : World) (a : Option Addr) (m : Nat) (size : Nat) (us : List Value) : Prop where
 len : us.length = m * size
 sm : 0 < m → ∃ x, a = some x
 cl : ∀ x, a = some x → ∀ j u, us[j]? = some u → w.cell? (x.add j) = some u
 one : ∀ u ∈ us, u.oneCell' = true
theorem run_append_src (w : World) (base : Nat) (hbase : base ≤ w.heap.size) (t e : TypeId) (z : Value) (size bytes : Nat) (ht : Tryz.prog.underlying t = some (.slice e)) (hinf : (Tryz.prog.info? e).map (fun i => (i.zero, i.size, i.bytes)) = some (some z, size, bytes)) (hz1 : z.cells.size = size) (hsz : 0 < size) (hb8 : bytes ≤ 64) (ty : TypeId)
  (v : Value) (n : Nat) (xs : List Value) (hown : w.ownsRow base e size v n xs) (a : Option Addr) (m c : Nat) (us : List Value) (hs : Src w a m size us) (hl : n + m ≤ 1000000) :
  ∃ v' w', (Builtin.append_ #[t, t] ty #[v, .slice a m c]).run Tryz.prog w = .ok v' w' ∧ w'.ownsRow base e size v' (n + m) (xs ++ us) ∧ Keep (fun k => v.ownBlock = some k) w w' ∧ ∀ k, v'.ownBlock = some k → v.ownBlock = some k ∨ w.heap.size ≤ k := by
 obtain ⟨ti, hi, hz0, hz, hz2⟩ := info_parts hinf
 rcases a with _ | ad
 ·have hm : m = 0 := by
   rcases Nat.eq_zero_or_pos m with h0 | h0
   ·exact h0
   ·obtain ⟨x, hx⟩ := hs.sm h0; cases hx
  subst hm
  obtain rfl : us = [] := List.eq_nil_of_length_eq_zero (by have := hs.len; omega)
  exact ⟨v, w, own_nilSrc ht hi hown ty c, by simpa using hown, Keep.refl _ _, fun k hk => .inl hk⟩
 ·obtain ⟨v', w', hr, h2, h3, _, h4⟩ := run_append_own_at (P := Tryz.prog) w base t ty e ti z size bytes ht hi hz0 hz hz2 hz1 hsz v n xs hown ad m c us hs.len (hs.cl ad rfl) hs.one (by simp only [maxLen]; omega) (by
   have : (n + m) * bytes ≤ (n + m) * 64 := Nat.mul_le_mul_left _ hb8
   omega) hbase
  refine ⟨v', w', hr, h2, grown_keep h3, fun k hk => ?_⟩
  rcases h4 with h4 | h4
  ·exact .inl (h4 ▸ hk)
  ·rw [h4] at hk
   have := Option.some.inj hk
   exact .inr (by omega)
theorem wpList_append_src {ops : Array Oper} {Q : Exit → Act → World → Prop} {rest : List Oper} {o : Oper} {a : Act} {w : World} (base : Nat) (hbase : base ≤ w.heap.size) (t e : TypeId) (z : Value) (size bytes : Nat) (ht : Tryz.prog.underlying t = some (.slice e)) (hinf : (Tryz.prog.info? e).map (fun i => (i.zero, i.size, i.bytes)) = some (some z, size, bytes)) (hz1 : z.cells.size = size) (hsz : 0 < size)
  (hb8 : bytes ≤ 64) (hg : o.guard = none) (s x : Operand) (ho : o.op = .call { callee := .builtin .append, args := #[s, x], argTypes := #[t, t] })
  (v : Value) (n : Nat) (xs : List Value) (hs : a.eval s = v) (hown : w.ownsRow base e size v n xs) (ad : Option Addr) (m c : Nat) (us : List Value) (hx : a.eval x = .slice ad m c) (hsrc : Src w ad m size us) (hl : n + m ≤ 1000000)
  (h : ∀ v' w', w'.ownsRow base e size v' (n + m) (xs ++ us) → Keep (fun k => v.ownBlock = some k) w w' → (∀ k, v'.ownBlock = some k → v.ownBlock = some k ∨ w.heap.size ≤ k) → wpList Tryz.prog ops Q rest (a.put o.dst v') w') : wpList Tryz.prog ops Q (o :: rest) a w := by
 obtain ⟨v', w', hr, h2, h3, h4⟩ := run_append_src w base hbase t e z size bytes ht hinf hz1 hsz hb8 o.type v n xs hown ad m c us hsrc hl
 refine wpList_plain hg fun K hK => ?_
 unfold Oper.wp
 rw [run_exec_append s x t ho hs hx hr]
 exact hK _ _ (h v' w' h2 h3 h4)
theorem Src.ints {w : World} {a : Option Addr} {m : Nat} {vs : List Int} (h : Ints w a m vs) : Src w a m 1 (icells vs) := by
 refine ⟨by simp [icells, h.ln], h.sm, fun x hx j u hu => ?_, icells_one⟩
 simp only [icells, List.getElem?_map] at hu
 have hj : j < vs.length := by
  rcases Nat.lt_or_ge j vs.length with h1 | h1
  ·exact h1
  ·rw [List.getElem?_eq_none h1] at hu; cases hu
 rw [h.cl x hx j (by have := h.ln; omega), List.getD_eq_getElem?_getD, List.getElem?_eq_getElem hj]
 rw [List.getElem?_eq_getElem hj] at hu
 exact hu
theorem FV.one {w : World} {n0 : Nat} {t : Option Nat} {fs : List FV} (h : ∀ x ∈ fs, x.At w n0 t) : ∀ u ∈ fs.flatMap FV.cells, u.oneCell' = true := by
 intro u hu
 obtain ⟨x, hx, hu⟩ := List.mem_flatMap.1 hu
 obtain ⟨a, c, _, hv, _⟩ := (h x hx).form
 simp only [FV.cells, hv, List.mem_cons, List.not_mem_nil, or_false] at hu
 rcases hu with rfl | rfl | rfl | rfl | rfl <;> rfl
theorem Src.part {w : World} {n0 : Nat} {t : Option Nat} {base g n cap : Nat} {e : TypeId} {fs : List FV} (h : FRow w n0 t base e (.slice (some ⟨g, 0, none⟩) n cap) fs) (hn : fs.length = n) (i m : Nat) (him : i + m ≤ n) : Src w (some ⟨g, i * 5, none⟩) m 5 (((fs.drop i).take m).flatMap FV.cells) := by
 have hr := h.row
 rw [hn] at hr
 refine ⟨?_, fun _ => ⟨_, rfl⟩, fun x hx j u hu => ?_, FV.one (w := w) (n0 := n0) (t := t) fun x hx => h.nums x (List.mem_of_mem_drop (List.mem_of_mem_take hx))⟩
 ·rw [fm_len FV.cells 5 FV.cells_len]
  simp
  omega
 ·obtain rfl := Option.some.inj hx
  rw [show (⟨g, i * 5, none⟩ : Addr).add j = ⟨g, i * 5 + j, none⟩ from by by_cases h0 : j = 0 <;> simp [Addr.add, h0]]
  refine own_get hr _ ?_
  rw [← fm_take FV.cells 5 FV.cells_len, ← fm_drop FV.cells 5 FV.cells_len, List.getElem?_take, List.getElem?_drop] at hu
  split at hu
  ·exact hu
  ·cases hu
theorem Src.head {w : World} {n0 : Nat} {t : Option Nat} {base g n cap : Nat} {e : TypeId} {fs : List FV} (h : FRow w n0 t base e (.slice (some ⟨g, 0, none⟩) n cap) fs) (hn : fs.length = n) (k : Nat) (hk : k ≤ n) : Src w (some ⟨g, 0, none⟩) k 5 ((fs.take k).flatMap FV.cells) := by
 have := Src.part h hn 0 k (by omega)
 rwa [List.drop_zero, Nat.zero_mul] at this
theorem Src.tail {w : World} {n0 : Nat} {t : Option Nat} {base g n cap : Nat} {e : TypeId} {fs : List FV} (h : FRow w n0 t base e (.slice (some ⟨g, 0, none⟩) n cap) fs) (hn : fs.length = n) (k : Nat) (hk : k ≤ n) : Src w (some ⟨g, k * 5, none⟩) (n - k) 5 ((fs.drop k).flatMap FV.cells) := by
 have := Src.part h hn k (n - k) (by omega)
 rwa [List.take_of_length_le (by simp; omega)] at this
theorem Src.zero (w : World) (ad : Addr) (nets : List FV) (kk : Nat) (h : nets.length ≤ kk + 1) : Src w (some ad) (nets.length - (kk + 1)) 5 ((nets.drop (kk + 1)).flatMap FV.cells) := by
 have h1 : nets.drop (kk + 1) = [] := List.drop_of_length_le h
 rw [h1]
 exact ⟨by simp; omega, fun _ => ⟨_, rfl⟩, fun x _ j u hu => by simp at hu, fun u hu => by simp at hu⟩
theorem Src.all {w : World} {n0 : Nat} {t : Option Nat} {base n cap : Nat} {a : Option Addr} {e : TypeId} {fs : List FV} (h : FRow w n0 t base e (.slice a n cap) fs) (hn : fs.length = n) : Src w a n 5 (fs.flatMap FV.cells) := by
 rcases Nat.eq_zero_or_pos n with h0 | h0
 ·subst h0
  obtain rfl := List.eq_nil_of_length_eq_zero hn
  exact ⟨rfl, fun h => by omega, fun x _ j u hu => by simp at hu, fun u hu => by simp at hu⟩
 ·have hr := h.row
  obtain ⟨g, cp, he⟩ := own_some hr (by omega)
  simp only [Value.slice.injEq] at he
  obtain ⟨rfl, _, rfl⟩ := he
  have := Src.part h hn 0 n (by omega)
  rw [List.drop_zero, List.take_of_length_le (by omega), Nat.zero_mul] at this
  exact this
theorem Wr.told {w : World} {n0 : Nat} {t : Option Nat} (h : ∀ b, t = some b → n0 ≤ b) : Wr w n0 t fun b => t = some b := fun b hb _ => ⟨h b hb, fun _ => hb⟩
structure Told (w w' : World) (n0 : Nat) (t t' : Option Nat) : Prop where
 keep : Keep (fun b => t = some b) w w'
 lo : ∀ b, t = some b → n0 ≤ b
 int : ∀ b, t = some b → IsInt w b
 new : ∀ b, t' = some b → t = some b ∨ w.heap.size ≤ b
theorem NumsAt.told {w w' : World} {n0 : Nat} {t t' : Option Nat} {v : Value} {l : List Int} (h : NumsAt w n0 t v l) (k : Told w w' n0 t t') : NumsAt w' n0 t' v l := by
 obtain ⟨a, cap, rfl, hi, hb⟩ := h
 have hne : ∀ x, a = some x → 0 < l.length → ¬ t = some x.block := fun x hx hl e => by
  rcases hb x hx hl with h1 | h1
  ·have := k.lo _ e; omega
  ·exact h1.2 e
 refine ⟨a, cap, rfl, hi.keep k.keep hne, fun x hx hl => (hb x hx hl).imp id fun h1 => ⟨h1.1.keep k.keep (hne x hx hl), fun e => ?_⟩⟩
 rcases k.new _ e with h2 | h2
 ·exact h1.2 h2
 ·have := hi.blt hx hl; omega
theorem Told.ne {w w' : World} {n0 : Nat} {t t' : Option Nat} (k : Told w w' n0 t t') {b : Nat} {c : Array Value} {e : TypeId} (hb : Blk w b c e) (hne : e ≠ 3) : ¬ t = some b := fun h => IsInt.not hb hne (k.int b h)
theorem FRow.told {w w' : World} {n0 : Nat} {t t' : Option Nat} {base : Nat} {e : TypeId} {v : Value} {fs : List FV} (h : FRow w n0 t base e v fs) (k : Told w w' n0 t t') (he : e ≠ 3) : FRow w' n0 t' base e v fs :=
 ⟨row_keep h.row k.keep (fun b hb => by
  obtain ⟨c, hc⟩ := own_ty h.row hb
  exact k.ne hc he), fun x hx => NumsAt.told (h.nums x hx) k⟩
section
variable {w0 : World} {N : List Int} {n p q b a d e : Nat} {now c : Int} {r : Rcv} {nv tv : Value} {nets : List FV} {wr : World}
end
theorem AllOf.mono {N : List Int} {n m : Nat} {l : List Fr} (h : AllOf N n l) (hn : n ≤ m) : AllOf N m l := fun f hf => by
 obtain ⟨j, hj, e⟩ := h f hf
 exact ⟨j, by omega, e⟩
theorem add_add (a : Addr) (i j : Nat) : (a.add i).add j = a.add (i + j) := by
 by_cases hi : i = 0
 ·subst hi; simp [Addr.add]
 ·by_cases hj : j = 0
  ·subst hj; simp [Addr.add]
  ·simp only [add_posU _ _ hi, add_posU _ _ hj, add_posU _ _ (show i + j ≠ 0 by omega)]
   congr 1
   omega
theorem IntsR.src {w : World} {n0 : Nat} {a : Option Addr} {n cap : Nat} {l : List Int} (h : IntsR w n0 (.slice a n cap) l) : Src w a n 1 (icells l) := by
 obtain ⟨a', cap', h1, h2, h3, h4, h5⟩ := h
 obtain ⟨rfl, rfl, rfl⟩ : a = a' ∧ n = l.length ∧ cap = cap' := by simpa using h1
 refine ⟨by simp [icells], h4, fun x hx j u hu => ?_, icells_one⟩
 have hj : j < l.length := by
  rcases Nat.lt_or_ge j l.length with h | h
  ·exact h
  ·rw [List.getElem?_eq_none (by simpa [icells] using h)] at hu; cases hu
 unfold icells at hu
 rw [List.getElem?_map, List.getElem?_eq_getElem hj] at hu
 obtain rfl := Option.some.inj hu
 exact (h5 x hx (by omega)).2 j hj _ (List.getElem?_eq_getElem hj)
theorem StrsR.src {w : World} {n0 : Nat} {a : Option Addr} {n cap : Nat} {l : List ByteArray} (h : StrsR w n0 (.slice a n cap) l) : Src w a n 1 (l.map .string) := by
 obtain ⟨a', cap', h1, h2, h3, h4, h5⟩ := h
 obtain ⟨rfl, rfl, rfl⟩ : a = a' ∧ n = l.length ∧ cap = cap' := by simpa using h1
 refine ⟨by simp, h4, fun x hx j u hu => ?_, fun u hu => ?_⟩
 ·have hj : j < l.length := by
   rcases Nat.lt_or_ge j l.length with h | h
   ·exact h
   ·rw [List.getElem?_eq_none (by simpa using h)] at hu; cases hu
  rw [List.getElem?_map, List.getElem?_eq_getElem hj] at hu
  obtain rfl := Option.some.inj hu
  exact (h5 x hx (by omega)).2 j hj _ (List.getElem?_eq_getElem hj)
 ·obtain ⟨s, _, rfl⟩ := List.mem_map.1 hu
  rfl
set_option maxRecDepth 100000 in
set_option maxHeartbeats 800000 in
theorem ownintsR_any (v : Value) (l : List Int) (w : World) (n0 : Nat) (h : IntsR w n0 v l) (hl : l.length ≤ 1000) :
  Calls Tryz.prog 37 #[v] w fun e w' => ∃ v', e = .returned v' ∧ Ext w w' ∧ w'.ownsRow w.heap.size 3 1 v' l.length (icells l) := by
 obtain ⟨a, cap, rfl, h'⟩ := id h
 have Hs := hid h.src
 have hl2 : 0 + l.length ≤ 1000000 := by omega
 clear h h'
 go_enter Tryz.func37, Tryz.ntmps37
 go_wp2_with (at_builtin; refine wpList_append_src w.heap.size (Nat.le_refl _) 43 3 (.int .i64 0) 1 8 Tryz.underlying43 ints_info rfl (by omega) (by omega) rfl _ _ rfl (.slice none 0 0) 0 [] rfl (World.ownsRow_nil _ _ _ _) a l.length cap (icells l) rfl Hs.out hl2 ?_; intro v' w' h1 h2 h4; have h3 := Keep.new (Ext.refl w) h2 (fun k hk => by cases hk))
 go_ret
 exact ⟨_, rfl, h3, by simpa using h1⟩
def IntsT (w : World) (v : Value) (l : List Int) : Prop := IntsR w w.heap.size v l ∧ ∀ b, v.ownBlock = some b → IsInt w b
theorem IntsT.of_row {w : World} {base : Nat} {v : Value} {l : List Int} (h : w.ownsRow base 3 1 v l.length (icells l)) : IntsT w v l :=
 ⟨IntsR.own h (Nat.le_refl _), fun b hb => by
  obtain ⟨c, hc⟩ := own_ty h hb
  exact ⟨c, _, hc⟩⟩
theorem IntsT.keep {X : Nat → Prop} {w w' : World} {v : Value} {l : List Int} (h : IntsT w v l) (k : Keep X w w') (hX : ∀ b, X b → ¬ IsInt w b) : IntsT w' v l := by
 obtain ⟨⟨a, cap, h1, h2, h3, h4, h5⟩, hi⟩ := h
 subst h1
 refine ⟨⟨a, cap, rfl, h2, h3, h4, fun y hy h0 => ⟨Nat.lt_of_lt_of_le (h5 y hy h0).1 k.size, fun i hl s hs => ?_⟩⟩, fun b hb => (hi b hb).keep k fun hx => hX b hx (hi b hb)⟩
 subst hy
 exact k.cellx ((h5 y rfl h0).2 i hl s hs) fun hx => hX _ hx (by rw [add_block]; exact hi y.block rfl)
theorem IntsT.ext {w w' : World} {v : Value} {l : List Int} (h : IntsT w v l) (x : Ext w w') : IntsT w' v l := h.keep (x.keep fun _ => False) fun _ h => h.elim
theorem IntsT.form {w : World} {v : Value} {l : List Int} (h : IntsT w v l) : ∃ a c, v = .slice a l.length c := by
 obtain ⟨⟨a, cap, h1, _⟩, _⟩ := h
 exact ⟨a, cap, h1⟩
structure F2 where
 f : PF
 v : Value
def F2.cells (x : F2) : List Value := [.string x.f.name, x.v, .int .i64 x.f.ret]
theorem F2.cells_len (x : F2) : x.cells.length = 3 := rfl
structure S2 where
 s : PS
 v : Value
def S2.cells (x : S2) : List Value := [.string x.s.kind, .int .i64 x.s.x, .int .i64 x.s.y, x.v]
theorem S2.cells_len (x : S2) : x.cells.length = 4 := rfl
theorem FunsR.own {w : World} {base : Nat} {v : Value} {fs : List F2} {l : List PF} (h : w.ownsRow base 78 3 v fs.length (fs.flatMap F2.cells)) (hl : fs.map F2.f = l) (hn : ∀ x ∈ fs, IntsT w x.v x.f.params) : FunsR w w.heap.size v l := by
 have hll : l.length = fs.length := by rw [← hl, List.length_map]
 unfold FunsR
 rw [hll]
 refine ElR.own h (Nat.le_refl _) fun g hc i hi f hf => ?_
 rw [← hl, List.getElem?_map] at hf
 obtain ⟨x, hx, rfl⟩ := Option.map_eq_some_iff.1 hf
 have c : ∀ j u, x.cells[j]? = some u → j < 3 → w.cell? (((⟨g, 0, none⟩ : Addr).add (i * 3)).add j) = some u := fun j u hu hj => by
  rw [add_add]
  exact hc _ _ ((fm_get F2.cells 3 F2.cells_len fs i j x hx hj).trans hu)
 exact ⟨x.v, by simpa [Addr.add] using c 0 _ rfl (by omega), c 1 _ rfl (by omega), c 2 _ rfl (by omega), (hn x (List.mem_of_getElem? hx)).1⟩
theorem StmtsR.own {w : World} {base : Nat} {v : Value} {ss : List S2} {l : List PS} (h : w.ownsRow base 76 4 v ss.length (ss.flatMap S2.cells)) (hl : ss.map S2.s = l) (hn : ∀ x ∈ ss, IntsT w x.v x.s.args) : StmtsR w w.heap.size v l := by
 have hll : l.length = ss.length := by rw [← hl, List.length_map]
 unfold StmtsR
 rw [hll]
 refine ElR.own h (Nat.le_refl _) fun g hc i hi f hf => ?_
 rw [← hl, List.getElem?_map] at hf
 obtain ⟨x, hx, rfl⟩ := Option.map_eq_some_iff.1 hf
 have c : ∀ j u, x.cells[j]? = some u → j < 4 → w.cell? (((⟨g, 0, none⟩ : Addr).add (i * 4)).add j) = some u := fun j u hu hj => by
  rw [add_add]
  exact hc _ _ ((fm_get S2.cells 4 S2.cells_len ss i j x hx hj).trans hu)
 exact ⟨x.v, by simpa [Addr.add] using c 0 _ rfl (by omega), c 1 _ rfl (by omega), c 2 _ rfl (by omega), c 3 _ rfl (by omega), (hn x (List.mem_of_getElem? hx)).1⟩
theorem fun_info : (Tryz.prog.info? 78).map (fun i => (i.zero, i.size, i.bytes)) = some (some (.agg #[.string ⟨#[]⟩, .slice none 0 0, .int .i64 0]), 3, 48) := by kernel_rfl
theorem stmt_info : (Tryz.prog.info? 76).map (fun i => (i.zero, i.size, i.bytes)) = some (some (.agg #[.string ⟨#[]⟩, .int .i64 0, .int .i64 0, .slice none 0 0]), 4, 56) := by kernel_rfl
structure OwnP (w : World) (n1 : Nat) (vv fv sv : Value) (P : PP) (fs : List F2) (ss : List S2) : Prop where
 blk : Blk w n1 #[vv, fv, sv] 26
 vars : w.ownsRow 0 9 1 vv P.vars.length (P.vars.map .string)
 funs : w.ownsRow n1 78 3 fv fs.length (fs.flatMap F2.cells)
 stmts : w.ownsRow n1 76 4 sv ss.length (ss.flatMap S2.cells)
 fi : ∀ x ∈ fs, IntsT w x.v x.f.params
 si : ∀ x ∈ ss, IntsT w x.v x.s.args
theorem OwnP.ext {w w' : World} {n1 : Nat} {vv fv sv : Value} {P : PP} {fs : List F2} {ss : List S2} (h : OwnP w n1 vv fv sv P fs ss) (x : Ext w w') : OwnP w' n1 vv fv sv P fs ss :=
 ⟨h.blk.ext x, own_ext h.vars x, own_ext h.funs x, own_ext h.stmts x, fun y hy => (h.fi y hy).ext x, fun y hy => (h.si y hy).ext x⟩
theorem notInt {w : World} {b : Nat} {c : Array Value} {t : TypeId} (h : Blk w b c t) (hne : t ≠ 3) : ¬ IsInt w b := IsInt.not h hne
theorem OwnP.fun {w w1 w' : World} {n1 : Nat} {vv fv sv fv' : Value} {P : PP} {fs : List F2} {ss : List S2} (h : OwnP w n1 vv fv sv P fs ss) (x : F2) (hx : IntsT w x.v x.f.params)
  (ho : w'.ownsRow n1 78 3 fv' (fs.length + 1) (fs.flatMap F2.cells ++ F2.cells x)) (k : Keep (fun q => fv.ownBlock = some q) w w') (hw : w1 = w'.setCell ⟨n1, 1, none⟩ fv') : OwnP w1 n1 vv fv' sv P (fs ++ [x]) ss := by
 subst hw
 have hb : Blk w' n1 #[vv, fv, sv] 26 := h.blk.keep k fun e => by
  obtain ⟨c, hc⟩ := own_ty h.funs e
  exact Blk.ty_ne hc h.blk (by decide) rfl
 have k2 : Keep (fun q => q = n1) w' (w'.setCell ⟨n1, 1, none⟩ fv') := Keep.set (X := fun q => q = n1) (Keep.refl _ _) rfl _
 have hb2 := hb.set 1 fv'
 simp only [qS0, qS1, qS2] at hb2
 have nf : ∀ b, fv.ownBlock = some b → ¬ IsInt w b := fun b e => by
  obtain ⟨c, hc⟩ := own_ty h.funs e
  exact notInt hc (by decide)
 have kk : ∀ v l, IntsT w v l → IntsT (w'.setCell ⟨n1, 1, none⟩ fv') v l := fun v l hi => (hi.keep k nf).keep k2 fun b e => by subst e; exact notInt hb (by decide)
 have r2 : ∀ {base : Nat} {e : TypeId} {size : Nat} {v : Value} {n : Nat} {xs : List Value}, w'.ownsRow base e size v n xs → e ≠ 26 → (w'.setCell ⟨n1, 1, none⟩ fv').ownsRow base e size v n xs := fun hr hne => row_keep hr k2 fun i hi e => by
  subst e
  obtain ⟨c, hc⟩ := own_ty hr hi
  exact Blk.ty_ne hc hb hne rfl
 have r1 : ∀ {base : Nat} {e : TypeId} {size : Nat} {v : Value} {n : Nat} {xs : List Value}, w.ownsRow base e size v n xs → e ≠ 78 → w'.ownsRow base e size v n xs := fun hr hne => row_keep hr k fun i hi e => by
  obtain ⟨c, hc⟩ := own_ty hr hi
  obtain ⟨d, hd⟩ := own_ty h.funs e
  exact Blk.ty_ne hc hd hne rfl
 refine ⟨hb2, r2 (r1 h.vars (by decide)) (by decide), r2 (by simpa using ho) (by decide), r2 (r1 h.stmts (by decide)) (by decide), fun y hy => ?_, fun y hy => kk _ _ (h.si y hy)⟩
 rcases List.mem_append.1 hy with hy | hy
 ·exact kk _ _ (h.fi y hy)
 ·rw [List.mem_singleton.1 hy]; exact kk _ _ hx
theorem OwnP.stmt {w w1 w' : World} {n1 : Nat} {vv fv sv sv' : Value} {P : PP} {fs : List F2} {ss : List S2} (h : OwnP w n1 vv fv sv P fs ss) (x : S2) (hx : IntsT w x.v x.s.args)
  (ho : w'.ownsRow n1 76 4 sv' (ss.length + 1) (ss.flatMap S2.cells ++ S2.cells x)) (k : Keep (fun q => sv.ownBlock = some q) w w') (hw : w1 = w'.setCell ⟨n1, 2, none⟩ sv') : OwnP w1 n1 vv fv sv' P fs (ss ++ [x]) := by
 subst hw
 have hb : Blk w' n1 #[vv, fv, sv] 26 := h.blk.keep k fun e => by
  obtain ⟨c, hc⟩ := own_ty h.stmts e
  exact Blk.ty_ne hc h.blk (by decide) rfl
 have k2 : Keep (fun q => q = n1) w' (w'.setCell ⟨n1, 2, none⟩ sv') := Keep.set (X := fun q => q = n1) (Keep.refl _ _) rfl _
 have hb2 := hb.set 2 sv'
 simp only [qS0, qS1, qS2] at hb2
 have nf : ∀ b, sv.ownBlock = some b → ¬ IsInt w b := fun b e => by
  obtain ⟨c, hc⟩ := own_ty h.stmts e
  exact notInt hc (by decide)
 have kk : ∀ v l, IntsT w v l → IntsT (w'.setCell ⟨n1, 2, none⟩ sv') v l := fun v l hi => (hi.keep k nf).keep k2 fun b e => by subst e; exact notInt hb (by decide)
 have r2 : ∀ {base : Nat} {e : TypeId} {size : Nat} {v : Value} {n : Nat} {xs : List Value}, w'.ownsRow base e size v n xs → e ≠ 26 → (w'.setCell ⟨n1, 2, none⟩ sv').ownsRow base e size v n xs := fun hr hne => row_keep hr k2 fun i hi e => by
  subst e
  obtain ⟨c, hc⟩ := own_ty hr hi
  exact Blk.ty_ne hc hb hne rfl
 have r1 : ∀ {base : Nat} {e : TypeId} {size : Nat} {v : Value} {n : Nat} {xs : List Value}, w.ownsRow base e size v n xs → e ≠ 76 → w'.ownsRow base e size v n xs := fun hr hne => row_keep hr k fun i hi e => by
  obtain ⟨c, hc⟩ := own_ty hr hi
  obtain ⟨d, hd⟩ := own_ty h.stmts e
  exact Blk.ty_ne hc hd hne rfl
 refine ⟨hb2, r2 (r1 h.vars (by decide)) (by decide), r2 (r1 h.funs (by decide)) (by decide), r2 (by simpa using ho) (by decide), fun y hy => kk _ _ (h.fi y hy), fun y hy => ?_⟩
 rcases List.mem_append.1 hy with hy | hy
 ·exact kk _ _ (h.si y hy)
 ·rw [List.mem_singleton.1 hy]; exact kk _ _ hx
theorem Blk.new_setU (w : World) (a : Addr) (v : Value) (c : Array Value) (e : TypeId) : Blk ((w.setCell a v).alloc (.cells c e)) w.heap.size c e := by
 have := Blk.new (w.setCell a v) c e
 simpa [World.setCell] using this
set_option maxRecDepth 100000 in
set_option maxHeartbeats 12800000 in
theorem ownprogram_any (a1 a2 a3 : Option Addr) (c1 c2 c3 : Nat) (P : PP) (w : World) (h : ProgR w w.heap.size (.slice a1 P.vars.length c1) (.slice a2 P.funs.length c2) (.slice a3 P.stmts.length c3) P) (hs : P.Small) :
  Calls Tryz.prog 11 #[pval a1 a2 a3 c1 c2 c3 P] w fun e w' => Ext w w' ∧ ∃ b1 b2 b3 d1 d2 d3, e = .returned (pval b1 b2 b3 d1 d2 d3 P) ∧ ProgR w' w'.heap.size (.slice b1 P.vars.length d1) (.slice b2 P.funs.length d2) (.slice b3 P.stmts.length d3) P := by
 have HP := hid h
 have Hs := hid hs
 have hl1 := hs.vl
 have hl2 := hs.fl
 have hl3 := hs.sl
 obtain ⟨W1, hW1⟩ : ∃ W1, W1 = w.alloc (.cells (pcells a1 a2 a3 c1 c2 c3 P) 26) := ⟨_, rfl⟩
 have hx1 : Ext w W1 := by rw [hW1]; exact (Ext.refl _).alloc _
 obtain ⟨W2, hW2⟩ : ∃ W2, W2 = W1.alloc (.cells #[.slice none 0 0, .slice none 0 0, .slice none 0 0] 26) := ⟨_, rfl⟩
 have hx2 : Ext W1 W2 := by rw [hW2]; exact (Ext.refl _).alloc _
 have HW2 := hid (hx1.trans hx2)
 have HB1 : Hid (Blk W2 w.heap.size (pcells a1 a2 a3 c1 c2 c3 P) 26) := hid (by
  have : Blk W1 w.heap.size (pcells a1 a2 a3 c1 c2 c3 P) 26 := by rw [hW1]; exact Blk.new _ _ _
  exact this.ext hx2)
 have hs1 : W1.heap.size = w.heap.size + 1 := by rw [hW1, heap_size_alloc]
 have HB2 : Hid (Blk W2 (w.heap.size + 1) #[.slice none 0 0, .slice none 0 0, .slice none 0 0] 26) := hid (by
  rw [← hs1, hW2]; exact Blk.new _ _ _)
 have HW2e : Hid (W2 = (w.alloc (.cells #[.slice a1 P.vars.length c1, .slice a2 P.funs.length c2, .slice a3 P.stmts.length c3] 26)).alloc (.cells #[.slice none 0 0, .slice none 0 0, .slice none 0 0] 26)) := hid (by rw [hW2, hW1]; rfl)
 have Hsrc := hid ((h.ext HW2.out).vars.src)
 have hlv : 0 + P.vars.length ≤ 1000000 := by omega
 unfold pval
 clear h hs hW1 hW2 hx1 hx2 hs1
 go_enter Tryz.func11, Tryz.ntmps11
 go_wp2_with (at_builtin; rw [← HW2e.out]; refine wpList_append_src W2.heap.size (Nat.le_refl _) 22 9 (.string ⟨#[]⟩) 1 16 Tryz.underlying22 str_info rfl (by omega) (by omega) rfl _ _ rfl (.slice none 0 0) 0 [] rfl (World.ownsRow_nil _ _ _ _) a1 P.vars.length c1 (P.vars.map .string) rfl Hsrc.out hlv ?_; intro v3 w3 h1 h2 h4; have HX3 := hid (Keep.new (Ext.refl W2) h2 (fun k hk => by cases hk)); have HV3 := hid (show w3.ownsRow W2.heap.size 9 1 v3 P.vars.length (P.vars.map .string) by simpa using h1); clear h1 h2 h4; obtain ⟨va, vc, rfl⟩ := row_form HV3.out)
 obtain ⟨W4, hW4⟩ : ∃ W4, W4 = w3.alloc (.cells #[.slice va P.vars.length vc, .slice none 0 0, .slice none 0 0] 26) := ⟨_, rfl⟩
 rw [← hW4]
 have hx4 : Ext w3 W4 := by rw [hW4]; exact (Ext.refl _).alloc _
 have HO4 : Hid (OwnP W4 w3.heap.size (.slice va P.vars.length vc) (.slice none 0 0) (.slice none 0 0) P [] []) := hid
  ⟨by rw [hW4]; exact Blk.new _ _ _, own_low (own_ext HV3.out hx4) (Nat.zero_le _), World.ownsRow_nil _ _ _ _, World.ownsRow_nil _ _ _ _, fun _ h => by (cases h), fun _ h => by (cases h)⟩
 have HW4 := hid ((HW2.out.trans HX3.out).trans hx4)
 have HB14 := hid (HB1.out.ext (HX3.out.trans hx4))
 have HB24 := hid (HB2.out.ext (HX3.out.trans hx4))
 have Hn1 : Hid (w.heap.size + 1 < w3.heap.size) := hid (Nat.lt_of_lt_of_le HB2.out.lt HX3.out.size)
 clear hW4 hx4 Hsrc hlv
 generalize w3.heap.size = n1 at *
 go_loopw [5] (fun t5 wr => ∃ (k : Nat) (fv : Value) (fs : List F2), t5 = .int .i64 (k : Int) ∧ k ≤ P.funs.length ∧ OwnP wr n1 (.slice va P.vars.length vc) fv (.slice none 0 0) P fs [] ∧ fs.map F2.f = P.funs.take k ∧ Old n1 W4 wr) (fun t5 _ => P.funs.length - (intOf t5).toNat)
 case atStart => exact ⟨0, _, [], rfl, Nat.zero_le _, HO4.out, rfl, Old.refl _ _⟩
 case round =>
  clear HO4
  obtain ⟨k, fv, fs, rfl, hk, hO, hm, hw⟩ := hrel
  have HO := hid hO
  have Hm := hid hm
  have Hw := hid hw
  have Hww : Hid (Old w.heap.size w wr) := hid ((HW4.out.old _).trans (hw.mono fun q _ e => by have := Hn1.out; omega))
  have HBp : Hid (Blk wr w.heap.size (pcells a1 a2 a3 c1 c2 c3 P) 26) := hid (HB14.out.keep hw fun e => by have := Hn1.out; omega)
  have HBr : Hid (Blk wr (w.heap.size + 1) #[.slice none 0 0, .slice none 0 0, .slice none 0 0] 26) := hid (HB24.out.keep hw fun e => by have := Hn1.out; omega)
  have p0 := HBp.out.av 0 rfl
  have p1 := HBp.out.av 1 rfl
  have p2 := HBp.out.av 2 rfl
  simp only [pcells, qA0, qA1, qA2] at p0 p1 p2
  clear hO hm hw
  by_cases hlt : k < P.funs.length
  ·obtain ⟨y, f, av, cv, rfl, hq, e0, e1, e2, hI⟩ := (HP.out.old Hww.out).funs.at hlt
   have hfl : fs.length = k := by
    have := congrArg List.length Hm.out
    rw [List.length_map, List.length_take] at this
    omega
   obtain ⟨fa, fc, hfv⟩ := row_form HO.out.funs
   rw [hfl] at hfv
   subst hfv
   obtain ⟨W5, hW5⟩ : ∃ W5, W5 = wr.alloc (.cells #[.string f.name, .slice av f.params.length cv, .int .i64 f.ret] 78) := ⟨_, rfl⟩
   have hx5 : Ext wr W5 := by rw [hW5]; exact (Ext.refl _).alloc _
   have HB5 : Hid (Blk W5 wr.heap.size #[.string f.name, .slice av f.params.length cv, .int .i64 f.ret] 78) := hid (by rw [hW5]; exact Blk.new _ _ _)
   have hfs := Hs.out.fs f (List.mem_of_getElem? hq)
   have HN := hid (ownintsR_any _ f.params W5 w.heap.size (hI.old (hx5.old _)) (by omega))
   have Hnx : Hid (∀ v, (fs ++ [(⟨f, v⟩ : F2)]).map F2.f = P.funs.take (k + 1)) := hid fun v => by
    rw [List.map_append, Hm.out, List.take_add_one, hq]; rfl
   have Hx5 := hid hx5
   have HW5 := hid hW5
   have Hfl := hid hfl
   clear hq hI hfl hx5 hW5 hfs
   go_wp2_with fail
   rw [← HW5.out]
   refine HN.out.mono ?_
   intro e w6 hx
   obtain ⟨v6, rfl, hx6, hr6⟩ := hx
   obtain ⟨b6, c6, rfl⟩ := row_form hr6
   have hB6 := HB5.out.ext hx6
   have z1 := hB6.av 1 rfl
   have f1 := hB6.free 1
   have hB7 := hB6.set 1 (.slice b6 f.params.length c6)
   have k7 : Keep (fun q => q = wr.heap.size) w6 (w6.setCell ⟨wr.heap.size, 1, none⟩ (.slice b6 f.params.length c6)) := Keep.set (X := fun q => q = wr.heap.size) (Keep.refl _ _) rfl _
   simp only [qS0, qS1, qS2, qA0, qA1, qA2] at z1 hB7
   have hx7 : Ext wr (w6.setCell ⟨wr.heap.size, 1, none⟩ (.slice b6 f.params.length c6)) := Keep.new (Hx5.out.trans hx6) k7 fun q e => Nat.le_of_eq e.symm
   have HO7 := hid (HO.out.ext hx7)
   have HT7 := hid ((IntsT.of_row hr6).keep k7 fun q e => by subst e; exact notInt hB6 (by decide))
   have y0 := hB7.av 0 rfl
   have y1 := hB7.av 1 rfl
   have y2 := hB7.av 2 rfl
   have q1 := HO7.out.blk.av 1 rfl
   simp only [qA0, qA1, qA2] at y0 y1 y2 q1
   have Hx7 := hid hx7
   have Hn8 : Hid (n1 ≤ ((w6.setCell ⟨wr.heap.size, 1, none⟩ (.slice b6 f.params.length c6)).alloc (.cells #[.string f.name, .slice b6 f.params.length c6, .int .i64 f.ret] 78)).heap.size) := hid (Nat.le_trans (Nat.le_of_lt HO7.out.blk.lt) ((Ext.refl _).alloc _).size)
   have Hkl : Hid (k ≤ 1000000) := hid (by omega)
   have HRo : Hid ((w6.setCell ⟨wr.heap.size, 1, none⟩ (.slice b6 f.params.length c6)).ownsRow n1 78 3 (.slice fa k fc) k (fs.flatMap F2.cells)) := hid (by have := HO7.out.funs; rwa [Hfl.out] at this)
   clear HN hx6 hr6 hB6 hB7 k7 hx7
   go_wp2_with (at_builtin; refine wpList_append_el n1 Hn8.out 23 78 (.agg #[.string ⟨#[]⟩, .slice none 0 0, .int .i64 0]) 3 48 Tryz.underlying23 fun_info rfl (by omega) (by omega) rfl _ _ rfl (.slice fa k fc) k (fs.flatMap F2.cells) rfl (own_ext HRo.out ((Ext.refl _).alloc _)) w6.heap.size (F2.cells ⟨f, .slice b6 f.params.length c6⟩) rfl (by simp [F2.cells, Value.oneCell']) rfl (Blk.new_setU _ _ _ _ _) Hkl.out ?_; intro v9 w9 ho9 hk9 hl9; obtain ⟨a9, c9, rfl⟩ := row_form ho9; have HO8 := hid (HO7.out.ext ((Ext.refl _).alloc (.cells #[.string f.name, .slice b6 f.params.length c6, .int .i64 f.ret] 78))); have HT8 := hid (HT7.out.ext ((Ext.refl _).alloc (.cells #[.string f.name, .slice b6 f.params.length c6, .int .i64 f.ret] 78))); have Hk9 := hid hk9; have Ho9 := hid ho9; have hb9 := HO8.out.blk.keep hk9 (fun e => by obtain ⟨c, hc⟩ := own_ty HO8.out.funs e; exact Blk.ty_ne hc HO8.out.blk (by decide) rfl); have s1 := hb9.av 1 rfl; have t1 := hb9.free 1; clear ho9 hk9 hb9)
   have HO10 := hid (HO8.out.fun ⟨f, .slice b6 f.params.length c6⟩ HT8.out (by rw [Hfl.out]; exact Ho9.out) Hk9.out rfl)
   have HO11 : Hid (Old n1 W4 (w9.setCell ⟨n1, 1, none⟩ (.slice a9 (k + 1) c9))) := hid (by
    refine Hw.out.trans (((Hx7.out.trans ((Ext.refl _).alloc _)).old n1).trans ((Hk9.out.mono fun q _ e => (World.ownsRow.lt HO8.out.funs q e).1).trans ?_))
    exact Keep.set (X := fun q => n1 ≤ q) (Keep.refl _ _) (Nat.le_refl _) _)
   go_roundw
   case rel => exact ⟨k + 1, _, _, by go_num, by omega, HO10.out, Hnx.out _, HO11.out⟩
   case measure => simp [intOf]; omega
  ·obtain rfl : k = P.funs.length := by omega
   rw [List.take_of_length_le (Nat.le_refl _)] at Hm
   have Hmf := Hm
   have HOf := HO
   have Hwf := Hw
   clear Hm HO Hw HBr Hww HBp
   go_wp2
   clear p0 p1 p2
   rename World => w7
   go_loopw [7] (fun t7 wr => ∃ (k : Nat) (sv : Value) (ss : List S2), t7 = .int .i64 (k : Int) ∧ k ≤ P.stmts.length ∧ OwnP wr n1 (.slice va P.vars.length vc) fv sv P fs ss ∧ ss.map S2.s = P.stmts.take k ∧ Old n1 W4 wr) (fun t7 _ => P.stmts.length - (intOf t7).toNat)
   case atStart => exact ⟨0, _, [], rfl, Nat.zero_le _, HOf.out, rfl, Hwf.out⟩
   case round =>
    clear HOf Hwf
    obtain ⟨k, sv, ss, rfl, hk, hO, hm, hw⟩ := hrel
    have HO := hid hO
    have Hm := hid hm
    have Hw := hid hw
    have Hww : Hid (Old w.heap.size w wr) := hid ((HW4.out.old _).trans (hw.mono fun q _ e => by have := Hn1.out; omega))
    have HBp : Hid (Blk wr w.heap.size (pcells a1 a2 a3 c1 c2 c3 P) 26) := hid (HB14.out.keep hw fun e => by have := Hn1.out; omega)
    have HBr : Hid (Blk wr (w.heap.size + 1) #[.slice none 0 0, .slice none 0 0, .slice none 0 0] 26) := hid (HB24.out.keep hw fun e => by have := Hn1.out; omega)
    have p0 := HBp.out.av 0 rfl
    have p1 := HBp.out.av 1 rfl
    have p2 := HBp.out.av 2 rfl
    simp only [pcells, qA0, qA1, qA2] at p0 p1 p2
    clear hO hm hw
    by_cases hlt : k < P.stmts.length
    ·obtain ⟨y, f, av, cv, rfl, hq, e0, e1, e2, e3, hI⟩ := (HP.out.old Hww.out).stmts.at hlt
     have hfl : ss.length = k := by
      have := congrArg List.length Hm.out
      rw [List.length_map, List.length_take] at this
      omega
     obtain ⟨fa, fc, hfv⟩ := row_form HO.out.stmts
     rw [hfl] at hfv
     subst hfv
     obtain ⟨W5, hW5⟩ : ∃ W5, W5 = wr.alloc (.cells #[.string f.kind, .int .i64 f.x, .int .i64 f.y, .slice av f.args.length cv] 76) := ⟨_, rfl⟩
     have hx5 : Ext wr W5 := by rw [hW5]; exact (Ext.refl _).alloc _
     have HB5 : Hid (Blk W5 wr.heap.size #[.string f.kind, .int .i64 f.x, .int .i64 f.y, .slice av f.args.length cv] 76) := hid (by rw [hW5]; exact Blk.new _ _ _)
     have hfs := Hs.out.ss f (List.mem_of_getElem? hq)
     have HN := hid (ownintsR_any _ f.args W5 w.heap.size (hI.old (hx5.old _)) (by omega))
     have Hnx : Hid (∀ v, (ss ++ [(⟨f, v⟩ : S2)]).map S2.s = P.stmts.take (k + 1)) := hid fun v => by
      rw [List.map_append, Hm.out, List.take_add_one, hq]; rfl
     have Hx5 := hid hx5
     have HW5 := hid hW5
     have Hfl := hid hfl
     clear hq hI hfl hx5 hW5 hfs
     go_wp2_with fail
     rw [← HW5.out]
     refine HN.out.mono ?_
     intro e w6 hx
     obtain ⟨v6, rfl, hx6, hr6⟩ := hx
     obtain ⟨b6, c6, rfl⟩ := row_form hr6
     have hB6 := HB5.out.ext hx6
     have z1 := hB6.av 3 rfl
     have f1 := hB6.free 3
     have hB7 := hB6.set 3 (.slice b6 f.args.length c6)
     have k7 : Keep (fun q => q = wr.heap.size) w6 (w6.setCell ⟨wr.heap.size, 3, none⟩ (.slice b6 f.args.length c6)) := Keep.set (X := fun q => q = wr.heap.size) (Keep.refl _ _) rfl _
     simp only [qS0, qS1, qS2, qA0, qA1, qA2] at z1 hB7
     have hx7 : Ext wr (w6.setCell ⟨wr.heap.size, 3, none⟩ (.slice b6 f.args.length c6)) := Keep.new (Hx5.out.trans hx6) k7 fun q e => Nat.le_of_eq e.symm
     have HO7 := hid (HO.out.ext hx7)
     have HT7 := hid ((IntsT.of_row hr6).keep k7 fun q e => by subst e; exact notInt hB6 (by decide))
     have y0 := hB7.av 0 rfl
     have y1 := hB7.av 1 rfl
     have y2 := hB7.av 2 rfl
     have y3 := hB7.av 3 rfl
     have q1 := HO7.out.blk.av 2 rfl
     simp only [qA0, qA1, qA2] at y0 y1 y2 y3 q1
     have Hx7 := hid hx7
     have Hn8 : Hid (n1 ≤ ((w6.setCell ⟨wr.heap.size, 3, none⟩ (.slice b6 f.args.length c6)).alloc (.cells #[.string f.kind, .int .i64 f.x, .int .i64 f.y, .slice b6 f.args.length c6] 76)).heap.size) := hid (Nat.le_trans (Nat.le_of_lt HO7.out.blk.lt) ((Ext.refl _).alloc _).size)
     have Hkl : Hid (k ≤ 1000000) := hid (by omega)
     have HRo : Hid ((w6.setCell ⟨wr.heap.size, 3, none⟩ (.slice b6 f.args.length c6)).ownsRow n1 76 4 (.slice fa k fc) k (ss.flatMap S2.cells)) := hid (by have := HO7.out.stmts; rwa [Hfl.out] at this)
     clear HN hx6 hr6 hB6 hB7 k7 hx7
     go_wp2_with (at_builtin; refine wpList_append_el n1 Hn8.out 24 76 (.agg #[.string ⟨#[]⟩, .int .i64 0, .int .i64 0, .slice none 0 0]) 4 56 Tryz.underlying24 stmt_info rfl (by omega) (by omega) rfl _ _ rfl (.slice fa k fc) k (ss.flatMap S2.cells) rfl (own_ext HRo.out ((Ext.refl _).alloc _)) w6.heap.size (S2.cells ⟨f, .slice b6 f.args.length c6⟩) rfl (by simp [S2.cells, Value.oneCell']) rfl (Blk.new_setU _ _ _ _ _) Hkl.out ?_; intro v9 w9 ho9 hk9 hl9; obtain ⟨a9, c9, rfl⟩ := row_form ho9; have HO8 := hid (HO7.out.ext ((Ext.refl _).alloc (.cells #[.string f.kind, .int .i64 f.x, .int .i64 f.y, .slice b6 f.args.length c6] 76))); have HT8 := hid (HT7.out.ext ((Ext.refl _).alloc (.cells #[.string f.kind, .int .i64 f.x, .int .i64 f.y, .slice b6 f.args.length c6] 76))); have Hk9 := hid hk9; have Ho9 := hid ho9; have hb9 := HO8.out.blk.keep hk9 (fun e => by obtain ⟨c, hc⟩ := own_ty HO8.out.stmts e; exact Blk.ty_ne hc HO8.out.blk (by decide) rfl); have s1 := hb9.av 2 rfl; have t1 := hb9.free 2; clear ho9 hk9 hb9)
     have HO10 := hid (HO8.out.stmt ⟨f, .slice b6 f.args.length c6⟩ HT8.out (by rw [Hfl.out]; exact Ho9.out) Hk9.out rfl)
     have HO11 : Hid (Old n1 W4 (w9.setCell ⟨n1, 2, none⟩ (.slice a9 (k + 1) c9))) := hid (by
      refine Hw.out.trans (((Hx7.out.trans ((Ext.refl _).alloc _)).old n1).trans ((Hk9.out.mono fun q _ e => (World.ownsRow.lt HO8.out.stmts q e).1).trans ?_))
      exact Keep.set (X := fun q => n1 ≤ q) (Keep.refl _ _) (Nat.le_refl _) _)
     go_roundw
     case rel => exact ⟨k + 1, _, _, by go_num, by omega, HO10.out, Hnx.out _, HO11.out⟩
     case measure => simp [intOf]; omega
    ·obtain rfl : k = P.stmts.length := by omega
     rw [List.take_of_length_le (Nat.le_refl _)] at Hm
     have hfl : fs.length = P.funs.length := by rw [← Hmf.out, List.length_map]
     have hsl : ss.length = P.stmts.length := by rw [← Hm.out, List.length_map]
     obtain ⟨fa, fc, hfv⟩ := row_form HO.out.funs
     obtain ⟨sa, sc, hsv⟩ := row_form HO.out.stmts
     rw [hfl] at hfv
     rw [hsl] at hsv
     subst hfv hsv
     have q0 := HO.out.blk.av 0 rfl
     have q1 := HO.out.blk.av 1 rfl
     have q2 := HO.out.blk.av 2 rfl
     have z0 := HBr.out.av 0 rfl
     have z1 := HBr.out.av 1 rfl
     have z2 := HBr.out.av 2 rfl
     have f0 := HBr.out.free 0
     have f1 := HBr.out.free 1
     have f2 := HBr.out.free 2
     simp only [qA0, qA1, qA2] at q0 q1 q2 z0 z1 z2
     have HBz := hid (store3 (v0 := .slice va P.vars.length vc) (v1 := .slice fa P.funs.length fc) (v2 := .slice sa P.stmts.length sc) HBr.out)
     have HKz := hid (store3_keep wr (w.heap.size + 1) (.slice va P.vars.length vc) (.slice fa P.funs.length fc) (.slice sa P.stmts.length sc))
     obtain ⟨W10, hW10⟩ : ∃ W10, W10 = (((wr.setCell ⟨w.heap.size + 1, 0, none⟩ (.slice va P.vars.length vc)).setCell ⟨w.heap.size + 1, 1, none⟩ (.slice fa P.funs.length fc)).setCell ⟨w.heap.size + 1, 2, none⟩ (.slice sa P.stmts.length sc)) := ⟨_, rfl⟩
     rw [← hW10] at HBz HKz
     have HW10 := hid hW10
     have Hfs := hid (And.intro hfl hsl)
     clear hfl hsl p0 p1 hW10
     go_wp2
     rw [← HW10.out]
     have c0 := HBz.out.av 0 rfl
     have c1' := HBz.out.av 1 rfl
     have c2' := HBz.out.av 2 rfl
     have hX := Keep.new (Ext.refl w) (Hww.out.trans (HKz.out.mono fun b _ e => by omega)) fun b hb => hb
     have hni : ∀ b, b = w.heap.size + 1 → ¬ IsInt wr b := fun b e => by subst e; exact notInt HBr.out (by decide)
     have hrk : ∀ {base : Nat} {e : TypeId} {size : Nat} {v : Value} {n : Nat} {xs : List Value}, wr.ownsRow base e size v n xs → e ≠ 26 → W10.ownsRow base e size v n xs := fun hr hne => row_keep hr HKz.out fun i hi e => by
      subst e
      obtain ⟨c, hc⟩ := own_ty hr hi
      exact Blk.ty_ne hc HBr.out hne rfl
     have hP' : ProgR W10 W10.heap.size (.slice va P.vars.length vc) (.slice fa P.funs.length fc) (.slice sa P.stmts.length sc) P :=
      ⟨StrsR.own (hrk HO.out.vars (by decide)) (Nat.le_refl _), FunsR.own (by have := hrk HO.out.funs (by decide); rw [Hfs.out.1]; rw [Hfs.out.1] at this; exact this) Hmf.out fun x hx => (HO.out.fi x hx).keep HKz.out hni, StmtsR.own (by have := hrk HO.out.stmts (by decide); rw [Hfs.out.2]; rw [Hfs.out.2] at this; exact this) Hm.out fun x hx => (HO.out.si x hx).keep HKz.out hni⟩
     exact bodyPost_ret (v := pval va fa sa vc fc sc P) (by simp [results, pval, Tryz.results11, go_sem, c0, c1', c2']) rfl ⟨hX, _, _, _, _, _, _, rfl, hP'⟩
def ranP : PP := ⟨[⟨#[97]⟩, ⟨#[98]⟩], [], [⟨⟨#[97, 100, 100, 114]⟩, 0, 1, []⟩, ⟨⟨#[115, 116, 111, 114, 101]⟩, 0, 0, []⟩]⟩
def ranS : Array Value := #[.string ⟨#[97, 100, 100, 114]⟩, .int .i64 0, .int .i64 1, .slice none 0 0, .string ⟨#[115, 116, 111, 114, 101]⟩, .int .i64 0, .int .i64 0, .slice none 0 0]
def PP.isNew (P : PP) (k : Nat) : Bool := match P.stmts[k]? with
 | some x => x.isK kNew
 | none => false
theorem PP.Runs.take {P : PP} {l : List Int} (h : P.Runs l) (k : Nat) : P.Runs (l.take k) :=
 ⟨h.1, h.2.1, by have := h.2.2.1; rw [List.length_take]; omega, fun x hx => h.2.2.2 x (List.mem_of_mem_take hx)⟩
theorem PP.Runs.lt {P : PP} {l : List Int} (h : P.Runs l) {q : Int} (hq : q ∈ l) : 0 ≤ q ∧ q < P.stmts.length := by
 have hb := h.2.2.2 q hq
 unfold PP.badk at hb
 simp at hb
 omega
theorem PP.Runs.stmts {P : PP} {l : List Int} (h : P.Runs l) : P.stmts.length ≤ 80 := by
 have h1 := h.1
 unfold PP.err1 at h1
 cases hb : P.big with
 | true => rw [hb] at h1; simp at h1
 | false => unfold PP.big at hb; simp at hb; omega
def newOf (P : PP) (l : List Int) : List Int := ((l.map Int.toNat).filter P.isNew).map Int.ofNat
def RunOut (P : PP) (l : List Int) (n0 : Nat) (w : World) (sv ev : Value) : Prop :=
 (P.Runs l ∧ ev = .nilIface ∧ ∃ a1 a2 a3 c1 c2 c3, sv = .agg #[.slice a1 (Rn.run P (l.map Int.toNat)).vars.length c1, .slice a2 (newOf P l).length c2, .slice a3 (newOf P l).length c3] ∧
  w.ownsRow n0 3 1 (.slice a3 (newOf P l).length c3) (newOf P l).length (icells (newOf P l))) ∨
 (¬ P.Runs l ∧ sv = zeroS ∧ ∃ t x, ev = .iface t (.pointer (some x)))
theorem RunOut.ext {P : PP} {l : List Int} {n0 : Nat} {w w' : World} {sv ev : Value} (h : RunOut P l n0 w sv ev) (x : Ext w w') : RunOut P l n0 w' sv ev := by
 rcases h with ⟨h1, h2, a1, a2, a3, c1, c2, c3, h3, h4⟩ | h
 ·exact .inl ⟨h1, h2, a1, a2, a3, c1, c2, c3, h3, own_ext h4 x⟩
 ·exact .inr h
theorem RunOut.low {P : PP} {l : List Int} {n0 n1 : Nat} {w : World} {sv ev : Value} (h : RunOut P l n0 w sv ev) (hn : n1 ≤ n0) : RunOut P l n1 w sv ev := by
 rcases h with ⟨h1, h2, a1, a2, a3, c1, c2, c3, h3, h4⟩ | h
 ·exact .inl ⟨h1, h2, a1, a2, a3, c1, c2, c3, h3, own_low h4 hn⟩
 ·exact .inr h
theorem RunOut.form {P : PP} {l : List Int} {n0 : Nat} {w : World} {sv ev : Value} (h : RunOut P l n0 w sv ev) : ∃ a1 n1 c1 a2 n2 c2 a3 n3 c3, sv = .agg #[.slice a1 n1 c1, .slice a2 n2 c2, .slice a3 n3 c3] := by
 rcases h with ⟨h1, h2, a1, a2, a3, c1, c2, c3, h3, h4⟩ | ⟨_, h, _⟩
 ·exact ⟨_, _, _, _, _, _, _, _, _, h3⟩
 ·exact ⟨_, _, _, _, _, _, _, _, _, h⟩
def PP.newsN (P : PP) (k : Nat) : Nat := ((List.range k).filter P.isNew).length
theorem PP.newsN_succ (P : PP) (k : Nat) : P.newsN (k + 1) = P.newsN k + if P.isNew k then 1 else 0 := by
 unfold PP.newsN
 rw [List.range_succ, List.filter_append, List.length_append]
 congr 1
 by_cases h : P.isNew k <;> simp [h]
theorem PP.newsN_le (P : PP) (k : Nat) : P.newsN k ≤ k := by
 unfold PP.newsN
 have := List.length_filter_le P.isNew (List.range k)
 simpa using this
def PP.nodesV (P : PP) : Nat := P.vars.length + P.newsN P.stmts.length
def PP.placeV (P : PP) (k : Int) : Int := if 0 ≤ k ∧ k < P.stmts.length ∧ P.isNew k.toNat = true then ((P.vars.length + P.newsN k.toNat : Nat) : Int) else -1
theorem isNew_at {P : PP} {k : Nat} {x : PS} (h : P.stmts[k]? = some x) : P.isNew k = x.isK kNew := by unfold PP.isNew; rw [h]
set_option maxRecDepth 100000 in
set_option maxHeartbeats 3200000 in
theorem rnodesof_any (a1 a2 a3 : Option Addr) (c1 c2 c3 : Nat) (P : PP) (w : World) (n0 : Nat) (h : ProgR w n0 (.slice a1 P.vars.length c1) (.slice a2 P.funs.length c2) (.slice a3 P.stmts.length c3) P) (hv : P.vars.length ≤ 1000) (hs : P.stmts.length ≤ 1000) :
  Calls Tryz.prog 45 #[pval a1 a2 a3 c1 c2 c3 P] w fun e w' => e = .returned (.int .i64 (P.nodesV : Int)) ∧ Ext w w' := by
 have HP0 := hid h
 have hml1 : (P.vars.length : Int) ≤ 1000 := by omega
 obtain ⟨W, hW⟩ : ∃ W, W = w.alloc (.cells (pcells a1 a2 a3 c1 c2 c3 P) 26) := ⟨_, rfl⟩
 have HX : Hid (Ext w W) := hid (by rw [hW]; exact (Ext.refl _).alloc _)
 have hB : Blk W w.heap.size (pcells a1 a2 a3 c1 c2 c3 P) 26 := by rw [hW]; exact Blk.new _ _ _
 have HP := hid (h.ext HX.out)
 have d0 := hB.av 0 rfl
 have d2 := hB.av 2 rfl
 simp only [pcells, qA0, qA1, qA2] at d0 d2
 unfold pcells at hW
 have HWe := hid hW
 unfold pval
 clear hW hB h
 go_enter Tryz.func45, Tryz.ntmps45
 go_wp2
 rw [← HWe.out]
 go_loop [3, 4] (fun tn ti => ∃ k : Nat, ti = .int .i64 (k : Int) ∧ k ≤ P.stmts.length ∧ tn = .int .i64 ((P.vars.length + P.newsN k : Nat) : Int)) (fun _ ti => P.stmts.length - (intOf ti).toNat)
 case atStart => exact ⟨0, rfl, Nat.zero_le _, rfl⟩
 case round =>
  obtain ⟨k, rfl, hk, rfl⟩ := hrel
  have Hle := hid (P.newsN_le k)
  have Hsu := hid (P.newsN_succ k)
  by_cases hlt : k < P.stmts.length
  ·obtain ⟨yk, x, av, cv, hyk, hxk, e0, e1, e2, e3, _⟩ := HP.out.stmts.at (show k < P.stmts.length by omega)
   first | subst hyk | (obtain rfl := Option.some.inj hyk)
   have hnw := isNew_at hxk
   have hcn : ((P.vars.length + P.newsN k : Nat) : Int) ≤ 100000 := by have := Hle.out; omega
   cases hb : (x.kind.toList == [110, 101, 119]) with
   | true =>
    have Hn2 := hid (show P.newsN (k + 1) = P.newsN k + 1 by rw [Hsu.out, hnw.trans hb]; rfl)
    clear hxk hnw
    generalize P.newsN k = m at *
    go_wp2
    refine ⟨⟨k + 1, by go_num, by omega, ?_⟩, by simp [intOf]; omega⟩
    rw [Hn2.out]
    go_num
   | false =>
    have Hn2 := hid (show P.newsN (k + 1) = P.newsN k by rw [Hsu.out, hnw.trans hb]; rfl)
    clear hxk hnw
    go_wp2
    refine ⟨⟨k + 1, by go_num, by omega, ?_⟩, by simp [intOf]; omega⟩
    rw [Hn2.out]
  ·obtain rfl : k = P.stmts.length := by omega
   go_wp2
   go_ret
   exact ⟨rfl, HX.out⟩
set_option maxRecDepth 100000 in
set_option maxHeartbeats 3200000 in
theorem rplaceof_any (a1 a2 a3 : Option Addr) (c1 c2 c3 : Nat) (P : PP) (p : Int) (w : World) (n0 : Nat) (h : ProgR w n0 (.slice a1 P.vars.length c1) (.slice a2 P.funs.length c2) (.slice a3 P.stmts.length c3) P) (hv : P.vars.length ≤ 1000) (hs : P.stmts.length ≤ 1000) :
  Calls Tryz.prog 113 #[pval a1 a2 a3 c1 c2 c3 P, .int .i64 p] w fun e w' => e = .returned (.int .i64 (P.placeV p)) ∧ Ext w w' := by
 have HP0 := hid h
 have hml1 : (P.vars.length : Int) ≤ 1000 := by omega
 obtain ⟨W, hW⟩ : ∃ W, W = w.alloc (.cells (pcells a1 a2 a3 c1 c2 c3 P) 26) := ⟨_, rfl⟩
 have HX : Hid (Ext w W) := hid (by rw [hW]; exact (Ext.refl _).alloc _)
 have hB : Blk W w.heap.size (pcells a1 a2 a3 c1 c2 c3 P) 26 := by rw [hW]; exact Blk.new _ _ _
 have HP := hid (h.ext HX.out)
 have d0 := hB.av 0 rfl
 have d2 := hB.av 2 rfl
 simp only [pcells, qA0, qA1, qA2] at d0 d2
 unfold pcells at hW
 have HWe := hid hW
 unfold pval
 clear hW hB h
 go_enter Tryz.func113, Tryz.ntmps113
 by_cases h1 : p < 0
 ·have Hr := hid (show P.placeV p = -1 by unfold PP.placeV; rw [if_neg (by omega)])
  go_wp2
  go_ret
  exact ⟨by rw [Hr.out]; rfl, (Ext.refl w).alloc _⟩
 ·obtain ⟨K, rfl⟩ := Int.eq_ofNat_of_zero_le (show 0 ≤ p by omega)
  by_cases h2 : K < P.stmts.length
  ·obtain ⟨y, x, av, cv, rfl, hxk, e0, e1, e2, e3, _⟩ := HP.out.stmts.at h2
   have hnw := isNew_at hxk
   cases hb : (x.kind.toList == [110, 101, 119]) with
   | true =>
    have Hr := hid (show P.placeV (K : Int) = ((P.vars.length + P.newsN K : Nat) : Int) by unfold PP.placeV; rw [if_pos ⟨by omega, by omega, by rw [Int.toNat_natCast]; exact hnw.trans hb⟩, Int.toNat_natCast])
    rw [Hr.out]
    rw [HWe.out] at e0
    clear hnw hxk e1 e2 e3
    go_wp2
    rw [← HWe.out]
    clear e0 hb
    go_loop [5, 6] (fun tn ti => ∃ k : Nat, ti = .int .i64 (k : Int) ∧ k ≤ K ∧ tn = .int .i64 ((P.vars.length + P.newsN k : Nat) : Int)) (fun _ ti => K - (intOf ti).toNat)
    case atStart => exact ⟨0, rfl, Nat.zero_le _, rfl⟩
    case round =>
     obtain ⟨k, rfl, hk, rfl⟩ := hrel
     have Hle := hid (P.newsN_le k)
     have Hsu := hid (P.newsN_succ k)
     by_cases hlt : k < K
     ·obtain ⟨yk, x, av, cv, hyk, hxk, e0, e1, e2, e3, _⟩ := HP.out.stmts.at (show k < P.stmts.length by omega)
      first | subst hyk | (obtain rfl := Option.some.inj hyk)
      have hnw := isNew_at hxk
      have hcn : ((P.vars.length + P.newsN k : Nat) : Int) ≤ 100000 := by have := Hle.out; omega
      cases hb : (x.kind.toList == [110, 101, 119]) with
      | true =>
       have Hn2 := hid (show P.newsN (k + 1) = P.newsN k + 1 by rw [Hsu.out, hnw.trans hb]; rfl)
       clear hxk hnw
       generalize P.newsN k = m at *
       go_wp2
       refine ⟨⟨k + 1, by go_num, by omega, ?_⟩, by simp [intOf]; omega⟩
       rw [Hn2.out]
       go_num
      | false =>
       have Hn2 := hid (show P.newsN (k + 1) = P.newsN k by rw [Hsu.out, hnw.trans hb]; rfl)
       clear hxk hnw
       go_wp2
       refine ⟨⟨k + 1, by go_num, by omega, ?_⟩, by simp [intOf]; omega⟩
       rw [Hn2.out]
     ·obtain rfl : k = K := by omega
      go_wp2
      go_ret
      exact ⟨rfl, HX.out⟩
   | false =>
    have Hr := hid (show P.placeV (K : Int) = -1 by unfold PP.placeV; rw [if_neg (by rw [Int.toNat_natCast, show P.isNew K = false from hnw.trans hb]; simp)])
    rw [HWe.out] at e0
    clear hnw hxk e1 e2 e3
    go_wp2
    go_ret
    exact ⟨by rw [Hr.out]; rfl, (Ext.refl w).alloc _⟩
  ·have Hr := hid (show P.placeV (K : Int) = -1 by unfold PP.placeV; rw [if_neg (by omega)])
   go_wp2
   go_ret
   exact ⟨by rw [Hr.out]; rfl, (Ext.refl w).alloc _⟩
set_option maxRecDepth 100000 in
set_option maxHeartbeats 3200000 in
theorem prognodes2_any (a1 a2 a3 : Option Addr) (c1 c2 c3 : Nat) (P : PP) (w : World) (n0 : Nat) (h : ProgR w n0 (.slice a1 P.vars.length c1) (.slice a2 P.funs.length c2) (.slice a3 P.stmts.length c3) P) (hv : P.vars.length ≤ 1000) (hs : P.stmts.length ≤ 1000) :
  Calls Tryz.prog 69 #[pval a1 a2 a3 c1 c2 c3 P] w fun e w' => e = .returned (.int .i64 (P.nodesV : Int)) ∧ Ext w w' := by
 have HP0 := hid h
 have hml1 : (P.vars.length : Int) ≤ 1000 := by omega
 obtain ⟨W, hW⟩ : ∃ W, W = w.alloc (.cells (pcells a1 a2 a3 c1 c2 c3 P) 26) := ⟨_, rfl⟩
 have HX : Hid (Ext w W) := hid (by rw [hW]; exact (Ext.refl _).alloc _)
 have hB : Blk W w.heap.size (pcells a1 a2 a3 c1 c2 c3 P) 26 := by rw [hW]; exact Blk.new _ _ _
 have HP := hid (h.ext HX.out)
 have d0 := hB.av 0 rfl
 have d2 := hB.av 2 rfl
 simp only [pcells, qA0, qA1, qA2] at d0 d2
 unfold pcells at hW
 have HWe := hid hW
 unfold pval
 clear hW hB h
 go_enter Tryz.func69, Tryz.ntmps69
 go_wp2
 rw [← HWe.out]
 go_loopw [3, 12] (fun tn ti wr => ∃ k : Nat, ti = .int .i64 (k : Int) ∧ k ≤ P.stmts.length ∧ tn = .int .i64 ((P.vars.length + P.newsN k : Nat) : Int) ∧ Ext W wr) (fun _ ti _ => P.stmts.length - (intOf ti).toNat)
 case atStart => exact ⟨0, rfl, Nat.zero_le _, rfl, Ext.refl _⟩
 case round =>
  obtain ⟨k, rfl, hk, rfl, hx⟩ := hrel
  have Hx := hid hx
  clear hx
  have Hle := hid (P.newsN_le k)
  have Hsu := hid (P.newsN_succ k)
  by_cases hlt : k < P.stmts.length
  ·obtain ⟨yk, x, av, cv, hyk, hxk, e0, e1, e2, e3, _⟩ := (HP0.out.ext ((HX).out.trans Hx.out)).stmts.at (show k < P.stmts.length by omega)
   first | subst hyk | (obtain rfl := Option.some.inj hyk)
   have hnw := isNew_at hxk
   have hcn : ((P.vars.length + P.newsN k : Nat) : Int) ≤ 100000 := by have := Hle.out; omega
   cases hb : (x.kind.toList == [110, 101, 119]) with
   | true =>
    have Hn2 := hid (show P.newsN (k + 1) = P.newsN k + 1 by rw [Hsu.out, hnw.trans hb]; rfl)
    clear hxk hnw
    generalize P.newsN k = m at *
    go_wp2
    go_roundw
    case rel => exact ⟨k + 1, by go_num, by omega, by rw [Hn2.out]; go_num, Hx.out.alloc _⟩
    case measure => simp [intOf]; omega
   | false =>
    have Hn2 := hid (show P.newsN (k + 1) = P.newsN k by rw [Hsu.out, hnw.trans hb]; rfl)
    clear hxk hnw
    go_wp2
    go_roundw
    case rel => exact ⟨k + 1, by go_num, by omega, by rw [Hn2.out], Hx.out.alloc _⟩
    case measure => simp [intOf]; omega
  ·obtain rfl : k = P.stmts.length := by omega
   go_wp2
   go_ret
   exact ⟨rfl, HX.out.trans Hx.out⟩
def PP.Well (P : PP) : Prop := P.err1 = 0 ∧ P.allWell
theorem PP.Well.few {P : PP} (h : P.Well) : P.vars.length ≤ 40 ∧ P.funs.length ≤ 6 ∧ P.stmts.length ≤ 80 := by
 have h1 := h.1
 unfold PP.err1 at h1
 cases hb : P.big with
 | true => rw [hb] at h1; simp at h1
 | false => unfold PP.big at hb; simp at hb; omega
theorem check_well {a1 a2 a3 : Option Addr} {c1 c2 c3 : Nat} {P : PP} {w : World} {n0 : Nat} {ad : Nat → Addr} (hE : ErrsP w ad) (h : ProgR w n0 (.slice a1 P.vars.length c1) (.slice a2 P.funs.length c2) (.slice a3 P.stmts.length c3) P)
  (hz1 : ∀ s ∈ P.vars, s.size ≤ 1000000) (hz2 : ∀ s ∈ P.names, s.size ≤ 1000000) (hw : P.Well) :
  Calls Tryz.prog 53 #[pval a1 a2 a3 c1 c2 c3 P] w fun e w' => e = .returned .nilIface ∧ Ext w w' := by
 have hml : (P.vars.length : Int) ≤ 9223372036854775807 := by have := hw.few; omega
 refine (pcheck_any a1 a2 a3 c1 c2 c3 P w n0 ad hE h hz1 hz2 hml).mono fun e w' ⟨v, he, hi, hx⟩ => ⟨?_, hx⟩
 rcases hi.form with ⟨rfl, _⟩ | ⟨_, hn⟩
 ·exact he
 ·exact absurd hw hn
set_option maxRecDepth 100000 in
set_option maxHeartbeats 3200000 in
theorem prognodes_any (a1 a2 a3 : Option Addr) (c1 c2 c3 : Nat) (P : PP) (w : World) (n0 : Nat) (ad : Nat → Addr) (hE : ErrsP w ad) (h : ProgR w n0 (.slice a1 P.vars.length c1) (.slice a2 P.funs.length c2) (.slice a3 P.stmts.length c3) P)
  (hz1 : ∀ s ∈ P.vars, s.size ≤ 1000000) (hz2 : ∀ s ∈ P.names, s.size ≤ 1000000) (hw : P.Well) :
  Calls Tryz.prog 49 #[pval a1 a2 a3 c1 c2 c3 P] w fun e w' => e = .returned (.int .i64 (P.nodesV : Int)) ∧ Ext w w' := by
 have HP00 := hid h
 have hv := hw.few
 obtain ⟨hv1, hv2, hv3⟩ := hv
 have hv : P.vars.length ≤ 1000 := by omega
 have hs : P.stmts.length ≤ 1000 := by omega
 have HP0 := hid h
 have hml1 : (P.vars.length : Int) ≤ 1000 := by omega
 obtain ⟨W, hW⟩ : ∃ W, W = w.alloc (.cells (pcells a1 a2 a3 c1 c2 c3 P) 26) := ⟨_, rfl⟩
 have HX : Hid (Ext w W) := hid (by rw [hW]; exact (Ext.refl _).alloc _)
 have hB : Blk W w.heap.size (pcells a1 a2 a3 c1 c2 c3 P) 26 := by rw [hW]; exact Blk.new _ _ _
 have HP := hid (h.ext HX.out)
 have d0 := hB.av 0 rfl
 have d2 := hB.av 2 rfl
 simp only [pcells, qA0, qA1, qA2] at d0 d2
 unfold pcells at hW
 have HWe := hid hW
 unfold pval
 clear hW hB h
 have HK := hid (check_well (hE.ext HX.out) HP.out hz1 hz2 hw)
 unfold pval at HK
 have HBx := hid (show Blk W w.heap.size (pcells a1 a2 a3 c1 c2 c3 P) 26 by rw [HWe.out]; exact Blk.new _ _ _)
 have HN := fun w1 (x : Ext w w1) => hid (prognodes2_any a1 a2 a3 c1 c2 c3 P w1 n0 (HP0.out.ext x) hv hs)
 unfold pval at HN
 clear d0 d2
 go_enter Tryz.func49, Tryz.ntmps49
 go_wp2_with fail
 rw [← HWe.out]
 refine HK.out.mono ?_
 intro e w1 hx
 obtain ⟨rfl, hx1⟩ := hx
 have HX1 := hid (HX.out.trans hx1)
 have d0 := (HBx.out.ext hx1).av 0 rfl
 have d1 := (HBx.out.ext hx1).av 1 rfl
 have d2 := (HBx.out.ext hx1).av 2 rfl
 simp only [pcells, qA0, qA1, qA2] at d0 d1 d2
 clear HK hx1
 go_wp2_with fail
 refine (HN w1 HX1.out).out.mono ?_
 intro e w2 hx
 obtain ⟨rfl, hx2⟩ := hx
 clear HN d0 d1 d2
 go_wp2
 go_ret
 exact ⟨rfl, HX1.out.trans hx2⟩
set_option maxRecDepth 100000 in
set_option maxHeartbeats 3200000 in
theorem progplace_any (a1 a2 a3 : Option Addr) (c1 c2 c3 : Nat) (P : PP) (p : Int) (w : World) (n0 : Nat) (ad : Nat → Addr) (hE : ErrsP w ad) (h : ProgR w n0 (.slice a1 P.vars.length c1) (.slice a2 P.funs.length c2) (.slice a3 P.stmts.length c3) P)
  (hz1 : ∀ s ∈ P.vars, s.size ≤ 1000000) (hz2 : ∀ s ∈ P.names, s.size ≤ 1000000) (hw : P.Well) :
  Calls Tryz.prog 114 #[pval a1 a2 a3 c1 c2 c3 P, .int .i64 p] w fun e w' => e = .returned (.int .i64 (P.placeV p)) ∧ Ext w w' := by
 have hc3 : P.stmts.length ≤ c3 := by
  obtain ⟨_, _, e, h2, _⟩ := h.stmts
  simp only [Value.slice.injEq] at e
  obtain ⟨_, _, rfl⟩ := e
  exact h2
 have HP00 := hid h
 have hv := hw.few
 obtain ⟨hv1, hv2, hv3⟩ := hv
 have hv : P.vars.length ≤ 1000 := by omega
 have hs : P.stmts.length ≤ 1000 := by omega
 have HP0 := hid h
 have hml1 : (P.vars.length : Int) ≤ 1000 := by omega
 obtain ⟨W, hW⟩ : ∃ W, W = w.alloc (.cells (pcells a1 a2 a3 c1 c2 c3 P) 26) := ⟨_, rfl⟩
 have HX : Hid (Ext w W) := hid (by rw [hW]; exact (Ext.refl _).alloc _)
 have hB : Blk W w.heap.size (pcells a1 a2 a3 c1 c2 c3 P) 26 := by rw [hW]; exact Blk.new _ _ _
 have HP := hid (h.ext HX.out)
 have d0 := hB.av 0 rfl
 have d2 := hB.av 2 rfl
 simp only [pcells, qA0, qA1, qA2] at d0 d2
 unfold pcells at hW
 have HWe := hid hW
 unfold pval
 clear hW hB h
 have HK := hid (check_well (hE.ext HX.out) HP.out hz1 hz2 hw)
 unfold pval at HK
 have HBx := hid (show Blk W w.heap.size (pcells a1 a2 a3 c1 c2 c3 P) 26 by rw [HWe.out]; exact Blk.new _ _ _)
 clear d0 d2
 go_enter Tryz.func114, Tryz.ntmps114
 go_wp2_with fail
 rw [← HWe.out]
 refine HK.out.mono ?_
 intro e w1 hx
 obtain ⟨rfl, hx1⟩ := hx
 have HX1 := hid (HX.out.trans hx1)
 have d0 := (HBx.out.ext hx1).av 0 rfl
 have d1 := (HBx.out.ext hx1).av 1 rfl
 have d2 := (HBx.out.ext hx1).av 2 rfl
 simp only [pcells, qA0, qA1, qA2] at d0 d1 d2
 clear HK hx1
 by_cases h1 : p < 0
 ·have Hr := hid (show PP.placeV P p = -1 by unfold PP.placeV; rw [if_neg (by omega)])
  go_wp2
  go_ret
  exact ⟨by rw [Hr.out]; rfl, HX1.out⟩
 ·obtain ⟨K, rfl⟩ := Int.eq_ofNat_of_zero_le (show 0 ≤ p by omega)
  by_cases h2 : K < P.stmts.length
  ·obtain ⟨y, x, av, cv, rfl, hxk, e0, e1, e2, e3, _⟩ := (HP0.out.ext HX1.out).stmts.at h2
   have hnw := isNew_at hxk
   have hKc : K ≤ c3 := by omega
   cases hb : (x.kind.toList == [110, 101, 119]) with
   | true =>
    have Hr := hid (show P.placeV (K : Int) = ((P.vars.length + P.newsN K : Nat) : Int) by unfold PP.placeV; rw [if_pos ⟨by omega, by omega, by rw [Int.toNat_natCast]; exact hnw.trans hb⟩, Int.toNat_natCast])
    clear hnw hxk e1 e2 e3
    go_wp2
    clear e0 hb
    go_loopw [5, 39] (fun tn ti wr => ∃ k : Nat, ti = .int .i64 (k : Int) ∧ k ≤ K ∧ tn = .int .i64 ((P.vars.length + P.newsN k : Nat) : Int) ∧ Ext w1 wr) (fun _ ti _ => K - (intOf ti).toNat)
    case atStart => exact ⟨0, rfl, Nat.zero_le _, rfl, Ext.refl _⟩
    case round =>
     obtain ⟨k, rfl, hk, rfl, hx⟩ := hrel
     have Hx := hid hx
     clear hx
     have Hle := hid (P.newsN_le k)
     have Hsu := hid (P.newsN_succ k)
     by_cases hlt : k < K
     ·obtain ⟨yk, x, av, cv, hyk, hxk, e0, e1, e2, e3, _⟩ := (HP0.out.ext ((HX1).out.trans Hx.out)).stmts.at (show k < P.stmts.length by omega)
      first | subst hyk | (obtain rfl := Option.some.inj hyk)
      have hnw := isNew_at hxk
      have hcn : ((P.vars.length + P.newsN k : Nat) : Int) ≤ 100000 := by have := Hle.out; omega
      cases hb : (x.kind.toList == [110, 101, 119]) with
      | true =>
       have Hn2 := hid (show P.newsN (k + 1) = P.newsN k + 1 by rw [Hsu.out, hnw.trans hb]; rfl)
       clear hxk hnw
       generalize P.newsN k = m at *
       go_wp2
       go_roundw
       case rel => exact ⟨k + 1, by go_num, by omega, by rw [Hn2.out]; go_num, Hx.out.alloc _⟩
       case measure => simp [intOf]; omega
      | false =>
       have Hn2 := hid (show P.newsN (k + 1) = P.newsN k by rw [Hsu.out, hnw.trans hb]; rfl)
       clear hxk hnw
       go_wp2
       go_roundw
       case rel => exact ⟨k + 1, by go_num, by omega, by rw [Hn2.out], Hx.out.alloc _⟩
       case measure => simp [intOf]; omega
     ·obtain rfl : k = K := by omega
      go_wp2
      go_ret
      exact ⟨by rw [Hr.out]; rfl, HX1.out.trans Hx.out⟩
   | false =>
    have hno : ¬ (0 ≤ (K : Int) ∧ (K : Int) < P.stmts.length ∧ P.isNew (K : Int).toNat = true) := by rw [Int.toNat_natCast, show P.isNew K = false from hnw.trans hb]; simp
    have Hno := hid hno
    clear hno hnw hxk e1 e2 e3
    have Hr := hid (show PP.placeV P (K : Int) = -1 by unfold PP.placeV; rw [if_neg (Hno.out)])
    go_wp2
    go_ret
    exact ⟨by rw [Hr.out]; rfl, HX1.out⟩
  ·have Hr := hid (show PP.placeV P (K : Int) = -1 by unfold PP.placeV; rw [if_neg (by omega)])
   go_wp2
   go_ret
   exact ⟨by rw [Hr.out]; rfl, HX1.out⟩
end Go.Proofs.YtngdpnlgnpdkcaaGreatDoor
namespace Go.Proofs.YtngdpnlgnpdkcaaGreatDoor
def InR (l : List Int) : Prop := ∀ x ∈ l, 0 ≤ x ∧ x < 1000
abbrev Srt (l : List Int) : Prop := l.Pairwise (· < ·)
def sset (l : List Int) : List Int := (((List.range 1000).filter fun n : Nat => decide ((n : Int) ∈ l)) : List Nat).map fun n : Nat => (n : Int)
def chkE (l : List Int) : Nat := if l.all (fun x => decide (0 ≤ x ∧ x < 1000)) then (if decide (Srt l) then 0 else 10) else 2
theorem Srt.tail {x : Int} {l : List Int} (h : Srt (x :: l)) : Srt l := (List.pairwise_cons.1 h).2
theorem Srt.head {x : Int} {l : List Int} (h : Srt (x :: l)) : ∀ y ∈ l, x < y := (List.pairwise_cons.1 h).1
theorem srt_uniq : ∀ {a b : List Int}, Srt a → Srt b → (∀ x, x ∈ a ↔ x ∈ b) → a = b
 | [], [], _, _, _ => rfl
 | [], y :: b, _, _, h => absurd ((h y).2 (List.mem_cons_self ..)) (List.not_mem_nil)
 | x :: a, [], _, _, h => absurd ((h x).1 (List.mem_cons_self ..)) (List.not_mem_nil)
 | x :: a, y :: b, ha, hb, h => by
  have hxy : x = y := by
   have h1 : x ∈ y :: b := (h x).1 (List.mem_cons_self ..)
   have h2 : y ∈ x :: a := (h y).2 (List.mem_cons_self ..)
   rcases List.mem_cons.1 h1 with e | e
   ·exact e
   ·rcases List.mem_cons.1 h2 with f | f
    ·exact f.symm
    ·have := hb.head x e; have := ha.head y f; omega
  subst hxy
  congr 1
  refine srt_uniq ha.tail hb.tail fun z => ⟨fun hz => ?_, fun hz => ?_⟩
  ·rcases List.mem_cons.1 ((h z).1 (List.mem_cons_of_mem _ hz)) with e | e
   ·have := ha.head z hz; omega
   ·exact e
  ·rcases List.mem_cons.1 ((h z).2 (List.mem_cons_of_mem _ hz)) with e | e
   ·have := hb.head z hz; omega
   ·exact e
theorem sset_srt (l : List Int) : Srt (sset l) := by
 unfold sset Srt
 rw [List.pairwise_map]
 refine List.Pairwise.imp (R := (· < ·)) (fun h => by omega) ?_
 exact List.Pairwise.sublist List.filter_sublist (List.pairwise_lt_range (n := 1000))
theorem mem_sset0 {l : List Int} {x : Int} : x ∈ sset l ↔ x ∈ l ∧ 0 ≤ x ∧ x < 1000 := by
 unfold sset
 rw [List.mem_map]
 constructor
 ·rintro ⟨n, hn, rfl⟩
  obtain ⟨h1, h2⟩ := List.mem_filter.1 hn
  have := List.mem_range.1 h1
  exact ⟨of_decide_eq_true h2, by omega, by omega⟩
 ·rintro ⟨h, h0, h1⟩
  refine ⟨x.toNat, List.mem_filter.2 ⟨List.mem_range.2 (by omega), ?_⟩, by omega⟩
  rw [Int.toNat_of_nonneg h0]
  exact decide_eq_true h
theorem mem_sset {l : List Int} (hl : InR l) {x : Int} : x ∈ sset l ↔ x ∈ l := ⟨fun h => (mem_sset0.1 h).1, fun h => mem_sset0.2 ⟨h, hl x h⟩⟩
theorem sset_in (l : List Int) : InR (sset l) := fun _ h => (mem_sset0.1 h).2
theorem InR.app {a b : List Int} (ha : InR a) (hb : InR b) : InR (a ++ b) := fun x h => (List.mem_append.1 h).elim (ha x) (hb x)
theorem InR.filter {a : List Int} (ha : InR a) (p : Int → Bool) : InR (a.filter p) := fun x h => ha x (List.mem_filter.1 h).1
theorem Srt.filter {a : List Int} (ha : Srt a) (p : Int → Bool) : Srt (a.filter p) := List.Pairwise.sublist List.filter_sublist ha
theorem sset_self {l : List Int} (h : Srt l) (hl : InR l) : sset l = l := srt_uniq (sset_srt l) h fun _ => mem_sset hl
theorem chkE_zero {l : List Int} : chkE l = 0 ↔ InR l ∧ Srt l := by
 unfold chkE
 by_cases h1 : l.all (fun x => decide (0 ≤ x ∧ x < 1000)) = true
 ·rw [if_pos h1]
  have hin : InR l := fun x hx => of_decide_eq_true (List.all_eq_true.1 h1 x hx)
  by_cases h2 : Srt l
  ·rw [decide_eq_true h2, if_pos rfl]; exact ⟨fun _ => ⟨hin, h2⟩, fun _ => rfl⟩
  ·rw [decide_eq_false h2, if_neg (by decide)]; exact ⟨fun h => absurd h (by decide), fun h => absurd h.2 h2⟩
 ·rw [if_neg h1]
  exact ⟨fun h => absurd h (by decide), fun h => absurd (List.all_eq_true.2 fun x hx => decide_eq_true (h.1 x hx)) h1⟩
theorem chkE_sset (l : List Int) : chkE (sset l) = 0 := chkE_zero.2 ⟨sset_in l, sset_srt l⟩
theorem srt_adj : ∀ {l : List Int}, (∀ k, k + 1 < l.length → l.getD k 0 < l.getD (k + 1) 0) → Srt l
 | [], _ => List.Pairwise.nil
 | [x], _ => List.pairwise_singleton _ _
 | x :: y :: l, h => by
  have ht : Srt (y :: l) := srt_adj fun k hk => by
   have := h (k + 1) (by simpa using hk)
   simpa using this
  have hxy : x < y := by simpa using h 0 (by simp)
  refine List.pairwise_cons.2 ⟨fun z hz => ?_, ht⟩
  rcases List.mem_cons.1 hz with rfl | hz
  ·exact hxy
  ·have := ht.head z hz; omega
theorem adj_srt {l : List Int} (h : Srt l) (k : Nat) (hk : k + 1 < l.length) : l.getD k 0 < l.getD (k + 1) 0 := by
 rw [List.getD_eq_getElem?_getD, List.getD_eq_getElem?_getD, List.getElem?_eq_getElem (by omega), List.getElem?_eq_getElem hk]
 exact List.pairwise_iff_getElem.1 h k (k + 1) (by omega) hk (by omega)
theorem chkE_two {l : List Int} {x : Int} (hx : x ∈ l) (h : ¬ (0 ≤ x ∧ x < 1000)) : chkE l = 2 := by
 unfold chkE
 rw [if_neg]
 intro ha
 exact h (of_decide_eq_true (List.all_eq_true.1 ha x hx))
theorem chkE_in {l : List Int} (h : InR l) : chkE l = if decide (Srt l) then 0 else 10 := by
 unfold chkE
 rw [if_pos (List.all_eq_true.2 fun x hx => decide_eq_true (h x hx))]
theorem chkE_ten {l : List Int} (h : InR l) {k : Nat} (hk : k + 1 < l.length) (hb : l.getD (k + 1) 0 ≤ l.getD k 0) : chkE l = 10 := by
 rw [chkE_in h, decide_eq_false (fun hs => by have := adj_srt hs k hk; omega)]; rfl
theorem chkE_ok {l : List Int} (h : InR l) (hk : ∀ k, k + 1 < l.length → l.getD k 0 < l.getD (k + 1) 0) : chkE l = 0 := chkE_zero.2 ⟨h, srt_adj hk⟩
theorem compact_upto (zs : List Int) (hz : zs.Pairwise (· ≤ ·)) : ∀ m, m ≤ zs.length → (∀ x, x ∈ Go.Lib.compactUpTo zs.toArray m ↔ x ∈ zs.take m) ∧ Srt (Go.Lib.compactUpTo zs.toArray m)
 | 0, _ => ⟨fun x => by simp [Go.Lib.compactUpTo], by simp [Go.Lib.compactUpTo]⟩
 | m + 1, hm => by
  obtain ⟨h1, h2⟩ := compact_upto zs hz m (by omega)
  have hg : zs.toArray[m]! = zs[m]'(by omega) := by simp [getElem!_pos, show m < zs.length by omega]
  have ht : zs.take (m + 1) = zs.take m ++ [zs[m]'(by omega)] := by rw [List.take_add_one, List.getElem?_eq_getElem (by omega)]; rfl
  rw [Go.Lib.compactUpTo_succ]
  by_cases hk : Go.Lib.keeps zs.toArray m = true
  ·rw [if_pos hk, hg, ht]
   refine ⟨fun x => by rw [List.mem_append, List.mem_append, h1], ?_⟩
   refine List.pairwise_append.2 ⟨h2, List.pairwise_singleton _ _, fun a ha b hb => ?_⟩
   obtain rfl := List.mem_singleton.1 hb
   have ha' := (h1 a).1 ha
   obtain ⟨i, hi, rfl⟩ := List.getElem_of_mem ha'
   rw [List.length_take] at hi
   rw [List.getElem_take]
   unfold Go.Lib.keeps at hk
   have hk' := of_decide_eq_true hk
   rcases hk' with e | e
   ·omega
   ·have hg2 : zs.toArray[m - 1]! = zs[m - 1]'(by omega) := by simp [getElem!_pos, show m - 1 < zs.length by omega]
    rw [hg, hg2] at e
    have p1 : zs[m - 1]'(by omega) ≤ zs[m]'(by omega) := List.pairwise_iff_getElem.1 hz (m - 1) m (by omega) (by omega) (by omega)
    have p2 : zs[i]'(by omega) ≤ zs[m - 1]'(by omega) := by
     rcases Nat.lt_or_ge i (m - 1) with h | h
     ·exact List.pairwise_iff_getElem.1 hz i (m - 1) (by omega) (by omega) h
     ·have : i = m - 1 := by omega
      subst this; exact Int.le_refl _
    omega
  ·rw [if_neg hk, List.append_nil]
   refine ⟨fun x => ?_, h2⟩
   rw [h1, ht, List.mem_append]
   refine ⟨.inl, fun h => h.elim id fun hx => ?_⟩
   obtain rfl := List.mem_singleton.1 hx
   unfold Go.Lib.keeps at hk
   have hk' : ¬ (m = 0 ∨ zs.toArray[m]! ≠ zs.toArray[m - 1]!) := fun h => hk (decide_eq_true h)
   have hg2 : zs.toArray[m - 1]! = zs[m - 1]'(by omega) := by simp [getElem!_pos, show m - 1 < zs.length by omega]
   have e : zs[m]'(by omega) = zs[m - 1]'(by omega) := by
    rcases Classical.em (zs[m]'(by omega) = zs[m - 1]'(by omega)) with e | e
    ·exact e
    ·exact absurd (.inr (by rw [hg, hg2]; exact e)) hk'
   have hm0 : m ≠ 0 := fun h => hk' (.inl h)
   rw [e]
   have : zs[m - 1]'(by omega) = (zs.take m)[m - 1]'(by rw [List.length_take]; omega) := by rw [List.getElem_take]
   rw [this]
   exact List.getElem_mem _
theorem sort_le (l : List Int) : (l.mergeSort fun x y => decide (x ≤ y)).Pairwise (· ≤ ·) := by
 have := List.pairwise_mergeSort (le := fun x y : Int => decide (x ≤ y)) (fun a b c h1 h2 => by simp at h1 h2 ⊢; omega) (fun a b => by simp; omega) l
 exact this.imp fun h => by simpa using h
theorem compact_sort {l : List Int} (hl : InR l) : Go.Lib.compact (l.mergeSort fun x y => decide (x ≤ y)) = sset l := by
 obtain ⟨h1, h2⟩ := compact_upto _ (sort_le l) _ (Nat.le_refl _)
 refine srt_uniq (by unfold Go.Lib.compact; exact h2) (sset_srt l) fun x => ?_
 have := h1 x
 unfold Go.Lib.compact
 rw [this, List.take_of_length_le (Nat.le_refl _), List.mem_mergeSort, mem_sset hl]
end Go.Proofs.YtngdpnlgnpdkcaaGreatDoor
namespace Go.Proofs.YtngdpnlgnpdkcaaGreatDoor
open Go Go.RowKit Go.Sort
theorem IRow.cur {base : Nat} {w : World} {g n cap : Nat} {l : List Int} (h : IRow base w (.slice (some ⟨g, 0, none⟩) n cap) l) : n = l.length ∧ base ≤ g ∧ l.length ≤ cap ∧ cap ≤ maxLen ∧ ∃ cur, Blk w g cur 3 ∧ cur.size = cap ∧ cur.toList.take l.length = icells l := by
 rcases h.2 with ⟨h1, _⟩ | ⟨g', cap', cur, h1, h2, h3, h4, h5, h6, h7⟩
 ·simp at h1
 ·simp only [Value.slice.injEq, Option.some.injEq, Addr.mk.injEq, and_true] at h1
  obtain ⟨rfl, rfl, rfl⟩ := h1
  exact ⟨rfl, h2, h4, h5, cur, h3, by omega, by simpa using h7⟩
theorem IRow.holds {base : Nat} {w : World} {g n cap : Nat} {l : List Int} (h : IRow base w (.slice (some ⟨g, 0, none⟩) n cap) l) : Holds (Value.int .i64) w g 0 l.toArray := by
 obtain ⟨rfl, _⟩ := h.cur
 intro j hj
 have hj' : j < l.length := by simpa using hj
 rw [Nat.zero_add]
 refine ⟨?_, own_free h j⟩
 rw [own_get h j (u := .int .i64 (l[j]'hj')) (by unfold icells; rw [List.getElem?_map, List.getElem?_eq_getElem hj']; rfl)]
 simp [getElem!_pos, hj']
theorem put_at {w : World} {g q : Nat} {cur : Array Value} {t : TypeId} {ys : List Int} {os : Array Obj} (hb : Blk w g cur t) :
  Blk (grow (putRow (Value.int .i64) (Sort.ahead w q) g 0 ys.toArray) os) g (putCells (Value.int .i64) 0 ys.toArray cur) t ∧ Keep (fun b => b = g) w (grow (putRow (Value.int .i64) (Sort.ahead w q) g 0 ys.toArray) os) := by
 have hlt := hb.lt
 have hh : ∀ k, k < w.heap.size → (grow (putRow (Value.int .i64) (Sort.ahead w q) g 0 ys.toArray) os).heap[k]? = (w.heap.modify g (onCells (putCells (Value.int .i64) 0 ys.toArray)))[k]? := fun k hk => by
  unfold grow putRow mapBlock Sort.ahead
  simp only
  rw [Array.getElem?_append_left (by simpa using hk)]
 constructor
 ·unfold Blk
  rw [hh g hlt, Array.getElem?_modify, if_pos rfl]
  have : w.heap[g]? = some (.cells cur t (0, 0)) := hb
  rw [this]
  rfl
 ·refine ⟨rfl, rfl, rfl, ?_, fun k hk hx => ?_⟩
  ·unfold grow putRow mapBlock Sort.ahead
   simp
  ·rw [hh k hk, Array.getElem?_modify, if_neg (fun e => hx e.symm)]
theorem put_cells (ys : List Int) (cur : Array Value) (k : Nat) (hk : k ≤ ys.length) (hc : ys.length ≤ cur.size) : (putCells (Value.int .i64) 0 ys.toArray cur).toList.take k = icells (ys.take k) := by
 apply List.ext_getElem?
 intro i
 rw [List.getElem?_take]
 unfold icells
 rw [List.getElem?_map, List.getElem?_take]
 by_cases hi : i < k
 ·rw [if_pos hi, if_pos hi, Array.getElem?_toList]
  unfold putCells
  rw [Array.getElem?_mapIdx, Array.getElem?_eq_getElem (by omega), List.getElem?_eq_getElem (by omega)]
  simp only [Option.map_some, Nat.zero_le, true_and, Nat.zero_add, List.size_toArray, Nat.sub_zero]
  rw [if_pos (by omega)]
  congr 1
  simp [getElem!_pos, show i < ys.length by omega]
 ·rw [if_neg hi, if_neg hi]; rfl
theorem IRow.put {base : Nat} {w : World} {g n cap q : Nat} {zs ys : List Int} {os : Array Obj} (h : IRow base w (.slice (some ⟨g, 0, none⟩) n cap) zs) (hy : ys.length = zs.length) (k : Nat) (hk : k ≤ ys.length) :
  IRow base (grow (putRow (Value.int .i64) (Sort.ahead w q) g 0 ys.toArray) os) (.slice (some ⟨g, 0, none⟩) k cap) (ys.take k) ∧ Keep (fun b => b = g) w (grow (putRow (Value.int .i64) (Sort.ahead w q) g 0 ys.toArray) os) := by
 obtain ⟨rfl, h1, h2, h3, cur, h4, h5, h6⟩ := h.cur
 obtain ⟨p1, p2⟩ := put_at (q := q) (ys := ys) (os := os) h4
 refine ⟨?_, p2⟩
 have hl : (ys.take k).length = k := by rw [List.length_take]; omega
 unfold IRow
 rw [hl]
 refine ⟨by simp [icells]; omega, .inr ⟨g, cap, _, rfl, h1, p1, by omega, h3, ?_, ?_⟩⟩
 ·unfold putCells
  rw [Array.size_mapIdx]; omega
 ·rw [Nat.mul_one]; exact put_cells ys cur k hk (by omega)
theorem IRow.case {base : Nat} {w : World} {v : Value} {l : List Int} (h : IRow base w v l) : (v = .slice none 0 0 ∧ l = []) ∨ ∃ g cap, v = .slice (some ⟨g, 0, none⟩) l.length cap := by
 rcases h.2 with ⟨h1, h2⟩ | ⟨g, cap, cur, h1, _⟩
 ·exact .inl ⟨h1, List.eq_nil_of_length_eq_zero h2⟩
 ·exact .inr ⟨g, cap, h1⟩
end Go.Proofs.YtngdpnlgnpdkcaaGreatDoor
namespace Go.Proofs.YtngdpnlgnpdkcaaGreatDoor
open Go Go.RowKit
structure ErrS (w : World) (ad : Nat → Addr) : Prop where
 at2 : w.cell? ⟨3, 0, none⟩ = some (evOf ad 2)
 at10 : w.cell? ⟨9, 0, none⟩ = some (evOf ad 10)
theorem ErrS.ext {w w' : World} {ad : Nat → Addr} (h : ErrS w ad) (x : Ext w w') : ErrS w' ad := ⟨x.cellx h.at2, x.cellx h.at10⟩
set_option maxRecDepth 100000 in
set_option maxHeartbeats 1600000 in
theorem setcheck_any (v : Value) (l : List Int) (w : World) (n0 : Nat) (ad : Nat → Addr) (hE : ErrS w ad) (h : IntsR w n0 v l) :
  Calls Tryz.prog 101 #[v] w fun e w' => e = .returned (errv (evOf ad) (chkE l)) ∧ Ext w w' := by
 have HI := hid h
 obtain ⟨a, cap, rfl, h2, h3, h4, h5⟩ := id h
 have HE := hid hE
 have H4 := hid h4
 have H5 := hid h5
 have g2 := hE.at2
 have g10 := hE.at10
 unfold evOf at g2 g10
 have hml : (l.length : Int) ≤ 9223372036854775807 := by omega
 clear h h2 h3 h4 h5 hE
 go_enter Tryz.func101, Tryz.ntmps101
 go_wp2
 go_loop [8] (fun t8 => ∃ k : Nat, t8 = .int .i64 (k : Int) ∧ k ≤ l.length ∧ ∀ j t, j < k → l[j]? = some t → 0 ≤ t ∧ t < 1000) (fun t8 => l.length - (intOf t8).toNat)
 case atStart => exact ⟨0, rfl, Nat.zero_le _, fun j t h => by omega⟩
 case round =>
  obtain ⟨k, rfl, hk, hp⟩ := hrel
  have Hp := hid hp
  clear hp
  by_cases hlt : k < l.length
  ·obtain ⟨y, rfl⟩ := H4.out (by omega)
   obtain ⟨q, hq⟩ : ∃ q, l[k]? = some q := ⟨_, List.getElem?_eq_getElem hlt⟩
   have hc := (H5.out y rfl (by omega)).2 k hlt q hq
   have Hq := hid hq
   clear hq
   by_cases hq0 : q < 0
   ·have Hr := hid (chkE_two (List.mem_of_getElem? Hq.out) (by omega))
    go_wp2
    go_ret
    exact ⟨by rw [Hr.out]; rfl, Ext.refl _⟩
   ·by_cases hq1 : 1000 ≤ q
    ·have Hr := hid (chkE_two (List.mem_of_getElem? Hq.out) (by omega))
     go_wp2
     go_ret
     exact ⟨by rw [Hr.out]; rfl, Ext.refl _⟩
    ·have Hb : Hid (0 ≤ q ∧ q < 1000) := hid (by omega)
     go_wp2
     refine ⟨⟨k + 1, by go_num, by omega, fun j t hj ht => ?_⟩, by simp [intOf]; omega⟩
     by_cases hjk : j = k
     ·subst hjk
      obtain rfl := Option.some.inj (Hq.out.symm.trans ht)
      exact Hb.out
     ·exact Hp.out j t (by omega) ht
  ·obtain rfl : k = l.length := by omega
   have Hin : Hid (InR l) := hid fun t ht => by
    obtain ⟨j, hj, e⟩ := List.mem_iff_getElem.1 ht
    exact Hp.out j t hj (by rw [List.getElem?_eq_getElem hj, e])
   go_wp2
   go_loopw [5] (fun t5 wr => ∃ i : Nat, t5 = .int .i64 ((i : Int) + 1) ∧ i ≤ l.length ∧ (∀ j, j < i → j + 1 < l.length → l.getD j 0 < l.getD (j + 1) 0) ∧ Ext w wr) (fun t5 _ => l.length + 1 - (intOf t5).toNat)
   case atStart => exact ⟨0, rfl, Nat.zero_le _, fun j hj => by omega, Ext.refl _⟩
   case round =>
    obtain ⟨i, rfl, hi, hp, hx⟩ := hrel
    have Hs := hid hp
    have Hx := hid hx
    clear hp hx
    by_cases hlt : i + 1 < l.length
    ·obtain ⟨y, rfl⟩ := H4.out (by omega)
     obtain ⟨p, hp⟩ : ∃ p, l[i]? = some p := ⟨_, List.getElem?_eq_getElem (by omega)⟩
     obtain ⟨q, hq⟩ : ∃ q, l[i + 1]? = some q := ⟨_, List.getElem?_eq_getElem hlt⟩
     have hcp := (H5.out y rfl (by omega)).2 i (by omega) p hp
     have hcq := (H5.out y rfl (by omega)).2 (i + 1) hlt q hq
     rw [add_posU y (i + 1) (by omega)] at hcq
     have c0 : ∀ w1, Keep (fun _ => False) wr w1 → w1.cell? (y.add i) = some (.int .i64 p) := fun w1 k => (Hx.out.trans k.ext).cellx hcp
     have c1 : ∀ w1, Keep (fun _ => False) wr w1 → w1.cell? ⟨y.block, y.off + (i + 1), none⟩ = some (.int .i64 q) := fun w1 k => (Hx.out.trans k.ext).cellx hcq
     have Hp : Hid (l.getD i 0 = p) := hid (by rw [List.getD_eq_getElem?_getD, hp]; rfl)
     have Hq : Hid (l.getD (i + 1) 0 = q) := hid (by rw [List.getD_eq_getElem?_getD, hq]; rfl)
     have gx10 := Hx.out.cellx g10
     clear hp hq hcp hcq
     by_cases hpq : q ≤ p
     ·have Hr := hid (chkE_ten Hin.out hlt (by rw [Hp.out, Hq.out]; exact hpq))
      go_wp2
      refine wp_flowT (fun _ => False) (by kernel_rfl) (by kernel_rfl) ?_
      repeat (apply FlowT.d; (intro w1 hk; unfold does; go_simp; (try go_ints); (first | exact DetR.mk | (simp only [↓IntWalk.iteOmega, Oper.doesUpon_value]; exact DetR.mk) | (simp only [↓IntWalk.iteOmega]; go_simp; (try go_ints); exact DetR.mk))); simp only [Act.put, qS0, qS1, qS2])
      refine FlowT.fin fun w1 hx1 hk1 => ?_
      have gy10 := hx1.cellx gx10
      have Hx1 := hid (Hx.out.trans hx1)
      clear hx1 hk1 c0 c1 gx10
      go_wp2
      go_ret
      exact ⟨by rw [Hr.out]; rfl, Hx1.out⟩
     ·have Hlt : Hid (l.getD i 0 < l.getD (i + 1) 0) := hid (by rw [Hp.out, Hq.out]; omega)
      go_wp2
      refine wp_flowT (fun _ => False) (by kernel_rfl) (by kernel_rfl) ?_
      repeat (apply FlowT.d; (intro w1 hk; unfold does; go_simp; (try go_ints); (first | exact DetR.mk | (simp only [↓IntWalk.iteOmega, Oper.doesUpon_value]; exact DetR.mk) | (simp only [↓IntWalk.iteOmega]; go_simp; (try go_ints); exact DetR.mk))); simp only [Act.put, qS0, qS1, qS2])
      refine FlowT.fin fun w1 hx1 hk1 => ?_
      have Hx1 := hid (Hx.out.trans hx1)
      clear hx1 hk1 c0 c1 gx10
      go_wp2
      go_roundw
      case rel =>
       refine ⟨i + 1, by go_num, by omega, fun j hj hjl => ?_, Hx1.out⟩
       by_cases hji : j = i
       ·subst hji; exact Hlt.out
       ·exact Hs.out j (by omega) hjl
      case measure => simp [intOf]; omega
    ·have Hr := hid (chkE_ok Hin.out fun j hj => Hs.out j (by omega) hj)
     go_wp2
     go_ret
     exact ⟨by rw [Hr.out]; rfl, Hx.out⟩
def bothE (a b : List Int) : Nat := if chkE a = 0 then chkE b else chkE a
set_option maxRecDepth 100000 in
set_option maxHeartbeats 800000 in
theorem setboth_any (va vb : Value) (a b : List Int) (w : World) (n0 : Nat) (ad : Nat → Addr) (hE : ErrS w ad) (ha : IntsR w n0 va a) (hb : IntsR w n0 vb b) :
  Calls Tryz.prog 161 #[va, vb] w fun e w' => e = .returned (errv (evOf ad) (bothE a b)) ∧ Ext w w' := by
 have HA := hid (setcheck_any va a w n0 ad hE ha)
 have HB := fun w1 (x : Ext w w1) => hid (setcheck_any vb b w1 n0 ad (hE.ext x) (hb.old (x.old n0)))
 obtain ⟨aa, ca, rfl, _⟩ := ha
 obtain ⟨ab, cb, rfl, _⟩ := hb
 clear hE
 by_cases h0 : chkE a = 0
 ·have Hr := hid (show bothE a b = chkE b by unfold bothE; rw [if_pos h0])
  rw [h0] at HA
  unfold errv at HA
  rw [if_pos rfl] at HA
  clear h0
  go_enter Tryz.func161, Tryz.ntmps161
  go_wp2_with fail
  refine HA.out.mono ?_
  intro e w1 hx
  obtain ⟨rfl, hx1⟩ := hx
  have HB1 := HB w1 hx1
  have Hx1 := hid hx1
  clear HA HB hx1
  go_wp2_with fail
  refine HB1.out.mono ?_
  intro e w2 hx
  obtain ⟨rfl, hx2⟩ := hx
  have Hx2 := hid (Hx1.out.trans hx2)
  clear HB1 hx2
  generalize hev : errv (evOf ad) (chkE b) = ev
  have Hev := hid hev
  clear hev
  go_wp2
  go_ret
  exact ⟨by rw [Hr.out, Hev.out]; rfl, Hx2.out⟩
 ·have Hr := hid (show errv (evOf ad) (bothE a b) = evOf ad (chkE a) by unfold bothE errv; rw [if_neg h0, if_neg h0])
  unfold errv evOf at HA
  rw [if_neg h0] at HA
  clear h0
  go_enter Tryz.func161, Tryz.ntmps161
  go_wp2_with fail
  refine HA.out.mono ?_
  intro e w1 hx
  obtain ⟨rfl, hx1⟩ := hx
  have Hx1 := hid hx1
  clear HA HB hx1
  go_wp2
  go_ret
  exact ⟨by rw [Hr.out]; rfl, Hx1.out⟩
end Go.Proofs.YtngdpnlgnpdkcaaGreatDoor
namespace Go.Proofs.YtngdpnlgnpdkcaaGreatDoor
open Go Go.ChangeShapes Go.WideShapes Go.ChangeAt Go.WideMaps Go.WideElems Go.RowKit Go.Joins Go.Deep
section
variable {H : Type} {enc : TypeId × Value → H} {P : Program} {w : World} {base : Nat} {spare : Nat → Bool} {held : Bool}
set_option maxRecDepth 100000 in
theorem open_agg3 {r : Reach} {b0 : Nat} {t : TypeId} {f0 f1 f2 : Field} {v : Value} {d : DataW H} {p : List MemPlace} (hs : P.underlying t = some (.struct #[f0, f1, f2])) (hone : oneCellFields P #[f0, f1, f2] = true) (hC : P.cellsOf t = 3)
  (hv : Value.okWide P w r b0 t v) (h : DataW.Trod enc P w base spare held t v d p) :
  ∃ (v0 v1 v2 : Value) (y0 y1 y2 : DataW H × List MemPlace) (n : Nat), v = .agg #[v0, v1, v2] ∧
   DataW.trod enc P w base spare held n f0.type [v0] = some y0 ∧ DataW.trod enc P w base spare held n f1.type [v1] = some y1 ∧ DataW.trod enc P w base spare held n f2.type [v2] = some y2 := by
 obtain ⟨cs, rfl, hsz⟩ := okWide_struct hs hv
 obtain ⟨l⟩ := cs
 match l, hsz.trans hC with
 | [c0, c1, c2], _ =>
  obtain ⟨fuel, hf⟩ := h
  obtain ⟨xs, n, _, hx, _, hlen, hg⟩ := DataW.trod_struct hs hf
  obtain ⟨o0, k0⟩ := hone_of hone 0 f0 rfl
  obtain ⟨o1, k1⟩ := hone_of hone 1 f1 rfl
  obtain ⟨o2, k2⟩ := hone_of hone 2 f2 rfl
  match xs, hlen with
  | [y0, y1, y2], _ =>
   exact ⟨c0, c1, c2, y0, y1, y2, n, rfl, by simpa [Value.cells, o0, k0] using hg 0 f0 rfl, by simpa [Value.cells, o1, k1] using hg 1 f1 rfl, by simpa [Value.cells, o2, k2] using hg 2 f2 rfl⟩
end
theorem cellsU_prog : Tryz.prog.cellsOf 26 = 3 := by kernel_rfl
theorem cellsU_fun : Tryz.prog.cellsOf 78 = 3 := by kernel_rfl
theorem cellsU_stmt : Tryz.prog.cellsOf 76 = 4 := by kernel_rfl
theorem cellsU_str : Tryz.prog.cellsOf 9 = 1 := by kernel_rfl
theorem cellsU_int : Tryz.prog.cellsOf 3 = 1 := by kernel_rfl
theorem cellsU_ints : Tryz.prog.cellsOf 43 = 1 := by kernel_rfl
theorem listU3 {α : Type} {l : List α} (h : l.length = 3) : ∃ c0 c1 c2, l = [c0, c1, c2] := by
 match l, h with
 | [c0, c1, c2], _ => exact ⟨c0, c1, c2, rfl⟩
theorem listU4 {α : Type} {l : List α} (h : l.length = 4) : ∃ c0 c1 c2 c3, l = [c0, c1, c2, c3] := by
 match l, h with
 | [c0, c1, c2, c3], _ => exact ⟨c0, c1, c2, c3, rfl⟩
section
variable {H : Type} {enc : TypeId × Value → H} {w : World} {base : Nat} {sp : Nat → Bool} {held : Bool} {n : Nat}
theorem add_addU (a : Addr) (i j : Nat) : (a.add i).add j = a.add (i + j) := Go.Deep.add_add a i j
theorem maxLen_eq : maxLen = 9223372036854775807 := by decide
theorem elR_of {α : Type} [Inhabited α] {t e : TypeId} {size : Nat} {v : Value} {x : DataW H × List MemPlace} (ht : Tryz.prog.underlying t = some (.slice e)) (hc : Tryz.prog.cellsOf e = size) (h0 : 0 < size) (E : Nat → Addr → α → Prop)
  (hE : ∀ (i m : Nat) (y : Addr) (cs : List Value) (z : DataW H × List MemPlace), (∀ j, j < size → w.cell? ((y.add (i * size)).add j) = cs[j]?) → cs.length = size → DataW.trod enc Tryz.prog w base sp held m e cs = some z → ∃ a, E i y a)
  (h : DataW.trod enc Tryz.prog w base sp held n t [v] = some x) : ∃ l : List α, ElR w.heap.size v l.length fun i y => ∀ a, l[i]? = some a → E i y a := by
 have hml := maxLen_eq
 rcases open_slice ht h with ⟨hcs, _⟩ | ⟨y, l, c, m, k, D, Pl, hcs, _, hl, hm, hmm, _, hx⟩
 ·simp only [List.cons.injEq, and_true] at hcs
  subst hcs
  exact ⟨[], none, 0, rfl, Nat.le_refl _, by decide, fun h => absurd h (by simp), fun y hy => by cases hy⟩
 simp only [List.cons.injEq, and_true] at hcs
 subst hcs
 have hlm : l ≤ m := by rw [hmm]; split <;> omega
 have each : ∀ i, i < l → ∃ a : α, E i y a ∧ y.block < w.heap.size := by
  intro i hi
  obtain ⟨cs', h1, h2⟩ := hx i (by omega)
  rw [hc] at h1
  obtain ⟨_, hlen, hcell⟩ := World.cells?_some h1
  obtain ⟨a, ha⟩ := hE i k y cs' _ (fun j hj => hcell j hj) hlen h2
  refine ⟨a, ha, ?_⟩
  have h3 := hcell 0 h0
  obtain ⟨u, hu⟩ : ∃ u, cs'[0]? = some u := ⟨_, List.getElem?_eq_getElem (by omega)⟩
  rw [hu] at h3
  have := cell_lt h3
  rwa [add_block, add_block] at this
 obtain ⟨Z, hZ⟩ := choose_lt each
 refine ⟨(List.range l).map Z, some y, c, by simp, by simpa using hl, by omega, fun _ => ⟨_, rfl⟩, fun y' hy hp => ?_⟩
 obtain rfl := Option.some.inj hy
 have hp' : 0 < l := by simpa using hp
 refine ⟨(hZ 0 hp').2, fun i hi a ha => ?_⟩
 have hi' : i < l := by simpa using hi
 rw [List.getElem?_map, List.getElem?_range hi'] at ha
 obtain rfl := Option.some.inj ha
 exact (hZ i hi').1
set_option maxRecDepth 100000 in
theorem intsR_of {v : Value} {x : DataW H × List MemPlace} (h : DataW.trod enc Tryz.prog w base sp held n 43 [v] = some x) : ∃ l, IntsR w w.heap.size v l := by
 refine elR_of (α := Int) Tryz.underlying43 cellsU_int (by decide) (fun i y s => w.cell? (y.add i) = some (.int .i64 s)) (fun i m y cs z hc hl ht => ?_) h
 obtain ⟨k, e, _, _⟩ := DataW.trod_int Tryz.underlying3 ht
 subst e
 refine ⟨k, ?_⟩
 have := hc 0 (by decide)
 simpa [add_addU, Addr.add] using this
set_option maxRecDepth 100000 in
theorem strsR_of {v : Value} {x : DataW H × List MemPlace} (h : DataW.trod enc Tryz.prog w base sp held n 22 [v] = some x) : ∃ l, StrsR w w.heap.size v l := by
 refine elR_of (α := ByteArray) Tryz.underlying22 cellsU_str (by decide) (fun i y s => w.cell? (y.add i) = some (.string s)) (fun i m y cs z hc hl ht => ?_) h
 obtain ⟨k, e, _, _⟩ := DataW.trod_string Tryz.underlying9 ht
 subst e
 refine ⟨k, ?_⟩
 have := hc 0 (by decide)
 simpa [add_addU, Addr.add] using this
set_option maxRecDepth 100000 in
theorem funsR_of {v : Value} {x : DataW H × List MemPlace} (h : DataW.trod enc Tryz.prog w base sp held n 23 [v] = some x) : ∃ l, FunsR w w.heap.size v l := by
 have inh : Inhabited PF := ⟨⟨⟨#[]⟩, [], 0⟩⟩
 refine elR_of (α := PF) Tryz.underlying23 cellsU_fun (by decide) (fun i y f => ∃ pv, w.cell? (y.add (i * 3)) = some (.string f.name) ∧ w.cell? ((y.add (i * 3)).add 1) = some pv ∧ w.cell? ((y.add (i * 3)).add 2) = some (.int .i64 f.ret) ∧ IntsR w w.heap.size pv f.params) (fun i m y cs z hc hl ht => ?_) h
 obtain ⟨c0, c1, c2, rfl⟩ := listU3 hl
 obtain ⟨xs, k, _, _, _, hxl, hf⟩ := DataW.trod_struct Tryz.underlying78 ht
 obtain ⟨y0, y1, y2, rfl⟩ := listU3 hxl
 have g0 : DataW.trod enc Tryz.prog w base sp held k 9 [c0] = some y0 := by simpa [cellsU_str] using hf 0 _ rfl
 have g1 : DataW.trod enc Tryz.prog w base sp held k 43 [c1] = some y1 := by simpa [cellsU_ints] using hf 1 _ rfl
 have g2 : DataW.trod enc Tryz.prog w base sp held k 3 [c2] = some y2 := by simpa [cellsU_int] using hf 2 _ rfl
 obtain ⟨s, e0, _, _⟩ := DataW.trod_string Tryz.underlying9 g0
 obtain ⟨ps, hp⟩ := intsR_of g1
 obtain ⟨r, e2, _, _⟩ := DataW.trod_int Tryz.underlying3 g2
 simp only [List.cons.injEq, and_true] at e0 e2
 subst e0 e2
 exact ⟨⟨s, ps, r⟩, c1, by simpa [Addr.add] using hc 0 (by decide), hc 1 (by decide), hc 2 (by decide), hp⟩
set_option maxRecDepth 100000 in
theorem stmtsR_of {v : Value} {x : DataW H × List MemPlace} (h : DataW.trod enc Tryz.prog w base sp held n 24 [v] = some x) : ∃ l, StmtsR w w.heap.size v l := by
 have inh : Inhabited PS := ⟨⟨⟨#[]⟩, 0, 0, []⟩⟩
 refine elR_of (α := PS) Tryz.underlying24 cellsU_stmt (by decide) (fun i y f => ∃ pv, w.cell? (y.add (i * 4)) = some (.string f.kind) ∧ w.cell? ((y.add (i * 4)).add 1) = some (.int .i64 f.x) ∧ w.cell? ((y.add (i * 4)).add 2) = some (.int .i64 f.y) ∧ w.cell? ((y.add (i * 4)).add 3) = some pv ∧ IntsR w w.heap.size pv f.args) (fun i m y cs z hc hl ht => ?_) h
 obtain ⟨c0, c1, c2, c3, rfl⟩ := listU4 hl
 obtain ⟨xs, k, _, _, _, hxl, hf⟩ := DataW.trod_struct Tryz.underlying76 ht
 obtain ⟨y0, y1, y2, y3, rfl⟩ := listU4 hxl
 have g0 : DataW.trod enc Tryz.prog w base sp held k 9 [c0] = some y0 := by simpa [cellsU_str] using hf 0 _ rfl
 have g1 : DataW.trod enc Tryz.prog w base sp held k 3 [c1] = some y1 := by simpa [cellsU_int] using hf 1 _ rfl
 have g2 : DataW.trod enc Tryz.prog w base sp held k 3 [c2] = some y2 := by simpa [cellsU_int] using hf 2 _ rfl
 have g3 : DataW.trod enc Tryz.prog w base sp held k 43 [c3] = some y3 := by simpa [cellsU_ints] using hf 3 _ rfl
 obtain ⟨s, e0, _, _⟩ := DataW.trod_string Tryz.underlying9 g0
 obtain ⟨a, e1, _, _⟩ := DataW.trod_int Tryz.underlying3 g1
 obtain ⟨b, e2, _, _⟩ := DataW.trod_int Tryz.underlying3 g2
 obtain ⟨ps, hp⟩ := intsR_of g3
 simp only [List.cons.injEq, and_true] at e0 e1 e2
 subst e0 e1 e2
 exact ⟨⟨s, a, b, ps⟩, c3, by simpa [Addr.add] using hc 0 (by decide), hc 1 (by decide), hc 2 (by decide), hc 3 (by decide), hp⟩
end
theorem StrsR.form {w : World} {n0 : Nat} {v : Value} {l : List ByteArray} (h : StrsR w n0 v l) : ∃ a c, v = .slice a l.length c := by
 obtain ⟨a, c, h, _⟩ := h
 exact ⟨a, c, h⟩
theorem FunsR.form {w : World} {n0 : Nat} {v : Value} {l : List PF} (h : FunsR w n0 v l) : ∃ a c, v = .slice a l.length c := by
 obtain ⟨a, c, h, _⟩ := h
 exact ⟨a, c, h⟩
theorem StmtsR.form {w : World} {n0 : Nat} {v : Value} {l : List PS} (h : StmtsR w n0 v l) : ∃ a c, v = .slice a l.length c := by
 obtain ⟨a, c, h, _⟩ := h
 exact ⟨a, c, h⟩
set_option maxRecDepth 100000 in
theorem prog_of {H : Type} {enc : TypeId × Value → H} {w : World} {base b0 : Nat} {sp : Nat → Bool} {held : Bool} {v : Value} {d : DataW H} {p : List MemPlace} (hv : Value.okWide Tryz.prog w .any b0 26 v) (h : DataW.Trod enc Tryz.prog w base sp held 26 v d p) :
  ∃ (a1 a2 a3 : Option Addr) (c1 c2 c3 : Nat) (P : PP), v = pval a1 a2 a3 c1 c2 c3 P ∧ ProgR w w.heap.size (.slice a1 P.vars.length c1) (.slice a2 P.funs.length c2) (.slice a3 P.stmts.length c3) P := by
 obtain ⟨v0, v1, v2, y0, y1, y2, n, rfl, h0, h1, h2⟩ := open_agg3 Tryz.underlying26 (by kernel_rfl) cellsU_prog hv h
 obtain ⟨vs, hvs⟩ := strsR_of h0
 obtain ⟨fs, hfs⟩ := funsR_of h1
 obtain ⟨ss, hss⟩ := stmtsR_of h2
 obtain ⟨a1, c1, rfl⟩ := hvs.form
 obtain ⟨a2, c2, rfl⟩ := hfs.form
 obtain ⟨a3, c3, rfl⟩ := hss.form
 exact ⟨a1, a2, a3, c1, c2, c3, ⟨vs, fs, ss⟩, rfl, hvs, hfs, hss⟩
end Go.Proofs.YtngdpnlgnpdkcaaGreatDoor
namespace Go.Proofs.YtngdpnlgnpdkcaaGreatDoor
open Go Go.RowKit
def SetsR (w : World) (n0 : Nat) (v : Value) (L : List (List Int)) : Prop := ElR n0 v L.length fun i y => ∀ l, L[i]? = some l → ∃ u, w.cell? (y.add i) = some u ∧ IntsR w n0 u l
theorem SetsR.old {w w' : World} {n0 : Nat} {v : Value} {L : List (List Int)} (h : SetsR w n0 v L) (k : Old n0 w w') : SetsR w' n0 v L :=
 ElR.mono h (Nat.le_refl _) fun i y _ hy hE l hl => by
  obtain ⟨u, h1, h2⟩ := hE l hl
  exact ⟨u, k.cellx h1 (by rw [add_block]; exact hy), h2.old k⟩
theorem SetsR.lift {w : World} {n0 n1 : Nat} {v : Value} {L : List (List Int)} (h : SetsR w n0 v L) (hn : n0 ≤ n1) : SetsR w n1 v L :=
 ElR.mono h hn fun i y _ _ hE l hl => by
  obtain ⟨u, h1, h2⟩ := hE l hl
  exact ⟨u, h1, ElR.lift h2 hn⟩
theorem SetsR.ext {w w' : World} {n0 : Nat} {v : Value} {L : List (List Int)} (h : SetsR w n0 v L) (x : Ext w w') : SetsR w' n0 v L := h.old (x.old _)
theorem SetsR.form {w : World} {n0 : Nat} {v : Value} {L : List (List Int)} (h : SetsR w n0 v L) : ∃ a c, v = .slice a L.length c := by
 obtain ⟨a, c, h, _⟩ := h
 exact ⟨a, c, h⟩
theorem SetsR.len {w : World} {n0 : Nat} {v : Value} {L : List (List Int)} (h : SetsR w n0 v L) : (L.length : Int) ≤ 9223372036854775807 := by
 obtain ⟨a, c, _, h2, h3, _⟩ := h
 omega
theorem SetsR.at {w : World} {n0 : Nat} {a : Option Addr} {n cap : Nat} {L : List (List Int)} (h : SetsR w n0 (.slice a n cap) L) {k : Nat} (hk : k < L.length) : ∃ y l b c, a = some y ∧ L[k]? = some l ∧ w.cell? (y.add k) = some (.slice b l.length c) ∧ IntsR w n0 (.slice b l.length c) l := by
 obtain ⟨a', cap', h1, h2, h3, h4, h5⟩ := h
 obtain ⟨rfl, rfl, rfl⟩ : a = a' ∧ n = L.length ∧ cap = cap' := by simpa using h1
 obtain ⟨y, rfl⟩ := h4 (by omega)
 obtain ⟨l, hl⟩ : ∃ l, L[k]? = some l := ⟨_, List.getElem?_eq_getElem hk⟩
 obtain ⟨u, e1, e2⟩ := (h5 y rfl (by omega)).2 k hk l hl
 obtain ⟨b, c, rfl, _⟩ := id e2
 exact ⟨y, l, b, c, rfl, hl, e1, e2⟩
theorem IntsR.len {w : World} {n0 : Nat} {v : Value} {l : List Int} (h : IntsR w n0 v l) : (l.length : Int) ≤ 9223372036854775807 := by
 obtain ⟨a, c, _, h2, h3, _⟩ := h
 omega
section
variable {H : Type} {enc : TypeId × Value → H} {w : World} {base : Nat} {sp : Nat → Bool} {held : Bool} {n : Nat}
end
def fewSets (L : List (List Int)) : Prop := L.length ≤ 50 ∧ ∀ l ∈ L, l.length ≤ 60
theorem rows_info : (Tryz.prog.info? 43).map (fun i => (i.zero, i.size, i.bytes)) = some (some (.slice none 0 0), 1, 24) := by kernel_rfl
def Made (w : World) (vs : List Value) (L : List (List Int)) : Prop := vs.length = L.length ∧ ∀ (i : Nat) v l, vs[i]? = some v → L[i]? = some l → IntsT w v l
theorem Made.keep {X : Nat → Prop} {w w' : World} {vs : List Value} {L : List (List Int)} (h : Made w vs L) (k : Keep X w w') (hX : ∀ b, X b → ¬ IsInt w b) : Made w' vs L :=
 ⟨h.1, fun i v l h1 h2 => (h.2 i v l h1 h2).keep k hX⟩
theorem Made.ext {w w' : World} {vs : List Value} {L : List (List Int)} (h : Made w vs L) (x : Ext w w') : Made w' vs L := ⟨h.1, fun i v l h1 h2 => (h.2 i v l h1 h2).ext x⟩
theorem Made.snoc {w : World} {vs : List Value} {L : List (List Int)} {v : Value} {l : List Int} (h : Made w vs L) (hv : IntsT w v l) : Made w (vs ++ [v]) (L ++ [l]) := by
 refine ⟨by simp [h.1], fun i u m h1 h2 => ?_⟩
 have hlen := h.1
 rcases Nat.lt_trichotomy i L.length with hi | hi | hi
 ·rw [List.getElem?_append_left (by omega)] at h1 h2
  exact h.2 i u m h1 h2
 ·subst hi
  rw [List.getElem?_append_right (by omega), show L.length - vs.length = 0 by omega] at h1
  rw [List.getElem?_append_right (Nat.le_refl _), Nat.sub_self] at h2
  obtain rfl := Option.some.inj h1
  obtain rfl := Option.some.inj h2
  exact hv
 ·rw [List.getElem?_eq_none (by simp; omega)] at h1
  cases h1
theorem SetsR.made {w : World} {base : Nat} {v : Value} {vs : List Value} {L : List (List Int)} (h : w.ownsRow base 43 1 v L.length vs) (hm : Made w vs L) : SetsR w w.heap.size v L := by
 rcases h.2 with ⟨rfl, h0⟩ | ⟨g, cap, cur, rfl, hb, hg, hn, hc, hcs, ht⟩
 ·unfold SetsR
  rw [h0]
  exact ⟨none, 0, rfl, Nat.le_refl _, by decide, fun h => absurd h (by omega), fun y hy => by cases hy⟩
 ·refine ⟨_, cap, rfl, hn, by unfold maxLen at hc; omega, fun _ => ⟨_, rfl⟩, fun y hy h0 => ?_⟩
  obtain rfl := Option.some.inj hy
  have hB : Blk w g cur 43 := hg
  refine ⟨hB.lt, fun i hi l hl => ?_⟩
  have hi2 : i < vs.length := by rw [hm.1]; exact hi
  obtain ⟨u, hu⟩ : ∃ u, vs[i]? = some u := ⟨_, List.getElem?_eq_getElem hi2⟩
  refine ⟨u, ?_, (hm.2 i u l hu hl).1⟩
  rw [show (⟨g, 0, none⟩ : Addr).add i = ⟨g, i, none⟩ from by by_cases h0 : i = 0 <;> simp [Addr.add, h0]]
  exact own_get h i hu
structure PW (w : World) (n0 : Nat) (ad : Nat → Addr) (a1 a2 a3 : Option Addr) (c1 c2 c3 : Nat) (P : PP) : Prop where
 errs : ErrsP w ad
 prog : ProgR w n0 (.slice a1 P.vars.length c1) (.slice a2 P.funs.length c2) (.slice a3 P.stmts.length c3) P
 z1 : ∀ s ∈ P.vars, s.size ≤ 1000000
 z2 : ∀ s ∈ P.names, s.size ≤ 1000000
 well : P.Well
theorem PW.ext {w w' : World} {n0 : Nat} {ad : Nat → Addr} {a1 a2 a3 : Option Addr} {c1 c2 c3 : Nat} {P : PP} (h : PW w n0 ad a1 a2 a3 c1 c2 c3 P) (x : Ext w w') : PW w' n0 ad a1 a2 a3 c1 c2 c3 P := ⟨h.errs.ext x, h.prog.ext x, h.z1, h.z2, h.well⟩
theorem PW.lift {w : World} {n0 n1 : Nat} {ad : Nat → Addr} {a1 a2 a3 : Option Addr} {c1 c2 c3 : Nat} {P : PP} (h : PW w n0 ad a1 a2 a3 c1 c2 c3 P) (hn : n0 ≤ n1) : PW w n1 ad a1 a2 a3 c1 c2 c3 P := ⟨h.errs, h.prog.lift hn, h.z1, h.z2, h.well⟩
def PP.objectsV (P : PP) : Nat := P.nodesV + P.funs.length
def PP.funV (P : PP) (o : Int) : Int := if 0 ≤ o - P.nodesV ∧ o - P.nodesV < P.funs.length then o - P.nodesV else -1
theorem PP.nodesV_le2 (P : PP) : P.nodesV ≤ P.vars.length + P.stmts.length := by
 unfold PP.nodesV
 have := P.newsN_le P.stmts.length
 omega
set_option maxRecDepth 100000 in
set_option maxHeartbeats 1600000 in
theorem progobjects_any (a1 a2 a3 : Option Addr) (c1 c2 c3 : Nat) (P : PP) (w : World) (n0 : Nat) (ad : Nat → Addr) (h : PW w n0 ad a1 a2 a3 c1 c2 c3 P) :
  Calls Tryz.prog 24 #[pval a1 a2 a3 c1 c2 c3 P] w fun e w' => e = .returned (.int .i64 (P.objectsV : Int)) ∧ Ext w w' := by
 have HM := fun w1 (x : Ext w w1) => hid (prognodes2_any a1 a2 a3 c1 c2 c3 P w1 n0 (h.prog.ext x) (by have := h.well.few; omega) (by have := h.well.few; omega))
 obtain ⟨W, hW⟩ : ∃ W, W = w.alloc (.cells (pcells a1 a2 a3 c1 c2 c3 P) 26) := ⟨_, rfl⟩
 have HX : Hid (Ext w W) := hid (by rw [hW]; exact (Ext.refl _).alloc _)
 have HBx : Hid (Blk W w.heap.size (pcells a1 a2 a3 c1 c2 c3 P) 26) := hid (by rw [hW]; exact Blk.new _ _ _)
 have HWe : Hid (W = w.alloc (.cells #[.slice a1 P.vars.length c1, .slice a2 P.funs.length c2, .slice a3 P.stmts.length c3] 26)) := hid (by rw [hW]; rfl)
 have HPW := hid h
 have HK := fun w1 (x : Ext w w1) => hid (check_well (h.errs.ext x) (h.prog.ext x) h.z1 h.z2 h.well)
 have HN := fun w1 (x : Ext w w1) => hid (prognodes_any a1 a2 a3 c1 c2 c3 P w1 n0 ad (h.errs.ext x) (h.prog.ext x) h.z1 h.z2 h.well)
 obtain ⟨hf1, hf2, hf3⟩ := h.well.few
 have hnl := P.nodesV_le2
 have d0 := HBx.out.av 0 rfl
 have d1 := HBx.out.av 1 rfl
 have d2 := HBx.out.av 2 rfl
 simp only [pcells, qA0, qA1, qA2] at d0 d1 d2
 unfold pval at HK HN ⊢
 clear hW h
 unfold pval at HM
 have Ho : Hid ((P.objectsV : Int) = (P.nodesV : Int) + (P.funs.length : Int)) := hid (by unfold PP.objectsV; omega)
 go_enter Tryz.func24, Tryz.ntmps24
 go_wp2_with fail
 rw [← HWe.out]
 have HK1 := HK W HX.out
 refine HK1.out.mono ?_
 intro e w1 hx
 obtain ⟨rfl, hx1⟩ := hx
 have e0 := (HBx.out.ext hx1).kc (X := fun _ => False) (fun e => e) 0 rfl
 have e1 := (HBx.out.ext hx1).kc (X := fun _ => False) (fun e => e) 1 rfl
 have e2 := (HBx.out.ext hx1).kc (X := fun _ => False) (fun e => e) 2 rfl
 simp only [pcells, qA0, qA1, qA2] at e0 e1 e2
 have Hx1 := hid (HX.out.trans hx1)
 clear HK HK1 HN hx1 d0 d1 d2
 generalize P.nodesV = N at *
 go_wp2
 refine wp_flowT (fun _ => False) (by kernel_rfl) (by kernel_rfl) ?_
 repeat (apply FlowT.d; (intro w1 hk; unfold does; go_simp; (try go_ints); (first | exact DetR.mk | (simp only [↓IntWalk.iteOmega, Oper.doesUpon_value]; exact DetR.mk) | (simp only [↓IntWalk.iteOmega]; go_simp; (try go_ints); exact DetR.mk))); simp only [Act.put, qS0, qS1, qS2])
 apply FlowT.d
 ·intro w1 hk
  unfold does
  go_simp
  exact CallR.det ((HM w1 (Hx1.out.trans hk.ext)).out)
 simp only [Act.put, qS0, qS1, qS2]
 repeat (apply FlowT.d; (intro w1 hk; unfold does; go_simp; (try go_ints); (first | exact DetR.mk | (simp only [↓IntWalk.iteOmega, Oper.doesUpon_value]; exact DetR.mk) | (simp only [↓IntWalk.iteOmega]; go_simp; (try go_ints); exact DetR.mk))); simp only [Act.put, qS0, qS1, qS2])
 refine FlowT.fin fun w2 hx2 hk2 => ?_
 have Hx2 := hid (Hx1.out.trans hx2)
 clear hx2 hk2 e0 e1 e2 HM
 go_wp2
 go_ret
 exact ⟨by rw [Ho.out]; rfl, Hx2.out⟩
set_option maxRecDepth 100000 in
set_option maxHeartbeats 1600000 in
theorem progfun_any (a1 a2 a3 : Option Addr) (c1 c2 c3 : Nat) (P : PP) (o : Int) (w : World) (n0 : Nat) (ad : Nat → Addr) (h : PW w n0 ad a1 a2 a3 c1 c2 c3 P) (ho : 0 ≤ o ∧ o < 1000) :
  Calls Tryz.prog 103 #[pval a1 a2 a3 c1 c2 c3 P, .int .i64 o] w fun e w' => e = .returned (.int .i64 (P.funV o)) ∧ Ext w w' := by
 obtain ⟨W, hW⟩ : ∃ W, W = w.alloc (.cells (pcells a1 a2 a3 c1 c2 c3 P) 26) := ⟨_, rfl⟩
 have HX : Hid (Ext w W) := hid (by rw [hW]; exact (Ext.refl _).alloc _)
 have HBx : Hid (Blk W w.heap.size (pcells a1 a2 a3 c1 c2 c3 P) 26) := hid (by rw [hW]; exact Blk.new _ _ _)
 have HWe : Hid (W = w.alloc (.cells #[.slice a1 P.vars.length c1, .slice a2 P.funs.length c2, .slice a3 P.stmts.length c3] 26)) := hid (by rw [hW]; rfl)
 have HPW := hid h
 have HK := fun w1 (x : Ext w w1) => hid (check_well (h.errs.ext x) (h.prog.ext x) h.z1 h.z2 h.well)
 have HN := fun w1 (x : Ext w w1) => hid (prognodes_any a1 a2 a3 c1 c2 c3 P w1 n0 ad (h.errs.ext x) (h.prog.ext x) h.z1 h.z2 h.well)
 obtain ⟨hf1, hf2, hf3⟩ := h.well.few
 have hnl := P.nodesV_le2
 have d0 := HBx.out.av 0 rfl
 have d1 := HBx.out.av 1 rfl
 have d2 := HBx.out.av 2 rfl
 simp only [pcells, qA0, qA1, qA2] at d0 d1 d2
 unfold pval at HK HN ⊢
 clear hW h
 obtain ⟨ho1, ho2⟩ := ho
 obtain ⟨N, hN⟩ : ∃ N, N = P.nodesV := ⟨_, rfl⟩
 have Hf : Hid (P.funV o = if 0 ≤ o - (N : Int) ∧ o - (N : Int) < P.funs.length then o - (N : Int) else -1) := hid (by unfold PP.funV; rw [hN])
 rw [← hN] at hnl HN
 clear hN
 go_enter Tryz.func103, Tryz.ntmps103
 go_wp2_with fail
 rw [← HWe.out]
 have HN1 := HN W HX.out
 refine HN1.out.mono ?_
 intro e w1 hx
 obtain ⟨rfl, hx1⟩ := hx
 have Hx1 := hid hx1
 clear d0 d1 d2
 have d0 := (HBx.out.ext Hx1.out).av 0 rfl
 have d1 := (HBx.out.ext Hx1.out).av 1 rfl
 have d2 := (HBx.out.ext Hx1.out).av 2 rfl
 simp only [pcells, qA0, qA1, qA2] at d0 d1 d2
 have HK1 := HK w1 (HX.out.trans hx1)
 clear HN HN1 HK hx1
 go_wp2_with fail
 refine HK1.out.mono ?_
 intro e w2 hx
 obtain ⟨rfl, hx2⟩ := hx
 have Hx2 := hid (Hx1.out.trans hx2)
 clear d0 d1 d2 HK1 hx2
 have d0 := (HBx.out.ext Hx2.out).av 0 rfl
 have d1 := (HBx.out.ext Hx2.out).av 1 rfl
 have d2 := (HBx.out.ext Hx2.out).av 2 rfl
 simp only [pcells, qA0, qA1, qA2] at d0 d1 d2
 by_cases hlo : o - (N : Int) < 0
 ·have Hr : Hid (P.funV o = -1) := hid (by rw [Hf.out, if_neg (by omega)])
  go_wp2
  go_ret
  exact ⟨by rw [Hr.out]; rfl, HX.out.trans Hx2.out⟩
 ·by_cases hhi : (P.funs.length : Int) ≤ o - (N : Int)
  ·have Hr : Hid (P.funV o = -1) := hid (by rw [Hf.out, if_neg (by omega)])
   go_wp2
   go_ret
   exact ⟨by rw [Hr.out]; rfl, HX.out.trans Hx2.out⟩
  ·have Hr : Hid (P.funV o = o - (N : Int)) := hid (by rw [Hf.out, if_pos (by omega)])
   go_wp2
   go_ret
   exact ⟨by rw [Hr.out]; rfl, HX.out.trans Hx2.out⟩
end Go.Proofs.YtngdpnlgnpdkcaaGreatDoor
namespace Go.Proofs
open Go.Shelf
def Tryz.lays189_ren : Go.Shelf.Ren := ⟨fun | 189 => 91 | 125 => 107 | 257 => 122 | 128 => 141 | 129 => 142 | 294 => 148 | 295 => 149 | 296 => 150 | 297 => 151 | 298 => 152 | 299 => 153 | 216 => 154 | 300 => 155 | 301 => 156 | 328 => 170 | 329 => 165 | 330 => 166 | 331 => 171 | 332 => 172 | 215 => 173 | 343 => 184 | n => n, fun | 28 => 43 | 3 => 3 | 46 => 167 | 0 => 0 | 51 => 205 | 53 => 207 | 4 => 4 | 183 => 199 | 182 => 198 | 131 => 89 | 5 => 5 | 9 => 9 | 218 => 240 | 222 => 244 | 228 => 256 | 229 => 99 | n => n, fun | n => n⟩
theorem Tryz.lays189 : Go.Proofs.Lays.n189 Tryz.prog Tryz.lays189_ren := {
 mixed := by kernel_rfl
 f125 := Tryz.func107.trans (congrArg some (by kernel_rfl))
 f128 := Tryz.func141.trans (congrArg some (by kernel_rfl))
 f129 := Tryz.func142.trans (congrArg some (by kernel_rfl))
 f189 := Tryz.func91.trans (congrArg some (by kernel_rfl))
 f215 := Tryz.func173.trans (congrArg some (by kernel_rfl))
 f216 := Tryz.func154.trans (congrArg some (by kernel_rfl))
 f257 := Tryz.func122.trans (congrArg some (by kernel_rfl))
 f294 := Tryz.func148.trans (congrArg some (by kernel_rfl))
 f295 := Tryz.func149.trans (congrArg some (by kernel_rfl))
 f296 := Tryz.func150.trans (congrArg some (by kernel_rfl))
 f297 := Tryz.func151.trans (congrArg some (by kernel_rfl))
 f298 := Tryz.func152.trans (congrArg some (by kernel_rfl))
 f299 := Tryz.func153.trans (congrArg some (by kernel_rfl))
 f300 := Tryz.func155.trans (congrArg some (by kernel_rfl))
 f301 := Tryz.func156.trans (congrArg some (by kernel_rfl))
 f328 := Tryz.func170.trans (congrArg some (by kernel_rfl))
 f329 := Tryz.func165.trans (congrArg some (by kernel_rfl))
 f330 := Tryz.func166.trans (congrArg some (by kernel_rfl))
 f331 := Tryz.func171.trans (congrArg some (by kernel_rfl))
 f332 := Tryz.func172.trans (congrArg some (by kernel_rfl))
 f343 := Tryz.func184.trans (congrArg some (by kernel_rfl))
 t0 := Tryz.underlying0
 a0 := Tryz.isAgg0
 z0 := Tryz.sizeOf0
 v0 := Tryz.zeroValue0
 t3 := Tryz.underlying3
 a3 := Tryz.isAgg3
 z3 := Tryz.sizeOf3
 v3 := Tryz.zeroValue3
 t4 := Tryz.underlying4
 a4 := Tryz.isAgg4
 z4 := Tryz.sizeOf4
 v4 := Tryz.zeroValue4
 t5 := Tryz.underlying5
 a5 := Tryz.isAgg5
 z5 := Tryz.sizeOf5
 v5 := Tryz.zeroValue5
 t9 := Tryz.underlying9
 a9 := Tryz.isAgg9
 z9 := Tryz.sizeOf9
 v9 := Tryz.zeroValue9
 t28 := Tryz.underlying43
 a28 := Tryz.isAgg43
 z28 := Tryz.sizeOf43
 v28 := Tryz.zeroValue43
 t46 := Tryz.underlying167
 a46 := Tryz.isAgg167
 z46 := Tryz.sizeOf167
 v46 := Tryz.zeroValue167
 t51 := Tryz.underlying205
 a51 := Tryz.isAgg205
 z51 := Tryz.sizeOf205
 v51 := Tryz.zeroValue205
 t53 := Tryz.underlying207
 a53 := Tryz.isAgg207
 z53 := Tryz.sizeOf207
 v53 := Tryz.zeroValue207
 t131 := Tryz.underlying89
 a131 := Tryz.isAgg89
 z131 := Tryz.sizeOf89
 v131 := Tryz.zeroValue89
 t182 := Tryz.underlying198
 a182 := Tryz.isAgg198
 z182 := Tryz.sizeOf198
 v182 := Tryz.zeroValue198
 t183 := Tryz.underlying199
 a183 := Tryz.isAgg199
 z183 := Tryz.sizeOf199
 v183 := Tryz.zeroValue199
 t218 := Tryz.underlying240
 a218 := Tryz.isAgg240
 z218 := Tryz.sizeOf240
 v218 := Tryz.zeroValue240
 t222 := Tryz.underlying244
 a222 := Tryz.isAgg244
 z222 := Tryz.sizeOf244
 v222 := Tryz.zeroValue244
 t228 := Tryz.underlying256
 a228 := Tryz.isAgg256
 z228 := Tryz.sizeOf256
 v228 := Tryz.zeroValue256
 t229 := Tryz.underlying99
 a229 := Tryz.isAgg99
 z229 := Tryz.sizeOf99
 v229 := Tryz.zeroValue99 }
open Go.Sort Go.RowKit in
theorem Tryz.slices_Sort_int (blk off cap : Nat) (zs : List Int) (w : World) (hH : Holds (Value.int .i64) w blk off zs.toArray) (hblk : blk < w.heap.size) (hsz : zs.length < 4611686018427387904) :
  Calls Tryz.prog 91 #[.slice (some ⟨blk, off, none⟩) zs.length cap] w fun e w' =>
   e = .returned (.tuple #[]) ∧ ∃ n os, w' = grow (putRow (Value.int .i64) (Sort.ahead w n) blk off (zs.mergeSort fun x y => decide (x ≤ y)).toArray) os := Any.slices_Sort_int Tryz.lays189 blk off cap zs w hH hblk hsz
def Tryz.laysNm220_ren : Go.Shelf.Ren := ⟨fun | 20 => 50 | n => n, fun | 22 => 43 | 3 => 3 | 4 => 4 | 0 => 0 | n => n, fun | n => n⟩
theorem Tryz.laysNm220 : Go.Proofs.Lays2.n20 Tryz.prog Tryz.laysNm220_ren := {
 mixed := by kernel_rfl
 f20 := Tryz.func50.trans (congrArg some (by kernel_rfl))
 t0 := Tryz.underlying0
 a0 := Tryz.isAgg0
 z0 := Tryz.sizeOf0
 v0 := Tryz.zeroValue0
 t3 := Tryz.underlying3
 a3 := Tryz.isAgg3
 z3 := Tryz.sizeOf3
 v3 := Tryz.zeroValue3
 t4 := Tryz.underlying4
 a4 := Tryz.isAgg4
 z4 := Tryz.sizeOf4
 v4 := Tryz.zeroValue4
 t22 := Tryz.underlying43
 a22 := Tryz.isAgg43
 z22 := Tryz.sizeOf43
 v22 := Tryz.zeroValue43
 i3 := by kernel_rfl }
open Go.RowKit Go.Lib Go.Sort in
theorem Tryz.slices_Compact_int (blk off cap : Nat) (zs : List Int) (w : World) (hH : Holds (Value.int .i64) w blk off zs.toArray) (hsz : zs.length ≤ 9223372036854775807) (hcap : zs.length ≤ cap) :
  Calls Tryz.prog 50 #[.slice (some ⟨blk, off, none⟩) zs.length cap] w fun e w' => e = .returned (.slice (some ⟨blk, off, none⟩) (Lib.compact zs).length cap) ∧ ∃ q, w' = putRow (Value.int .i64) (Sort.ahead w q) blk off (Lib.compact zs ++ List.replicate (zs.length - (Lib.compact zs).length) 0).toArray := Any.slices_Compact_int Tryz.laysNm220 blk off cap zs w hH hsz hcap
open Go.RowKit Go.Lib Go.Sort in
theorem Tryz.slices_Compact_int_empty (a : Option Addr) (cap : Nat) (w : World) :
  Calls Tryz.prog 50 #[.slice a 0 cap] w fun e w' => e = .returned (.slice a 0 cap) ∧ w' = w := Any.slices_Compact_int_empty Tryz.laysNm220 a cap w
open Go.RowKit Go.Sort in
theorem Tryz.slices_Sort_int_none (p : Option Addr) (cap : Nat) (w : World) :
  Calls Tryz.prog 91 #[.slice p 0 cap] w fun e w' => e = .returned (.tuple #[]) ∧ w' = w := Any.slices_Sort_int_none Tryz.lays189 p cap w
end Go.Proofs
namespace Go.Proofs.YtngdpnlgnpdkcaaGreatDoor
open Go Go.RowKit
set_option maxRecDepth 100000 in
set_option maxHeartbeats 800000 in
theorem clone_big (v : Value) (l : List Int) (w : World) (n0 : Nat) (h : IntsR w n0 v l) (hl : l.length ≤ 100000) :
  Calls Tryz.prog 97 #[v] w fun e w' => ∃ v', e = .returned v' ∧ Ext w w' ∧ IRow w.heap.size w' v' l := by
 obtain ⟨a, cap, rfl, h2, h3, h4, h5⟩ := id h
 have hl2 : 0 + l.length ≤ 1000000 := by omega
 cases a with
 | none =>
  have h0 : l.length = 0 := by
   rcases Nat.eq_zero_or_pos l.length with e | e
   ·exact e
   ·obtain ⟨x, hx⟩ := h4 e; cases hx
  obtain rfl : l = [] := List.eq_nil_of_length_eq_zero h0
  have he := Lib.run_eql_slice_nil (P := Tryz.prog) w 43 3 none 0 cap 0 0 Tryz.underlying43
  clear h h2 h3 h4 h5 h0
  go_enter Tryz.func97, Tryz.ntmps97
  go_wp2
  go_ret
  exact ⟨_, rfl, Ext.refl _, IRow.nil _ _⟩
 | some x =>
  have Hs := hid h.src
  have hnil : IRow w.heap.size (w.alloc (.cells #[] 3)) (.slice (some ⟨w.heap.size, 0, none⟩) 0 0) [] := World.ownsRow_made w #[] 0 (Nat.le_refl _) (by unfold maxLen; omega) rfl
  have Hnil := hid hnil
  have hb : w.heap.size ≤ (w.alloc (.cells #[] 3)).heap.size := by simp
  have hx1 : Hid (Ext w (w.alloc (.cells #[] 3))) := hid ((Ext.refl _).alloc _)
  have hs1 : Hid (Src (w.alloc (.cells #[] 3)) (some x) l.length 1 (icells l)) := hid (h.old ((hx1.out).old n0)).src
  have he := Lib.run_eql_slice_nil (P := Tryz.prog) w 43 3 (some x) l.length cap 0 0 Tryz.underlying43
  clear h h2 h3 h4 h5 hnil
  go_enter Tryz.func97, Tryz.ntmps97
  go_wp2_with (at_builtin; refine wpList_append_src w.heap.size hb 43 3 (.int .i64 0) 1 8 Tryz.underlying43 ints_info rfl (by omega) (by omega) rfl _ _ rfl (.slice (some ⟨w.heap.size, 0, none⟩) 0 0) 0 [] rfl Hnil.out (some x) l.length cap (icells l) rfl hs1.out hl2 ?_; intro v' w' h1 h2 h4; have h3 := Keep.new hx1.out h2 (fun k hk => by simp [Value.ownBlock] at hk; omega))
  go_ret
  exact ⟨_, rfl, h3, by unfold IRow; simpa using h1⟩
theorem sort_row (v : Value) (l : List Int) (w : World) (base : Nat) (h : IRow base w v l) (hl : l.length ≤ 100000) :
  Calls Tryz.prog 91 #[v] w fun e w' => e = .returned (.tuple #[]) ∧ IRow base w' v (l.mergeSort fun x y => decide (x ≤ y)) ∧ Keep (fun b => v.ownBlock = some b) w w' := by
 rcases h.case with ⟨rfl, rfl⟩ | ⟨g, cap, rfl⟩
 ·refine (Tryz.slices_Sort_int_none none 0 w).mono ?_
  rintro e w' ⟨rfl, rfl⟩
  exact ⟨rfl, by simpa using h, Keep.refl _ _⟩
 ·obtain ⟨_, _, _, _, cur, hb, _, _⟩ := h.cur
  refine (Tryz.slices_Sort_int g 0 cap l w h.holds hb.lt (by omega)).mono ?_
  rintro e w' ⟨rfl, q, os, rfl⟩
  obtain ⟨p1, p2⟩ := h.put (q := q) (os := os) (ys := l.mergeSort fun x y => decide (x ≤ y)) (by simp) l.length (by simp)
  refine ⟨rfl, ?_, p2.mono fun b _ e => by simp [Value.ownBlock, e]⟩
  rwa [List.take_of_length_le (by simp)] at p1
theorem compact_row (v : Value) (l : List Int) (w : World) (base : Nat) (h : IRow base w v l) (hl : l.length ≤ 100000) :
  Calls Tryz.prog 50 #[v] w fun e w' => ∃ v', e = .returned v' ∧ IRow base w' v' (Lib.compact l) ∧ Keep (fun b => v.ownBlock = some b) w w' := by
 rcases h.case with ⟨rfl, rfl⟩ | ⟨g, cap, rfl⟩
 ·refine (Tryz.slices_Compact_int_empty none 0 w).mono ?_
  rintro e w' ⟨rfl, rfl⟩
  exact ⟨_, rfl, h, Keep.refl _ _⟩
 ·obtain ⟨_, _, h2, h3, cur, hb, _, _⟩ := h.cur
  have hcl := Lib.compact_length_le l
  refine (Tryz.slices_Compact_int g 0 cap l w h.holds (by omega) h2).mono ?_
  rintro e w' ⟨rfl, q, rfl⟩
  obtain ⟨p1, p2⟩ := h.put (q := q) (os := #[]) (ys := Lib.compact l ++ List.replicate (l.length - (Lib.compact l).length) 0) (by simp; omega) (Lib.compact l).length (by simp)
  rw [Sort.grow_empty] at p1 p2
  refine ⟨_, rfl, ?_, p2.mono fun b _ e => by simp [Value.ownBlock, e]⟩
  rwa [List.take_left] at p1
theorem Keep.fresh {w w1 w2 : World} {base : Nat} {v : Value} {l : List Int} (hx : Ext w w1) (h : IRow base w1 v l) (hb : w.heap.size ≤ base) (k : Keep (fun b => v.ownBlock = some b) w1 w2) : Ext w w2 :=
 Keep.new hx k fun b hb' => Nat.le_trans hb (h.lt hb').1
def OfR (ad : Nat → Addr) (l : List Int) (n0 : Nat) (w : World) (t : Value) : Prop :=
 (InR l ∧ ∃ v, t = .tuple #[v, .nilIface] ∧ IRow n0 w v (sset l)) ∨ (¬ InR l ∧ t = .tuple #[.slice none 0 0, evOf ad 2])
theorem ofBad {l : List Int} {x : Int} (hx : x ∈ l) (h : x < 0 ∨ 1000 ≤ x) : ¬ InR l := fun g => by
 have := g x hx
 omega
set_option maxRecDepth 100000 in
set_option maxHeartbeats 1600000 in
theorem setof_any (v : Value) (l : List Int) (w : World) (n0 : Nat) (ad : Nat → Addr) (hE : ErrS w ad) (h : IntsR w n0 v l) (hl : l.length ≤ 100000) :
  Calls Tryz.prog 162 #[v] w fun e w' => ∃ t, e = .returned t ∧ OfR ad l w.heap.size w' t ∧ Ext w w' := by
 have HC := fun w1 (x : Ext w w1) => hid (clone_big v l w1 n0 (h.old (x.old n0)) hl)
 obtain ⟨a, cap, rfl, h2, h3, h4, h5⟩ := id h
 have HE := hid hE
 have H4 := hid h4
 have H5 := hid h5
 have g2 := hE.at2
 unfold evOf at g2
 have hml : (l.length : Int) ≤ 9223372036854775807 := by omega
 clear h h2 h3 h4 h5 hE
 go_enter Tryz.func162, Tryz.ntmps162
 go_wp2
 go_loopw [9] (fun t9 wr => ∃ k : Nat, t9 = .int .i64 (k : Int) ∧ k ≤ l.length ∧ (∀ j t, j < k → l[j]? = some t → 0 ≤ t ∧ t < 1000) ∧ Ext w wr) (fun t9 _ => l.length - (intOf t9).toNat)
 case atStart => exact ⟨0, rfl, Nat.zero_le _, fun j t h => by omega, Ext.refl _⟩
 case round =>
  obtain ⟨k, rfl, hk, hp, hx⟩ := hrel
  have Hp := hid hp
  have Hx := hid hx
  have gx2 : ∀ w1, Keep (fun _ => False) wr w1 → w1.cell? ⟨3, 0, none⟩ = some (.iface 273 (.pointer (some (ad 2)))) := fun w1 kk => (hx.trans kk.ext).cellx g2
  clear hp
  by_cases hlt : k < l.length
  ·obtain ⟨y, rfl⟩ := H4.out (by omega)
   obtain ⟨q, hq⟩ : ∃ q, l[k]? = some q := ⟨_, List.getElem?_eq_getElem hlt⟩
   have hc := hx.cellx ((H5.out y rfl (by omega)).2 k hlt q hq)
   have Hq := hid hq
   clear hq hx
   by_cases hq0 : q < 0
   ·have Hr := hid (ofBad (List.mem_of_getElem? Hq.out) (by omega))
    go_wp2
    refine wp_flowT (fun _ => False) (by kernel_rfl) (by kernel_rfl) ?_
    repeat (apply FlowT.d; (intro w1 hk; unfold does; go_simp; (try go_ints); (first | exact DetR.mk | (simp only [↓IntWalk.iteOmega, Oper.doesUpon_value]; exact DetR.mk) | (simp only [↓IntWalk.iteOmega]; go_simp; (try go_ints); exact DetR.mk))); simp only [Act.put, qS0, qS1, qS2])
    refine FlowT.fin fun w1 hx1 hk1 => ?_
    have Hx1 := hid (Hx.out.trans hx1)
    clear hx1 hk1
    go_wp2
    go_ret2
    exact ⟨_, rfl, .inr ⟨Hr.out, rfl⟩, Hx1.out⟩
   ·by_cases hq1 : 1000 ≤ q
    ·have Hr := hid (ofBad (List.mem_of_getElem? Hq.out) (by omega))
     go_wp2
     refine wp_flowT (fun _ => False) (by kernel_rfl) (by kernel_rfl) ?_
     repeat (apply FlowT.d; (intro w1 hk; unfold does; go_simp; (try go_ints); (first | exact DetR.mk | (simp only [↓IntWalk.iteOmega, Oper.doesUpon_value]; exact DetR.mk) | (simp only [↓IntWalk.iteOmega]; go_simp; (try go_ints); exact DetR.mk))); simp only [Act.put, qS0, qS1, qS2])
     refine FlowT.fin fun w1 hx1 hk1 => ?_
     have Hx1 := hid (Hx.out.trans hx1)
     clear hx1 hk1
     go_wp2
     go_ret2
     exact ⟨_, rfl, .inr ⟨Hr.out, rfl⟩, Hx1.out⟩
    ·have Hb : Hid (0 ≤ q ∧ q < 1000) := hid (by omega)
     clear gx2
     go_wp2
     go_roundw
     case rel =>
      refine ⟨k + 1, by go_num, by omega, fun j t hj ht => ?_, Hx.out⟩
      by_cases hjk : j = k
      ·subst hjk
       obtain rfl := Option.some.inj (Hq.out.symm.trans ht)
       exact Hb.out
      ·exact Hp.out j t (by omega) ht
     case measure => simp [intOf]; omega
  ·obtain rfl : k = l.length := by omega
   have Hin : Hid (InR l) := hid fun t ht => by
    obtain ⟨j, hj, e⟩ := List.mem_iff_getElem.1 ht
    exact Hp.out j t hj (by rw [List.getElem?_eq_getElem hj, e])
   have HC1 := HC wr hx
   clear HC hx gx2
   go_wp2_with fail
   refine HC1.out.mono ?_
   intro e w1 hx
   obtain ⟨v1, rfl, hx1, hr1⟩ := hx
   obtain ⟨a1, p1, rfl⟩ := hr1.form
   have HS := hid (sort_row _ l w1 wr.heap.size hr1 hl)
   have Hr1 := hid hr1
   have Hx1 := hid hx1
   clear HC1 hr1 hx1
   go_wp2_with fail
   refine HS.out.mono ?_
   intro e w2 hx
   obtain ⟨rfl, hr2, hk2⟩ := hx
   have HK := hid (compact_row _ _ w2 wr.heap.size hr2 (by simpa using hl))
   have Hr2 := hid hr2
   have Hk2 := hid (Keep.fresh Hx1.out Hr1.out (Nat.le_refl _) hk2)
   clear HS hr2 hk2
   go_wp2_with fail
   refine HK.out.mono ?_
   intro e w3 hx
   obtain ⟨v3, rfl, hr3, hk3⟩ := hx
   have Hr3 : Hid (IRow w.heap.size w3 v3 (sset l)) := hid (by rw [compact_sort Hin.out] at hr3; exact hr3.base Hx.out.size)
   have Hk3 := hid (Keep.fresh Hk2.out Hr2.out (Nat.le_refl _) hk3)
   obtain ⟨a3, p3, rfl⟩ := Hr3.out.form
   clear HK hr3 hk3
   go_wp2
   go_ret2
   exact ⟨_, rfl, .inl ⟨Hin.out, _, rfl, Hr3.out⟩, Hx.out.trans Hk3.out⟩
structure RV where
 kind : ByteArray
 a : Int
 b : Int
 k : Int
 args : List Int
def RV.val (r : RV) (av : Value) : Value := .agg #[.string r.kind, .int .i64 r.a, .int .i64 r.b, .int .i64 r.k, av]
def bBase : ByteArray := ⟨#[98, 97, 115, 101]⟩
def bCall : ByteArray := ⟨#[99, 97, 108, 108]⟩
def PP.ruleV (P : PP) (k : Nat) (x : PS) : RV :=
 bif x.isK kAddr then ⟨bBase, x.x, x.y, k, []⟩ else
 bif x.isK kNew then ⟨bBase, x.x, P.placeV k, k, []⟩ else
 bif x.isK kFun then ⟨bBase, x.x, (P.nodesV : Int) + x.y, k, []⟩ else
 bif x.isK kCall then ⟨bCall, x.y, x.x, k, x.args⟩ else ⟨x.kind, x.y, x.x, k, []⟩
theorem IntsT.nil (w : World) : IntsT w (.slice none 0 0) [] := ⟨⟨none, 0, rfl, Nat.le_refl _, by decide, fun h => absurd h (by decide), fun y hy => by cases hy⟩, fun b hb => by cases hb⟩
theorem store5_old {w : World} {n : Nat} {v : Value} {l : List Int} {c : Array Value} (h : IntsT w v l) (hB : Blk w n c 87) (b0 b1 b2 b3 b4 : Value) : IntsT (((((w.setCell ⟨n, 0, none⟩ b0).setCell ⟨n, 1, none⟩ b1).setCell ⟨n, 2, none⟩ b2).setCell ⟨n, 3, none⟩ b3).setCell ⟨n, 4, none⟩ b4) v l :=
 h.keep (store5_keep w n b0 b1 b2 b3 b4) fun b e => by subst e; exact IsInt.not hB (by decide)
set_option maxRecDepth 100000 in
set_option maxHeartbeats 6400000 in
theorem consrule_addr (a1 a2 a3 : Option Addr) (c1 c2 c3 : Nat) (P : PP) (k : Nat) (x : PS) (hxk : P.stmts[k]? = some x) (w : World) (n0 : Nat) (ad : Nat → Addr) (h : PW w n0 ad a1 a2 a3 c1 c2 c3 P) (hkx : x.isK kAddr = true) :
  Calls Tryz.prog 80 #[pval a1 a2 a3 c1 c2 c3 P, .int .i64 (k : Int)] w fun e w' => ∃ av, e = .returned ((P.ruleV k x).val av) ∧ IntsT w' av (P.ruleV k x).args ∧ Ext w w' := by
 obtain ⟨W1, hW1⟩ : ∃ W1, W1 = w.alloc (.cells (pcells a1 a2 a3 c1 c2 c3 P) 26) := ⟨_, rfl⟩
 have hx1 : Ext w W1 := by rw [hW1]; exact (Ext.refl _).alloc _
 obtain ⟨W2, hW2⟩ : ∃ W2, W2 = W1.alloc (.cells #[.string ⟨#[]⟩, .int .i64 0, .int .i64 0, .int .i64 0, .slice none 0 0] 87) := ⟨_, rfl⟩
 have hx2 : Ext W1 W2 := by rw [hW2]; exact (Ext.refl _).alloc _
 have hk : k < P.stmts.length := by
  rcases Nat.lt_or_ge k P.stmts.length with h | h
  ·exact h
  ·rw [List.getElem?_eq_none h] at hxk; cases hxk
 have hml := h.prog.stmts.len
 obtain ⟨y, x', av, cv, rfl, hxk', e0, e1, e2, e3, hI⟩ := (h.prog.ext (hx1.trans hx2)).stmts.at hk
 obtain rfl := Option.some.inj (hxk.symm.trans hxk')
 obtain ⟨W3, hW3⟩ : ∃ W3, W3 = W2.alloc (.cells (scells x av cv) 76) := ⟨_, rfl⟩
 have hx3 : Ext W2 W3 := by rw [hW3]; exact (Ext.refl _).alloc _
 have s1 : W1.heap.size = w.heap.size + 1 := by rw [hW1, heap_size_alloc]
 have s2 : W2.heap.size = w.heap.size + 1 + 1 := by rw [hW2, heap_size_alloc, s1]
 have HX := hid ((hx1.trans hx2).trans hx3)
 have HB0 : Hid (Blk W3 w.heap.size (pcells a1 a2 (some y) c1 c2 c3 P) 26) := hid (by
  have : Blk W1 w.heap.size (pcells a1 a2 (some y) c1 c2 c3 P) 26 := by rw [hW1]; exact Blk.new _ _ _
  exact this.ext (hx2.trans hx3))
 have HB1 : Hid (Blk W3 (w.heap.size + 1) #[.string ⟨#[]⟩, .int .i64 0, .int .i64 0, .int .i64 0, .slice none 0 0] 87) := hid (by
  have : Blk W2 (w.heap.size + 1) #[.string ⟨#[]⟩, .int .i64 0, .int .i64 0, .int .i64 0, .slice none 0 0] 87 := by rw [← s1, hW2]; exact Blk.new _ _ _
  exact this.ext hx3)
 have HB2 : Hid (Blk W3 (w.heap.size + 1 + 1) (scells x av cv) 76) := hid (by rw [← s2, hW3]; exact Blk.new _ _ _)
 have HI := hid (hI.old (hx3.old n0))
 have HPW := hid h
 have Hxk := hid hxk
 rw [hW2, hW1] at e0 e1 e2 e3
 unfold pcells at e0 e1 e2 e3
 have HWe : Hid (W3 = ((w.alloc (.cells #[.slice a1 P.vars.length c1, .slice a2 P.funs.length c2, .slice (some y) P.stmts.length c3] 26)).alloc (.cells #[.string ⟨#[]⟩, .int .i64 0, .int .i64 0, .int .i64 0, .slice none 0 0] 87)).alloc (.cells #[.string x.kind, .int .i64 x.x, .int .i64 x.y, .slice av x.args.length cv] 76)) := hid (by rw [hW3, hW2, hW1]; rfl)
 obtain ⟨hf1, hf2, hf3⟩ := h.well.few
 clear hW1 hW2 hW3 hx1 hx2 hx3 s1 s2 hxk hxk' hI h
 unfold pval
 have Hr : Hid (P.ruleV k x = ⟨bBase, x.x, x.y, k, []⟩) := hid (by unfold PP.ruleV; rw [hkx]; rfl)
 have hkk := hkx
 unfold PS.isK kAddr at hkk
 clear hkx
 clear HWe
 go_enter Tryz.func80, Tryz.ntmps80
 go_wp2
 obtain ⟨V, hV⟩ : ∃ V, V = ((w.alloc (.cells #[.slice a1 P.vars.length c1, .slice a2 P.funs.length c2, .slice (some y) P.stmts.length c3] 26)).alloc (.cells #[.string ⟨#[98, 97, 115, 101]⟩, .int .i64 x.x, .int .i64 x.y, .int .i64 (k : Int), .slice none 0 0] 87)).alloc (.cells #[.string x.kind, .int .i64 x.x, .int .i64 x.y, .slice av x.args.length cv] 76) := ⟨_, rfl⟩
 have hxV : Ext w V := by rw [hV]; exact (((Ext.refl _).alloc _).alloc _).alloc _
 have HB9 : Blk V (w.heap.size + 1) #[.string ⟨#[98, 97, 115, 101]⟩, .int .i64 x.x, .int .i64 x.y, .int .i64 (k : Int), .slice none 0 0] 87 := by
  rw [hV]
  have := (Blk.new (w.alloc (.cells #[.slice a1 P.vars.length c1, .slice a2 P.funs.length c2, .slice (some y) P.stmts.length c3] 26)) #[.string ⟨#[98, 97, 115, 101]⟩, .int .i64 x.x, .int .i64 x.y, .int .i64 (k : Int), .slice none 0 0] 87).alloc (.cells #[.string x.kind, .int .i64 x.x, .int .i64 x.y, .slice av x.args.length cv] 76)
  rwa [heap_size_alloc] at this
 rw [← hV]
 exact bodyPost_ret (v := .agg #[.string ⟨#[98, 97, 115, 101]⟩, .int .i64 x.x, .int .i64 x.y, .int .i64 (k : Int), .slice none 0 0]) (by simp [results, Tryz.results80, go_sem, HB9.av 0 rfl, HB9.av 1 rfl, HB9.av 2 rfl, HB9.av 3 rfl, HB9.av 4 rfl]) rfl ⟨_, by rw [Hr.out]; rfl, by rw [Hr.out]; exact IntsT.nil _, hxV⟩
set_option maxRecDepth 100000 in
set_option maxHeartbeats 6400000 in
theorem consrule_copy (a1 a2 a3 : Option Addr) (c1 c2 c3 : Nat) (P : PP) (k : Nat) (x : PS) (hxk : P.stmts[k]? = some x) (w : World) (n0 : Nat) (ad : Nat → Addr) (h : PW w n0 ad a1 a2 a3 c1 c2 c3 P) (hkx : x.isK kCopy = true) :
  Calls Tryz.prog 80 #[pval a1 a2 a3 c1 c2 c3 P, .int .i64 (k : Int)] w fun e w' => ∃ av, e = .returned ((P.ruleV k x).val av) ∧ IntsT w' av (P.ruleV k x).args ∧ Ext w w' := by
 obtain ⟨W1, hW1⟩ : ∃ W1, W1 = w.alloc (.cells (pcells a1 a2 a3 c1 c2 c3 P) 26) := ⟨_, rfl⟩
 have hx1 : Ext w W1 := by rw [hW1]; exact (Ext.refl _).alloc _
 obtain ⟨W2, hW2⟩ : ∃ W2, W2 = W1.alloc (.cells #[.string ⟨#[]⟩, .int .i64 0, .int .i64 0, .int .i64 0, .slice none 0 0] 87) := ⟨_, rfl⟩
 have hx2 : Ext W1 W2 := by rw [hW2]; exact (Ext.refl _).alloc _
 have hk : k < P.stmts.length := by
  rcases Nat.lt_or_ge k P.stmts.length with h | h
  ·exact h
  ·rw [List.getElem?_eq_none h] at hxk; cases hxk
 have hml := h.prog.stmts.len
 obtain ⟨y, x', av, cv, rfl, hxk', e0, e1, e2, e3, hI⟩ := (h.prog.ext (hx1.trans hx2)).stmts.at hk
 obtain rfl := Option.some.inj (hxk.symm.trans hxk')
 obtain ⟨W3, hW3⟩ : ∃ W3, W3 = W2.alloc (.cells (scells x av cv) 76) := ⟨_, rfl⟩
 have hx3 : Ext W2 W3 := by rw [hW3]; exact (Ext.refl _).alloc _
 have s1 : W1.heap.size = w.heap.size + 1 := by rw [hW1, heap_size_alloc]
 have s2 : W2.heap.size = w.heap.size + 1 + 1 := by rw [hW2, heap_size_alloc, s1]
 have HX := hid ((hx1.trans hx2).trans hx3)
 have HB0 : Hid (Blk W3 w.heap.size (pcells a1 a2 (some y) c1 c2 c3 P) 26) := hid (by
  have : Blk W1 w.heap.size (pcells a1 a2 (some y) c1 c2 c3 P) 26 := by rw [hW1]; exact Blk.new _ _ _
  exact this.ext (hx2.trans hx3))
 have HB1 : Hid (Blk W3 (w.heap.size + 1) #[.string ⟨#[]⟩, .int .i64 0, .int .i64 0, .int .i64 0, .slice none 0 0] 87) := hid (by
  have : Blk W2 (w.heap.size + 1) #[.string ⟨#[]⟩, .int .i64 0, .int .i64 0, .int .i64 0, .slice none 0 0] 87 := by rw [← s1, hW2]; exact Blk.new _ _ _
  exact this.ext hx3)
 have HB2 : Hid (Blk W3 (w.heap.size + 1 + 1) (scells x av cv) 76) := hid (by rw [← s2, hW3]; exact Blk.new _ _ _)
 have HI := hid (hI.old (hx3.old n0))
 have HPW := hid h
 have Hxk := hid hxk
 rw [hW2, hW1] at e0 e1 e2 e3
 unfold pcells at e0 e1 e2 e3
 have HWe : Hid (W3 = ((w.alloc (.cells #[.slice a1 P.vars.length c1, .slice a2 P.funs.length c2, .slice (some y) P.stmts.length c3] 26)).alloc (.cells #[.string ⟨#[]⟩, .int .i64 0, .int .i64 0, .int .i64 0, .slice none 0 0] 87)).alloc (.cells #[.string x.kind, .int .i64 x.x, .int .i64 x.y, .slice av x.args.length cv] 76)) := hid (by rw [hW3, hW2, hW1]; rfl)
 obtain ⟨hf1, hf2, hf3⟩ := h.well.few
 clear hW1 hW2 hW3 hx1 hx2 hx3 s1 s2 hxk hxk' hI h
 unfold pval
 have h1 : (x.kind.toList == [97, 100, 100, 114]) = false := isK_ne hkx (k' := kAddr) rfl
 have h5 : (x.kind.toList == [110, 101, 119]) = false := isK_ne hkx (k' := kNew) rfl
 have h6 : (x.kind.toList == [102, 117, 110]) = false := isK_ne hkx (k' := kFun) rfl
 have h7 : (x.kind.toList == [99, 97, 108, 108]) = false := isK_ne hkx (k' := kCall) rfl
 have Hr : Hid (P.ruleV k x = ⟨x.kind, x.y, x.x, k, []⟩) := hid (by unfold PP.ruleV; rw [isK_ne hkx (k' := kAddr) rfl, isK_ne hkx (k' := kNew) rfl, isK_ne hkx (k' := kFun) rfl, isK_ne hkx (k' := kCall) rfl]; rfl)
 clear hkx
 clear HWe
 go_enter Tryz.func80, Tryz.ntmps80
 go_wp2
 obtain ⟨V, hV⟩ : ∃ V, V = ((w.alloc (.cells #[.slice a1 P.vars.length c1, .slice a2 P.funs.length c2, .slice (some y) P.stmts.length c3] 26)).alloc (.cells #[.string x.kind, .int .i64 x.y, .int .i64 x.x, .int .i64 (k : Int), .slice none 0 0] 87)).alloc (.cells #[.string x.kind, .int .i64 x.x, .int .i64 x.y, .slice av x.args.length cv] 76) := ⟨_, rfl⟩
 have hxV : Ext w V := by rw [hV]; exact (((Ext.refl _).alloc _).alloc _).alloc _
 have HB9 : Blk V (w.heap.size + 1) #[.string x.kind, .int .i64 x.y, .int .i64 x.x, .int .i64 (k : Int), .slice none 0 0] 87 := by
  rw [hV]
  have := (Blk.new (w.alloc (.cells #[.slice a1 P.vars.length c1, .slice a2 P.funs.length c2, .slice (some y) P.stmts.length c3] 26)) #[.string x.kind, .int .i64 x.y, .int .i64 x.x, .int .i64 (k : Int), .slice none 0 0] 87).alloc (.cells #[.string x.kind, .int .i64 x.x, .int .i64 x.y, .slice av x.args.length cv] 76)
  rwa [heap_size_alloc] at this
 rw [← hV]
 exact bodyPost_ret (v := .agg #[.string x.kind, .int .i64 x.y, .int .i64 x.x, .int .i64 (k : Int), .slice none 0 0]) (by simp [results, Tryz.results80, go_sem, HB9.av 0 rfl, HB9.av 1 rfl, HB9.av 2 rfl, HB9.av 3 rfl, HB9.av 4 rfl]) rfl ⟨_, by rw [Hr.out]; rfl, by rw [Hr.out]; exact IntsT.nil _, hxV⟩
set_option maxRecDepth 100000 in
set_option maxHeartbeats 6400000 in
theorem consrule_load (a1 a2 a3 : Option Addr) (c1 c2 c3 : Nat) (P : PP) (k : Nat) (x : PS) (hxk : P.stmts[k]? = some x) (w : World) (n0 : Nat) (ad : Nat → Addr) (h : PW w n0 ad a1 a2 a3 c1 c2 c3 P) (hkx : x.isK kLoad = true) :
  Calls Tryz.prog 80 #[pval a1 a2 a3 c1 c2 c3 P, .int .i64 (k : Int)] w fun e w' => ∃ av, e = .returned ((P.ruleV k x).val av) ∧ IntsT w' av (P.ruleV k x).args ∧ Ext w w' := by
 obtain ⟨W1, hW1⟩ : ∃ W1, W1 = w.alloc (.cells (pcells a1 a2 a3 c1 c2 c3 P) 26) := ⟨_, rfl⟩
 have hx1 : Ext w W1 := by rw [hW1]; exact (Ext.refl _).alloc _
 obtain ⟨W2, hW2⟩ : ∃ W2, W2 = W1.alloc (.cells #[.string ⟨#[]⟩, .int .i64 0, .int .i64 0, .int .i64 0, .slice none 0 0] 87) := ⟨_, rfl⟩
 have hx2 : Ext W1 W2 := by rw [hW2]; exact (Ext.refl _).alloc _
 have hk : k < P.stmts.length := by
  rcases Nat.lt_or_ge k P.stmts.length with h | h
  ·exact h
  ·rw [List.getElem?_eq_none h] at hxk; cases hxk
 have hml := h.prog.stmts.len
 obtain ⟨y, x', av, cv, rfl, hxk', e0, e1, e2, e3, hI⟩ := (h.prog.ext (hx1.trans hx2)).stmts.at hk
 obtain rfl := Option.some.inj (hxk.symm.trans hxk')
 obtain ⟨W3, hW3⟩ : ∃ W3, W3 = W2.alloc (.cells (scells x av cv) 76) := ⟨_, rfl⟩
 have hx3 : Ext W2 W3 := by rw [hW3]; exact (Ext.refl _).alloc _
 have s1 : W1.heap.size = w.heap.size + 1 := by rw [hW1, heap_size_alloc]
 have s2 : W2.heap.size = w.heap.size + 1 + 1 := by rw [hW2, heap_size_alloc, s1]
 have HX := hid ((hx1.trans hx2).trans hx3)
 have HB0 : Hid (Blk W3 w.heap.size (pcells a1 a2 (some y) c1 c2 c3 P) 26) := hid (by
  have : Blk W1 w.heap.size (pcells a1 a2 (some y) c1 c2 c3 P) 26 := by rw [hW1]; exact Blk.new _ _ _
  exact this.ext (hx2.trans hx3))
 have HB1 : Hid (Blk W3 (w.heap.size + 1) #[.string ⟨#[]⟩, .int .i64 0, .int .i64 0, .int .i64 0, .slice none 0 0] 87) := hid (by
  have : Blk W2 (w.heap.size + 1) #[.string ⟨#[]⟩, .int .i64 0, .int .i64 0, .int .i64 0, .slice none 0 0] 87 := by rw [← s1, hW2]; exact Blk.new _ _ _
  exact this.ext hx3)
 have HB2 : Hid (Blk W3 (w.heap.size + 1 + 1) (scells x av cv) 76) := hid (by rw [← s2, hW3]; exact Blk.new _ _ _)
 have HI := hid (hI.old (hx3.old n0))
 have HPW := hid h
 have Hxk := hid hxk
 rw [hW2, hW1] at e0 e1 e2 e3
 unfold pcells at e0 e1 e2 e3
 have HWe : Hid (W3 = ((w.alloc (.cells #[.slice a1 P.vars.length c1, .slice a2 P.funs.length c2, .slice (some y) P.stmts.length c3] 26)).alloc (.cells #[.string ⟨#[]⟩, .int .i64 0, .int .i64 0, .int .i64 0, .slice none 0 0] 87)).alloc (.cells #[.string x.kind, .int .i64 x.x, .int .i64 x.y, .slice av x.args.length cv] 76)) := hid (by rw [hW3, hW2, hW1]; rfl)
 obtain ⟨hf1, hf2, hf3⟩ := h.well.few
 clear hW1 hW2 hW3 hx1 hx2 hx3 s1 s2 hxk hxk' hI h
 unfold pval
 have h1 : (x.kind.toList == [97, 100, 100, 114]) = false := isK_ne hkx (k' := kAddr) rfl
 have h5 : (x.kind.toList == [110, 101, 119]) = false := isK_ne hkx (k' := kNew) rfl
 have h6 : (x.kind.toList == [102, 117, 110]) = false := isK_ne hkx (k' := kFun) rfl
 have h7 : (x.kind.toList == [99, 97, 108, 108]) = false := isK_ne hkx (k' := kCall) rfl
 have Hr : Hid (P.ruleV k x = ⟨x.kind, x.y, x.x, k, []⟩) := hid (by unfold PP.ruleV; rw [isK_ne hkx (k' := kAddr) rfl, isK_ne hkx (k' := kNew) rfl, isK_ne hkx (k' := kFun) rfl, isK_ne hkx (k' := kCall) rfl]; rfl)
 clear hkx
 clear HWe
 go_enter Tryz.func80, Tryz.ntmps80
 go_wp2
 obtain ⟨V, hV⟩ : ∃ V, V = ((w.alloc (.cells #[.slice a1 P.vars.length c1, .slice a2 P.funs.length c2, .slice (some y) P.stmts.length c3] 26)).alloc (.cells #[.string x.kind, .int .i64 x.y, .int .i64 x.x, .int .i64 (k : Int), .slice none 0 0] 87)).alloc (.cells #[.string x.kind, .int .i64 x.x, .int .i64 x.y, .slice av x.args.length cv] 76) := ⟨_, rfl⟩
 have hxV : Ext w V := by rw [hV]; exact (((Ext.refl _).alloc _).alloc _).alloc _
 have HB9 : Blk V (w.heap.size + 1) #[.string x.kind, .int .i64 x.y, .int .i64 x.x, .int .i64 (k : Int), .slice none 0 0] 87 := by
  rw [hV]
  have := (Blk.new (w.alloc (.cells #[.slice a1 P.vars.length c1, .slice a2 P.funs.length c2, .slice (some y) P.stmts.length c3] 26)) #[.string x.kind, .int .i64 x.y, .int .i64 x.x, .int .i64 (k : Int), .slice none 0 0] 87).alloc (.cells #[.string x.kind, .int .i64 x.x, .int .i64 x.y, .slice av x.args.length cv] 76)
  rwa [heap_size_alloc] at this
 rw [← hV]
 exact bodyPost_ret (v := .agg #[.string x.kind, .int .i64 x.y, .int .i64 x.x, .int .i64 (k : Int), .slice none 0 0]) (by simp [results, Tryz.results80, go_sem, HB9.av 0 rfl, HB9.av 1 rfl, HB9.av 2 rfl, HB9.av 3 rfl, HB9.av 4 rfl]) rfl ⟨_, by rw [Hr.out]; rfl, by rw [Hr.out]; exact IntsT.nil _, hxV⟩
set_option maxRecDepth 100000 in
set_option maxHeartbeats 6400000 in
theorem consrule_store (a1 a2 a3 : Option Addr) (c1 c2 c3 : Nat) (P : PP) (k : Nat) (x : PS) (hxk : P.stmts[k]? = some x) (w : World) (n0 : Nat) (ad : Nat → Addr) (h : PW w n0 ad a1 a2 a3 c1 c2 c3 P) (hkx : x.isK kStore = true) :
  Calls Tryz.prog 80 #[pval a1 a2 a3 c1 c2 c3 P, .int .i64 (k : Int)] w fun e w' => ∃ av, e = .returned ((P.ruleV k x).val av) ∧ IntsT w' av (P.ruleV k x).args ∧ Ext w w' := by
 obtain ⟨W1, hW1⟩ : ∃ W1, W1 = w.alloc (.cells (pcells a1 a2 a3 c1 c2 c3 P) 26) := ⟨_, rfl⟩
 have hx1 : Ext w W1 := by rw [hW1]; exact (Ext.refl _).alloc _
 obtain ⟨W2, hW2⟩ : ∃ W2, W2 = W1.alloc (.cells #[.string ⟨#[]⟩, .int .i64 0, .int .i64 0, .int .i64 0, .slice none 0 0] 87) := ⟨_, rfl⟩
 have hx2 : Ext W1 W2 := by rw [hW2]; exact (Ext.refl _).alloc _
 have hk : k < P.stmts.length := by
  rcases Nat.lt_or_ge k P.stmts.length with h | h
  ·exact h
  ·rw [List.getElem?_eq_none h] at hxk; cases hxk
 have hml := h.prog.stmts.len
 obtain ⟨y, x', av, cv, rfl, hxk', e0, e1, e2, e3, hI⟩ := (h.prog.ext (hx1.trans hx2)).stmts.at hk
 obtain rfl := Option.some.inj (hxk.symm.trans hxk')
 obtain ⟨W3, hW3⟩ : ∃ W3, W3 = W2.alloc (.cells (scells x av cv) 76) := ⟨_, rfl⟩
 have hx3 : Ext W2 W3 := by rw [hW3]; exact (Ext.refl _).alloc _
 have s1 : W1.heap.size = w.heap.size + 1 := by rw [hW1, heap_size_alloc]
 have s2 : W2.heap.size = w.heap.size + 1 + 1 := by rw [hW2, heap_size_alloc, s1]
 have HX := hid ((hx1.trans hx2).trans hx3)
 have HB0 : Hid (Blk W3 w.heap.size (pcells a1 a2 (some y) c1 c2 c3 P) 26) := hid (by
  have : Blk W1 w.heap.size (pcells a1 a2 (some y) c1 c2 c3 P) 26 := by rw [hW1]; exact Blk.new _ _ _
  exact this.ext (hx2.trans hx3))
 have HB1 : Hid (Blk W3 (w.heap.size + 1) #[.string ⟨#[]⟩, .int .i64 0, .int .i64 0, .int .i64 0, .slice none 0 0] 87) := hid (by
  have : Blk W2 (w.heap.size + 1) #[.string ⟨#[]⟩, .int .i64 0, .int .i64 0, .int .i64 0, .slice none 0 0] 87 := by rw [← s1, hW2]; exact Blk.new _ _ _
  exact this.ext hx3)
 have HB2 : Hid (Blk W3 (w.heap.size + 1 + 1) (scells x av cv) 76) := hid (by rw [← s2, hW3]; exact Blk.new _ _ _)
 have HI := hid (hI.old (hx3.old n0))
 have HPW := hid h
 have Hxk := hid hxk
 rw [hW2, hW1] at e0 e1 e2 e3
 unfold pcells at e0 e1 e2 e3
 have HWe : Hid (W3 = ((w.alloc (.cells #[.slice a1 P.vars.length c1, .slice a2 P.funs.length c2, .slice (some y) P.stmts.length c3] 26)).alloc (.cells #[.string ⟨#[]⟩, .int .i64 0, .int .i64 0, .int .i64 0, .slice none 0 0] 87)).alloc (.cells #[.string x.kind, .int .i64 x.x, .int .i64 x.y, .slice av x.args.length cv] 76)) := hid (by rw [hW3, hW2, hW1]; rfl)
 obtain ⟨hf1, hf2, hf3⟩ := h.well.few
 clear hW1 hW2 hW3 hx1 hx2 hx3 s1 s2 hxk hxk' hI h
 unfold pval
 have h1 : (x.kind.toList == [97, 100, 100, 114]) = false := isK_ne hkx (k' := kAddr) rfl
 have h5 : (x.kind.toList == [110, 101, 119]) = false := isK_ne hkx (k' := kNew) rfl
 have h6 : (x.kind.toList == [102, 117, 110]) = false := isK_ne hkx (k' := kFun) rfl
 have h7 : (x.kind.toList == [99, 97, 108, 108]) = false := isK_ne hkx (k' := kCall) rfl
 have Hr : Hid (P.ruleV k x = ⟨x.kind, x.y, x.x, k, []⟩) := hid (by unfold PP.ruleV; rw [isK_ne hkx (k' := kAddr) rfl, isK_ne hkx (k' := kNew) rfl, isK_ne hkx (k' := kFun) rfl, isK_ne hkx (k' := kCall) rfl]; rfl)
 clear hkx
 clear HWe
 go_enter Tryz.func80, Tryz.ntmps80
 go_wp2
 obtain ⟨V, hV⟩ : ∃ V, V = ((w.alloc (.cells #[.slice a1 P.vars.length c1, .slice a2 P.funs.length c2, .slice (some y) P.stmts.length c3] 26)).alloc (.cells #[.string x.kind, .int .i64 x.y, .int .i64 x.x, .int .i64 (k : Int), .slice none 0 0] 87)).alloc (.cells #[.string x.kind, .int .i64 x.x, .int .i64 x.y, .slice av x.args.length cv] 76) := ⟨_, rfl⟩
 have hxV : Ext w V := by rw [hV]; exact (((Ext.refl _).alloc _).alloc _).alloc _
 have HB9 : Blk V (w.heap.size + 1) #[.string x.kind, .int .i64 x.y, .int .i64 x.x, .int .i64 (k : Int), .slice none 0 0] 87 := by
  rw [hV]
  have := (Blk.new (w.alloc (.cells #[.slice a1 P.vars.length c1, .slice a2 P.funs.length c2, .slice (some y) P.stmts.length c3] 26)) #[.string x.kind, .int .i64 x.y, .int .i64 x.x, .int .i64 (k : Int), .slice none 0 0] 87).alloc (.cells #[.string x.kind, .int .i64 x.x, .int .i64 x.y, .slice av x.args.length cv] 76)
  rwa [heap_size_alloc] at this
 rw [← hV]
 exact bodyPost_ret (v := .agg #[.string x.kind, .int .i64 x.y, .int .i64 x.x, .int .i64 (k : Int), .slice none 0 0]) (by simp [results, Tryz.results80, go_sem, HB9.av 0 rfl, HB9.av 1 rfl, HB9.av 2 rfl, HB9.av 3 rfl, HB9.av 4 rfl]) rfl ⟨_, by rw [Hr.out]; rfl, by rw [Hr.out]; exact IntsT.nil _, hxV⟩
set_option maxRecDepth 100000 in
set_option maxHeartbeats 6400000 in
theorem consrule_new (a1 a2 a3 : Option Addr) (c1 c2 c3 : Nat) (P : PP) (k : Nat) (x : PS) (hxk : P.stmts[k]? = some x) (w : World) (n0 : Nat) (ad : Nat → Addr) (h : PW w n0 ad a1 a2 a3 c1 c2 c3 P) (hkx : x.isK kNew = true) :
  Calls Tryz.prog 80 #[pval a1 a2 a3 c1 c2 c3 P, .int .i64 (k : Int)] w fun e w' => ∃ av, e = .returned ((P.ruleV k x).val av) ∧ IntsT w' av (P.ruleV k x).args ∧ Ext w w' := by
 have HPl := fun w1 (x : Ext w w1) => hid (progplace_any a1 a2 a3 c1 c2 c3 P (k : Int) w1 n0 ad (h.errs.ext x) (h.prog.ext x) h.z1 h.z2 h.well)
 obtain ⟨W1, hW1⟩ : ∃ W1, W1 = w.alloc (.cells (pcells a1 a2 a3 c1 c2 c3 P) 26) := ⟨_, rfl⟩
 have hx1 : Ext w W1 := by rw [hW1]; exact (Ext.refl _).alloc _
 obtain ⟨W2, hW2⟩ : ∃ W2, W2 = W1.alloc (.cells #[.string ⟨#[]⟩, .int .i64 0, .int .i64 0, .int .i64 0, .slice none 0 0] 87) := ⟨_, rfl⟩
 have hx2 : Ext W1 W2 := by rw [hW2]; exact (Ext.refl _).alloc _
 have hk : k < P.stmts.length := by
  rcases Nat.lt_or_ge k P.stmts.length with h | h
  ·exact h
  ·rw [List.getElem?_eq_none h] at hxk; cases hxk
 have hml := h.prog.stmts.len
 obtain ⟨y, x', av, cv, rfl, hxk', e0, e1, e2, e3, hI⟩ := (h.prog.ext (hx1.trans hx2)).stmts.at hk
 obtain rfl := Option.some.inj (hxk.symm.trans hxk')
 obtain ⟨W3, hW3⟩ : ∃ W3, W3 = W2.alloc (.cells (scells x av cv) 76) := ⟨_, rfl⟩
 have hx3 : Ext W2 W3 := by rw [hW3]; exact (Ext.refl _).alloc _
 have s1 : W1.heap.size = w.heap.size + 1 := by rw [hW1, heap_size_alloc]
 have s2 : W2.heap.size = w.heap.size + 1 + 1 := by rw [hW2, heap_size_alloc, s1]
 have HX := hid ((hx1.trans hx2).trans hx3)
 have HB0 : Hid (Blk W3 w.heap.size (pcells a1 a2 (some y) c1 c2 c3 P) 26) := hid (by
  have : Blk W1 w.heap.size (pcells a1 a2 (some y) c1 c2 c3 P) 26 := by rw [hW1]; exact Blk.new _ _ _
  exact this.ext (hx2.trans hx3))
 have HB1 : Hid (Blk W3 (w.heap.size + 1) #[.string ⟨#[]⟩, .int .i64 0, .int .i64 0, .int .i64 0, .slice none 0 0] 87) := hid (by
  have : Blk W2 (w.heap.size + 1) #[.string ⟨#[]⟩, .int .i64 0, .int .i64 0, .int .i64 0, .slice none 0 0] 87 := by rw [← s1, hW2]; exact Blk.new _ _ _
  exact this.ext hx3)
 have HB2 : Hid (Blk W3 (w.heap.size + 1 + 1) (scells x av cv) 76) := hid (by rw [← s2, hW3]; exact Blk.new _ _ _)
 have HI := hid (hI.old (hx3.old n0))
 have HPW := hid h
 have Hxk := hid hxk
 rw [hW2, hW1] at e0 e1 e2 e3
 unfold pcells at e0 e1 e2 e3
 have HWe : Hid (W3 = ((w.alloc (.cells #[.slice a1 P.vars.length c1, .slice a2 P.funs.length c2, .slice (some y) P.stmts.length c3] 26)).alloc (.cells #[.string ⟨#[]⟩, .int .i64 0, .int .i64 0, .int .i64 0, .slice none 0 0] 87)).alloc (.cells #[.string x.kind, .int .i64 x.x, .int .i64 x.y, .slice av x.args.length cv] 76)) := hid (by rw [hW3, hW2, hW1]; rfl)
 obtain ⟨hf1, hf2, hf3⟩ := h.well.few
 clear hW1 hW2 hW3 hx1 hx2 hx3 s1 s2 hxk hxk' hI h
 unfold pval
 unfold pval at HPl
 have h1 : (x.kind.toList == [97, 100, 100, 114]) = false := isK_ne hkx (k' := kAddr) rfl
 have hkk := hkx
 unfold PS.isK kNew at hkk
 have Hr : Hid (P.ruleV k x = ⟨bBase, x.x, P.placeV k, k, []⟩) := hid (by unfold PP.ruleV; rw [isK_ne hkx (k' := kAddr) rfl, hkx]; rfl)
 clear hkx
 have x0 := Ext.refl W3
 have m0 := (HB2.out.ext x0).kc (X := fun _ => False) (fun e => e) 0 rfl
 have m1 := (HB2.out.ext x0).kc (X := fun _ => False) (fun e => e) 1 rfl
 have m2 := (HB2.out.ext x0).kc (X := fun _ => False) (fun e => e) 2 rfl
 have m3 := (HB2.out.ext x0).kc (X := fun _ => False) (fun e => e) 3 rfl
 have d0 := (HB0.out.ext x0).kc (X := fun _ => False) (fun e => e) 0 rfl
 have d1 := (HB0.out.ext x0).kc (X := fun _ => False) (fun e => e) 1 rfl
 have d2 := (HB0.out.ext x0).kc (X := fun _ => False) (fun e => e) 2 rfl
 simp only [pcells, scells, qA0, qA1, qA2] at m0 m1 m2 m3 d0 d1 d2
 clear x0
 go_enter Tryz.func80, Tryz.ntmps80
 go_wp2
 rw [← HWe.out]
 refine wp_flowT (fun _ => False) (by kernel_rfl) (by kernel_rfl) ?_
 repeat (apply FlowT.d; (intro w1 hk; unfold does; go_simp; (try go_ints); (first | exact DetR.mk | (simp only [↓IntWalk.iteOmega, Oper.doesUpon_value]; exact DetR.mk) | (simp only [↓IntWalk.iteOmega]; go_simp; (try go_ints); exact DetR.mk))); simp only [Act.put, qS0, qS1, qS2])
 apply FlowT.d
 ·intro w1 hk
  unfold does
  go_simp
  exact CallR.det ((HPl w1 (HX.out.trans hk.ext)).out)
 simp only [Act.put, qS0, qS1, qS2]
 repeat (apply FlowT.d; (intro w1 hk; unfold does; go_simp; (try go_ints); (first | exact DetR.mk | (simp only [↓IntWalk.iteOmega, Oper.doesUpon_value]; exact DetR.mk) | (simp only [↓IntWalk.iteOmega]; go_simp; (try go_ints); exact DetR.mk))); simp only [Act.put, qS0, qS1, qS2])
 refine FlowT.last (fun _ w' => Blk w' (w.heap.size + 1) #[.string ⟨#[98, 97, 115, 101]⟩, .int .i64 x.x, .int .i64 (P.placeV k), .int .i64 (k : Int), .slice none 0 0] 87 ∧ IntsT w' (.slice none 0 0) (P.ruleV k x).args ∧ Ext w w') 7 rfl (by kernel_rfl) (by kernel_rfl) (fun w1 hC hk => ?_) (fun _ w2 hR => ?_)
 ·have hB := HB1.out.ext hC
  have c0 := hB.av 0 rfl
  have c1 := hB.av 1 rfl
  have c2 := hB.av 2 rfl
  have c3 := hB.av 3 rfl
  have c4 := hB.av 4 rfl
  have f0 := hB.free
  unfold does
  go_simp
  exact ⟨store5 hB, by rw [Hr.out]; exact IntsT.nil _, Keep.new (HX.out.trans hC) (store5_keep _ _ _ _ _ _ _) (fun b hb => by omega)⟩
 obtain ⟨hB, hT, hxw⟩ := hR
 simp only [Act.put]
 have HT := hid hT
 have HBw := hid hB
 clear hT
 go_wp2
 exact bodyPost_ret (v := .agg #[.string ⟨#[98, 97, 115, 101]⟩, .int .i64 x.x, .int .i64 (P.placeV k), .int .i64 (k : Int), .slice none 0 0]) (by simp [results, Tryz.results80, go_sem, hB.av 0 rfl, hB.av 1 rfl, hB.av 2 rfl, hB.av 3 rfl, hB.av 4 rfl]) rfl ⟨_, by rw [Hr.out]; rfl, HT.out, hxw⟩
set_option maxRecDepth 100000 in
set_option maxHeartbeats 6400000 in
theorem consrule_fun (a1 a2 a3 : Option Addr) (c1 c2 c3 : Nat) (P : PP) (k : Nat) (x : PS) (hxk : P.stmts[k]? = some x) (w : World) (n0 : Nat) (ad : Nat → Addr) (h : PW w n0 ad a1 a2 a3 c1 c2 c3 P) (hkx : x.isK kFun = true) :
  Calls Tryz.prog 80 #[pval a1 a2 a3 c1 c2 c3 P, .int .i64 (k : Int)] w fun e w' => ∃ av, e = .returned ((P.ruleV k x).val av) ∧ IntsT w' av (P.ruleV k x).args ∧ Ext w w' := by
 have HNo := fun w1 (x : Ext w w1) => hid (prognodes_any a1 a2 a3 c1 c2 c3 P w1 n0 ad (h.errs.ext x) (h.prog.ext x) h.z1 h.z2 h.well)
 have hg := (PP.good (h.well.2 k x (by
  rcases Nat.lt_or_ge k P.stmts.length with h | h
  ·exact h
  ·rw [List.getElem?_eq_none h] at hxk; cases hxk) hxk)).yf hkx
 have hnl := P.nodesV_le2
 obtain ⟨W1, hW1⟩ : ∃ W1, W1 = w.alloc (.cells (pcells a1 a2 a3 c1 c2 c3 P) 26) := ⟨_, rfl⟩
 have hx1 : Ext w W1 := by rw [hW1]; exact (Ext.refl _).alloc _
 obtain ⟨W2, hW2⟩ : ∃ W2, W2 = W1.alloc (.cells #[.string ⟨#[]⟩, .int .i64 0, .int .i64 0, .int .i64 0, .slice none 0 0] 87) := ⟨_, rfl⟩
 have hx2 : Ext W1 W2 := by rw [hW2]; exact (Ext.refl _).alloc _
 have hk : k < P.stmts.length := by
  rcases Nat.lt_or_ge k P.stmts.length with h | h
  ·exact h
  ·rw [List.getElem?_eq_none h] at hxk; cases hxk
 have hml := h.prog.stmts.len
 obtain ⟨y, x', av, cv, rfl, hxk', e0, e1, e2, e3, hI⟩ := (h.prog.ext (hx1.trans hx2)).stmts.at hk
 obtain rfl := Option.some.inj (hxk.symm.trans hxk')
 obtain ⟨W3, hW3⟩ : ∃ W3, W3 = W2.alloc (.cells (scells x av cv) 76) := ⟨_, rfl⟩
 have hx3 : Ext W2 W3 := by rw [hW3]; exact (Ext.refl _).alloc _
 have s1 : W1.heap.size = w.heap.size + 1 := by rw [hW1, heap_size_alloc]
 have s2 : W2.heap.size = w.heap.size + 1 + 1 := by rw [hW2, heap_size_alloc, s1]
 have HX := hid ((hx1.trans hx2).trans hx3)
 have HB0 : Hid (Blk W3 w.heap.size (pcells a1 a2 (some y) c1 c2 c3 P) 26) := hid (by
  have : Blk W1 w.heap.size (pcells a1 a2 (some y) c1 c2 c3 P) 26 := by rw [hW1]; exact Blk.new _ _ _
  exact this.ext (hx2.trans hx3))
 have HB1 : Hid (Blk W3 (w.heap.size + 1) #[.string ⟨#[]⟩, .int .i64 0, .int .i64 0, .int .i64 0, .slice none 0 0] 87) := hid (by
  have : Blk W2 (w.heap.size + 1) #[.string ⟨#[]⟩, .int .i64 0, .int .i64 0, .int .i64 0, .slice none 0 0] 87 := by rw [← s1, hW2]; exact Blk.new _ _ _
  exact this.ext hx3)
 have HB2 : Hid (Blk W3 (w.heap.size + 1 + 1) (scells x av cv) 76) := hid (by rw [← s2, hW3]; exact Blk.new _ _ _)
 have HI := hid (hI.old (hx3.old n0))
 have HPW := hid h
 have Hxk := hid hxk
 rw [hW2, hW1] at e0 e1 e2 e3
 unfold pcells at e0 e1 e2 e3
 have HWe : Hid (W3 = ((w.alloc (.cells #[.slice a1 P.vars.length c1, .slice a2 P.funs.length c2, .slice (some y) P.stmts.length c3] 26)).alloc (.cells #[.string ⟨#[]⟩, .int .i64 0, .int .i64 0, .int .i64 0, .slice none 0 0] 87)).alloc (.cells #[.string x.kind, .int .i64 x.x, .int .i64 x.y, .slice av x.args.length cv] 76)) := hid (by rw [hW3, hW2, hW1]; rfl)
 obtain ⟨hf1, hf2, hf3⟩ := h.well.few
 clear hW1 hW2 hW3 hx1 hx2 hx3 s1 s2 hxk hxk' hI h
 unfold pval
 unfold pval at HNo
 have h1 : (x.kind.toList == [97, 100, 100, 114]) = false := isK_ne hkx (k' := kAddr) rfl
 have h5 : (x.kind.toList == [110, 101, 119]) = false := isK_ne hkx (k' := kNew) rfl
 have hkk := hkx
 unfold PS.isK kFun at hkk
 obtain ⟨N, hN⟩ : ∃ N, N = P.nodesV := ⟨_, rfl⟩
 have Hr : Hid (P.ruleV k x = ⟨bBase, x.x, (N : Int) + x.y, k, []⟩) := hid (by unfold PP.ruleV; rw [isK_ne hkx (k' := kAddr) rfl, isK_ne hkx (k' := kNew) rfl, hkx, hN]; rfl)
 rw [← hN] at HNo hnl
 obtain ⟨hg1, hg2⟩ := hg
 clear hkx hN
 have x0 := Ext.refl W3
 have m0 := (HB2.out.ext x0).kc (X := fun _ => False) (fun e => e) 0 rfl
 have m1 := (HB2.out.ext x0).kc (X := fun _ => False) (fun e => e) 1 rfl
 have m2 := (HB2.out.ext x0).kc (X := fun _ => False) (fun e => e) 2 rfl
 have m3 := (HB2.out.ext x0).kc (X := fun _ => False) (fun e => e) 3 rfl
 have d0 := (HB0.out.ext x0).kc (X := fun _ => False) (fun e => e) 0 rfl
 have d1 := (HB0.out.ext x0).kc (X := fun _ => False) (fun e => e) 1 rfl
 have d2 := (HB0.out.ext x0).kc (X := fun _ => False) (fun e => e) 2 rfl
 simp only [pcells, scells, qA0, qA1, qA2] at m0 m1 m2 m3 d0 d1 d2
 clear x0
 go_enter Tryz.func80, Tryz.ntmps80
 go_wp2
 rw [← HWe.out]
 refine wp_flowT (fun _ => False) (by kernel_rfl) (by kernel_rfl) ?_
 repeat (apply FlowT.d; (intro w1 hk; unfold does; go_simp; (try go_ints); (first | exact DetR.mk | (simp only [↓IntWalk.iteOmega, Oper.doesUpon_value]; exact DetR.mk) | (simp only [↓IntWalk.iteOmega]; go_simp; (try go_ints); exact DetR.mk))); simp only [Act.put, qS0, qS1, qS2])
 apply FlowT.d
 ·intro w1 hk
  unfold does
  go_simp
  exact CallR.det ((HNo w1 (HX.out.trans hk.ext)).out)
 simp only [Act.put, qS0, qS1, qS2]
 repeat (apply FlowT.d; (intro w1 hk; unfold does; go_simp; (try go_ints); (first | exact DetR.mk | (simp only [↓IntWalk.iteOmega, Oper.doesUpon_value]; exact DetR.mk) | (simp only [↓IntWalk.iteOmega]; go_simp; (try go_ints); exact DetR.mk))); simp only [Act.put, qS0, qS1, qS2])
 refine FlowT.last (fun _ w' => Blk w' (w.heap.size + 1) #[.string ⟨#[98, 97, 115, 101]⟩, .int .i64 x.x, .int .i64 ((N : Int) + x.y), .int .i64 (k : Int), .slice none 0 0] 87 ∧ IntsT w' (.slice none 0 0) (P.ruleV k x).args ∧ Ext w w') 9 rfl (by kernel_rfl) (by kernel_rfl) (fun w1 hC hk => ?_) (fun _ w2 hR => ?_)
 ·have hB := HB1.out.ext hC
  have c0 := hB.av 0 rfl
  have c1 := hB.av 1 rfl
  have c2 := hB.av 2 rfl
  have c3 := hB.av 3 rfl
  have c4 := hB.av 4 rfl
  have f0 := hB.free
  unfold does
  go_simp
  exact ⟨store5 hB, by rw [Hr.out]; exact IntsT.nil _, Keep.new (HX.out.trans hC) (store5_keep _ _ _ _ _ _ _) (fun b hb => by omega)⟩
 obtain ⟨hB, hT, hxw⟩ := hR
 simp only [Act.put]
 have HT := hid hT
 have HBw := hid hB
 clear hT
 go_wp2
 exact bodyPost_ret (v := .agg #[.string ⟨#[98, 97, 115, 101]⟩, .int .i64 x.x, .int .i64 ((N : Int) + x.y), .int .i64 (k : Int), .slice none 0 0]) (by simp [results, Tryz.results80, go_sem, hB.av 0 rfl, hB.av 1 rfl, hB.av 2 rfl, hB.av 3 rfl, hB.av 4 rfl]) rfl ⟨_, by rw [Hr.out]; rfl, HT.out, hxw⟩
theorem call_few {P : PP} {x : PS} (h0 : P.stmtErr x = 0) (h : x.isK kCall = true) : x.args.length ≤ 3 := by
 unfold PP.stmtErr at h0
 cases h1 : memB x.kind kindsS with
 | false => rw [h1] at h0; simp at h0
 | true =>
  cases h2 : P.bound x with
  | false => rw [h1, h2] at h0; simp at h0
  | true =>
   rw [h1, h2, h] at h0
   rcases Nat.lt_or_ge 3 x.args.length with h3 | h3
   ·simp [h3] at h0
   ·exact h3
set_option maxRecDepth 100000 in
set_option maxHeartbeats 6400000 in
theorem consrule_call (a1 a2 a3 : Option Addr) (c1 c2 c3 : Nat) (P : PP) (k : Nat) (x : PS) (hxk : P.stmts[k]? = some x) (w : World) (n0 : Nat) (ad : Nat → Addr) (h : PW w n0 ad a1 a2 a3 c1 c2 c3 P) (hkx : x.isK kCall = true) :
  Calls Tryz.prog 80 #[pval a1 a2 a3 c1 c2 c3 P, .int .i64 (k : Int)] w fun e w' => ∃ av, e = .returned ((P.ruleV k x).val av) ∧ IntsT w' av (P.ruleV k x).args ∧ Ext w w' := by
 have hfew := call_few (h.well.2 k x (by
  rcases Nat.lt_or_ge k P.stmts.length with h | h
  ·exact h
  ·rw [List.getElem?_eq_none h] at hxk; cases hxk) hxk) hkx
 obtain ⟨W1, hW1⟩ : ∃ W1, W1 = w.alloc (.cells (pcells a1 a2 a3 c1 c2 c3 P) 26) := ⟨_, rfl⟩
 have hx1 : Ext w W1 := by rw [hW1]; exact (Ext.refl _).alloc _
 obtain ⟨W2, hW2⟩ : ∃ W2, W2 = W1.alloc (.cells #[.string ⟨#[]⟩, .int .i64 0, .int .i64 0, .int .i64 0, .slice none 0 0] 87) := ⟨_, rfl⟩
 have hx2 : Ext W1 W2 := by rw [hW2]; exact (Ext.refl _).alloc _
 have hk : k < P.stmts.length := by
  rcases Nat.lt_or_ge k P.stmts.length with h | h
  ·exact h
  ·rw [List.getElem?_eq_none h] at hxk; cases hxk
 have hml := h.prog.stmts.len
 obtain ⟨y, x', av, cv, rfl, hxk', e0, e1, e2, e3, hI⟩ := (h.prog.ext (hx1.trans hx2)).stmts.at hk
 obtain rfl := Option.some.inj (hxk.symm.trans hxk')
 obtain ⟨W3, hW3⟩ : ∃ W3, W3 = W2.alloc (.cells (scells x av cv) 76) := ⟨_, rfl⟩
 have hx3 : Ext W2 W3 := by rw [hW3]; exact (Ext.refl _).alloc _
 have s1 : W1.heap.size = w.heap.size + 1 := by rw [hW1, heap_size_alloc]
 have s2 : W2.heap.size = w.heap.size + 1 + 1 := by rw [hW2, heap_size_alloc, s1]
 have HX := hid ((hx1.trans hx2).trans hx3)
 have HB0 : Hid (Blk W3 w.heap.size (pcells a1 a2 (some y) c1 c2 c3 P) 26) := hid (by
  have : Blk W1 w.heap.size (pcells a1 a2 (some y) c1 c2 c3 P) 26 := by rw [hW1]; exact Blk.new _ _ _
  exact this.ext (hx2.trans hx3))
 have HB1 : Hid (Blk W3 (w.heap.size + 1) #[.string ⟨#[]⟩, .int .i64 0, .int .i64 0, .int .i64 0, .slice none 0 0] 87) := hid (by
  have : Blk W2 (w.heap.size + 1) #[.string ⟨#[]⟩, .int .i64 0, .int .i64 0, .int .i64 0, .slice none 0 0] 87 := by rw [← s1, hW2]; exact Blk.new _ _ _
  exact this.ext hx3)
 have HB2 : Hid (Blk W3 (w.heap.size + 1 + 1) (scells x av cv) 76) := hid (by rw [← s2, hW3]; exact Blk.new _ _ _)
 have HI := hid (hI.old (hx3.old n0))
 have HPW := hid h
 have Hxk := hid hxk
 rw [hW2, hW1] at e0 e1 e2 e3
 unfold pcells at e0 e1 e2 e3
 have HWe : Hid (W3 = ((w.alloc (.cells #[.slice a1 P.vars.length c1, .slice a2 P.funs.length c2, .slice (some y) P.stmts.length c3] 26)).alloc (.cells #[.string ⟨#[]⟩, .int .i64 0, .int .i64 0, .int .i64 0, .slice none 0 0] 87)).alloc (.cells #[.string x.kind, .int .i64 x.x, .int .i64 x.y, .slice av x.args.length cv] 76)) := hid (by rw [hW3, hW2, hW1]; rfl)
 obtain ⟨hf1, hf2, hf3⟩ := h.well.few
 clear hW1 hW2 hW3 hx1 hx2 hx3 s1 s2 hxk hxk' hI h
 unfold pval
 have HCl := fun w1 (y : Ext W3 w1) => hid (clone_big (.slice av x.args.length cv) x.args w1 n0 (HI.out.old (y.old n0)) (by omega))
 have h1 : (x.kind.toList == [97, 100, 100, 114]) = false := isK_ne hkx (k' := kAddr) rfl
 have h5 : (x.kind.toList == [110, 101, 119]) = false := isK_ne hkx (k' := kNew) rfl
 have h6 : (x.kind.toList == [102, 117, 110]) = false := isK_ne hkx (k' := kFun) rfl
 have hkk := hkx
 unfold PS.isK kCall at hkk
 have Hr : Hid (P.ruleV k x = ⟨bCall, x.y, x.x, k, x.args⟩) := hid (by unfold PP.ruleV; rw [isK_ne hkx (k' := kAddr) rfl, isK_ne hkx (k' := kNew) rfl, isK_ne hkx (k' := kFun) rfl, hkx]; rfl)
 clear hkx
 have x0 := Ext.refl W3
 have m0 := (HB2.out.ext x0).kc (X := fun _ => False) (fun e => e) 0 rfl
 have m1 := (HB2.out.ext x0).kc (X := fun _ => False) (fun e => e) 1 rfl
 have m2 := (HB2.out.ext x0).kc (X := fun _ => False) (fun e => e) 2 rfl
 have m3 := (HB2.out.ext x0).kc (X := fun _ => False) (fun e => e) 3 rfl
 have d0 := (HB0.out.ext x0).kc (X := fun _ => False) (fun e => e) 0 rfl
 have d1 := (HB0.out.ext x0).kc (X := fun _ => False) (fun e => e) 1 rfl
 have d2 := (HB0.out.ext x0).kc (X := fun _ => False) (fun e => e) 2 rfl
 simp only [pcells, scells, qA0, qA1, qA2] at m0 m1 m2 m3 d0 d1 d2
 clear x0
 go_enter Tryz.func80, Tryz.ntmps80
 go_wp2
 rw [← HWe.out]
 refine wp_flowT (fun _ => False) (by kernel_rfl) (by kernel_rfl) ?_
 repeat (apply FlowT.d; (intro w1 hk; unfold does; go_simp; (try go_ints); (first | exact DetR.mk | (simp only [↓IntWalk.iteOmega, Oper.doesUpon_value]; exact DetR.mk) | (simp only [↓IntWalk.iteOmega]; go_simp; (try go_ints); exact DetR.mk))); simp only [Act.put, qS0, qS1, qS2])
 refine FlowT.s (fun v w' => (∃ a c, v = .slice a x.args.length c) ∧ IntsT w' v x.args ∧ Ext W3 w') 7 rfl (by kernel_rfl) (fun _ _ _ ⟨h1, h2, h3⟩ y => ⟨h1, h2.ext y, h3.trans y⟩) (fun w1 hC hk => ?_) ?_
 ·unfold does
  go_simp
  refine CallR.act ((HCl w1 hC).out.mono ?_)
  rintro e w2 ⟨v, rfl, hx, hr⟩
  exact ⟨v, rfl, (hC.trans hx).keep _, hr.form, IntsT.of_row hr, hC.trans hx⟩
 rintro _ ⟨_, ⟨a9, c9, rfl⟩, _, _⟩
 simp only [Act.put, qS0, qS1, qS2]
 repeat (apply FlowT.d; (intro w1 hk; unfold does; go_simp; (try go_ints); (first | exact DetR.mk | (simp only [↓IntWalk.iteOmega, Oper.doesUpon_value]; exact DetR.mk) | (simp only [↓IntWalk.iteOmega]; go_simp; (try go_ints); exact DetR.mk))); simp only [Act.put, qS0, qS1, qS2])
 refine FlowT.last (fun _ w' => Blk w' (w.heap.size + 1) #[.string ⟨#[99, 97, 108, 108]⟩, .int .i64 x.y, .int .i64 x.x, .int .i64 (k : Int), .slice a9 x.args.length c9] 87 ∧ IntsT w' (.slice a9 x.args.length c9) (P.ruleV k x).args ∧ Ext w w') 9 rfl (by kernel_rfl) (by kernel_rfl) (fun w1 hC hk => ?_) (fun _ w2 hR => ?_)
 ·obtain ⟨_, hT, hC⟩ := hC
  have hB := HB1.out.ext hC
  have c0 := hB.av 0 rfl
  have c1 := hB.av 1 rfl
  have c2 := hB.av 2 rfl
  have c3 := hB.av 3 rfl
  have c4 := hB.av 4 rfl
  have f0 := hB.free
  unfold does
  go_simp
  exact ⟨store5 hB, by rw [Hr.out]; exact store5_old hT hB _ _ _ _ _, Keep.new (HX.out.trans hC) (store5_keep _ _ _ _ _ _ _) (fun b hb => by omega)⟩
 obtain ⟨hB, hT, hxw⟩ := hR
 simp only [Act.put]
 have HT := hid hT
 have HBw := hid hB
 clear hT
 go_wp2
 exact bodyPost_ret (v := .agg #[.string ⟨#[99, 97, 108, 108]⟩, .int .i64 x.y, .int .i64 x.x, .int .i64 (k : Int), .slice a9 x.args.length c9]) (by simp [results, Tryz.results80, go_sem, hB.av 0 rfl, hB.av 1 rfl, hB.av 2 rfl, hB.av 3 rfl, hB.av 4 rfl]) rfl ⟨_, by rw [Hr.out]; rfl, HT.out, hxw⟩
theorem consrule_any (a1 a2 a3 : Option Addr) (c1 c2 c3 : Nat) (P : PP) (k : Nat) (x : PS) (hxk : P.stmts[k]? = some x) (w : World) (n0 : Nat) (ad : Nat → Addr) (h : PW w n0 ad a1 a2 a3 c1 c2 c3 P) :
  Calls Tryz.prog 80 #[pval a1 a2 a3 c1 c2 c3 P, .int .i64 (k : Int)] w fun e w' => ∃ av, e = .returned ((P.ruleV k x).val av) ∧ IntsT w' av (P.ruleV k x).args ∧ Ext w w' := by
 have hk : k < P.stmts.length := by
  rcases Nat.lt_or_ge k P.stmts.length with h | h
  ·exact h
  ·rw [List.getElem?_eq_none h] at hxk; cases hxk
 rcases kind_cases (h.well.2 k x hk hxk) with g | g | g | g | g | g | g
 ·exact consrule_addr a1 a2 a3 c1 c2 c3 P k x hxk w n0 ad h g
 ·exact consrule_copy a1 a2 a3 c1 c2 c3 P k x hxk w n0 ad h g
 ·exact consrule_load a1 a2 a3 c1 c2 c3 P k x hxk w n0 ad h g
 ·exact consrule_store a1 a2 a3 c1 c2 c3 P k x hxk w n0 ad h g
 ·exact consrule_new a1 a2 a3 c1 c2 c3 P k x hxk w n0 ad h g
 ·exact consrule_fun a1 a2 a3 c1 c2 c3 P k x hxk w n0 ad h g
 ·exact consrule_call a1 a2 a3 c1 c2 c3 P k x hxk w n0 ad h g
structure R2 where
 r : RV
 v : Value
def R2.cells (x : R2) : List Value := [.string x.r.kind, .int .i64 x.r.a, .int .i64 x.r.b, .int .i64 x.r.k, x.v]
theorem R2.cells_len (x : R2) : x.cells.length = 5 := rfl
structure RulesT (w : World) (base : Nat) (v : Value) (L : List RV) (rs : List R2) : Prop where
 eq : rs.map R2.r = L
 row : w.ownsRow base 87 5 v L.length (rs.flatMap R2.cells)
 args : ∀ x ∈ rs, IntsT w x.v x.r.args
theorem RulesT.ext {w w' : World} {base : Nat} {v : Value} {L : List RV} {rs : List R2} (h : RulesT w base v L rs) (x : Ext w w') : RulesT w' base v L rs := ⟨h.eq, own_ext h.row x, fun y hy => (h.args y hy).ext x⟩
theorem RulesT.low {w : World} {base b2 : Nat} {v : Value} {L : List RV} {rs : List R2} (h : RulesT w base v L rs) (hb : b2 ≤ base) : RulesT w b2 v L rs := ⟨h.eq, own_low h.row hb, h.args⟩
def PP.stAt (P : PP) (k : Nat) : PS := P.stmts.getD k ⟨⟨#[]⟩, 0, 0, []⟩
def PP.rulesUp (P : PP) (n : Nat) : List RV := (List.range n).map fun k => P.ruleV k (P.stAt k)
def PP.rulesV (P : PP) : List RV := P.rulesUp P.stmts.length
theorem PP.rulesUp_succ (P : PP) (n : Nat) : P.rulesUp (n + 1) = P.rulesUp n ++ [P.ruleV n (P.stAt n)] := by
 unfold PP.rulesUp; rw [List.range_succ, List.map_append]; rfl
theorem PP.rulesUp_len (P : PP) (n : Nat) : (P.rulesUp n).length = n := by simp [PP.rulesUp]
theorem stAt_some {P : PP} {k : Nat} (h : k < P.stmts.length) : P.stmts[k]? = some (P.stAt k) := by
 unfold PP.stAt
 rw [List.getD_eq_getElem?_getD, List.getElem?_eq_getElem h]; rfl
theorem rule_info : (Tryz.prog.info? 87).map (fun i => (i.zero, i.size, i.bytes)) = some (some (.agg #[.string ⟨#[]⟩, .int .i64 0, .int .i64 0, .int .i64 0, .slice none 0 0]), 5, 64) := by kernel_rfl
set_option maxRecDepth 100000 in
set_option maxHeartbeats 3200000 in
theorem consof_yes (a1 a2 a3 : Option Addr) (c1 c2 c3 : Nat) (P : PP) (w : World) (n0 : Nat) (ad : Nat → Addr) (h : PW w n0 ad a1 a2 a3 c1 c2 c3 P) :
  Calls Tryz.prog 34 #[pval a1 a2 a3 c1 c2 c3 P] w fun e w' => ∃ v rs, e = .returned (.tuple #[v, .nilIface]) ∧ RulesT w' w.heap.size v P.rulesV rs ∧ Ext w w' := by
 have HRu := fun k (hk : k < P.stmts.length) w1 (x : Ext w w1) => hid (consrule_any a1 a2 a3 c1 c2 c3 P k _ (stAt_some hk) w1 n0 ad (h.ext x))
 obtain ⟨W, hW⟩ : ∃ W, W = w.alloc (.cells (pcells a1 a2 a3 c1 c2 c3 P) 26) := ⟨_, rfl⟩
 have HX : Hid (Ext w W) := hid (by rw [hW]; exact (Ext.refl _).alloc _)
 have HBx : Hid (Blk W w.heap.size (pcells a1 a2 a3 c1 c2 c3 P) 26) := hid (by rw [hW]; exact Blk.new _ _ _)
 have HWe : Hid (W = w.alloc (.cells #[.slice a1 P.vars.length c1, .slice a2 P.funs.length c2, .slice a3 P.stmts.length c3] 26)) := hid (by rw [hW]; rfl)
 have HK := hid (check_well (h.errs.ext HX.out) (h.prog.ext HX.out) h.z1 h.z2 h.well)
 obtain ⟨hf1, hf2, hf3⟩ := h.well.few
 have d0 := HBx.out.av 0 rfl
 have d1 := HBx.out.av 1 rfl
 have d2 := HBx.out.av 2 rfl
 simp only [pcells, qA0, qA1, qA2] at d0 d1 d2
 unfold pval at HK HRu ⊢
 clear hW h
 go_enter Tryz.func34, Tryz.ntmps34
 go_wp2_with fail
 rw [← HWe.out]
 refine HK.out.mono ?_
 intro e w1 hx
 obtain ⟨rfl, hx1⟩ := hx
 have Hx1 := hid hx1
 clear HK hx1 d0 d1 d2
 have d2 := (HBx.out.ext Hx1.out).av 2 rfl
 simp only [pcells, qA0, qA1, qA2] at d2
 go_wp2
 go_loopw [5, 15] (fun t5 t15 wr => ∃ (k : Nat) (rs : List R2), t15 = .int .i64 (k : Int) ∧ k ≤ P.stmts.length ∧ rs.map R2.r = P.rulesUp k ∧ wr.ownsRow W.heap.size 87 5 t5 k (rs.flatMap R2.cells) ∧ (∀ x ∈ rs, IntsT wr x.v x.r.args) ∧ Ext W wr) (fun _ t15 _ => P.stmts.length - (intOf t15).toNat)
 case atStart => exact ⟨0, [], rfl, Nat.zero_le _, rfl, World.ownsRow_nil _ _ _ _, (fun x h => by cases h), Hx1.out⟩
 case round =>
  obtain ⟨k, rs, rfl, hk, he, hr, ha, hx⟩ := hrel
  obtain ⟨a5, c5, rfl⟩ := row_form hr
  have He := hid he
  have Hr := hid hr
  have Ha := hid ha
  have Hx := hid hx
  clear he hr ha hx d2
  by_cases hlt : k < P.stmts.length
  ·have HC := HRu k hlt wr (HX.out.trans Hx.out)
   obtain ⟨r, hr⟩ : ∃ r, r = P.ruleV k (P.stAt k) := ⟨_, rfl⟩
   rw [← hr] at HC
   have Hrr := hid hr
   have d0 := (HBx.out.ext Hx.out).av 0 rfl
   have d1 := (HBx.out.ext Hx.out).av 1 rfl
   have d2 := (HBx.out.ext Hx.out).av 2 rfl
   simp only [pcells, qA0, qA1, qA2] at d0 d1 d2
   clear HRu hr
   go_wp2_with fail
   refine HC.out.mono ?_
   intro e w2 hx
   obtain ⟨av, rfl, hT, hx2⟩ := hx
   obtain ⟨aa, ca, rfl⟩ := hT.form
   unfold RV.val
   have hxa : Hid (Ext w (w2.alloc (.cells #[.string r.kind, .int .i64 r.a, .int .i64 r.b, .int .i64 r.k, .slice aa r.args.length ca] 87))) := hid (((HX.out.trans Hx.out).trans hx2).alloc _)
   have hra : Ext wr (w2.alloc (.cells #[.string r.kind, .int .i64 r.a, .int .i64 r.b, .int .i64 r.k, .slice aa r.args.length ca] 87)) := hx2.alloc _
   have Hra := hid (own_ext Hr.out hra)
   have Hxr := hid ((Hx.out.trans hra))
   have Haa : Hid (∀ x ∈ rs ++ [⟨r, .slice aa r.args.length ca⟩], IntsT (w2.alloc (.cells #[.string r.kind, .int .i64 r.a, .int .i64 r.b, .int .i64 r.k, .slice aa r.args.length ca] 87)) x.v x.r.args) := hid fun x hx => by
    rcases List.mem_append.1 hx with hx | hx
    ·exact (Ha.out x hx).ext hra
    ·obtain rfl := List.mem_singleton.1 hx
     exact hT.ext ((Ext.refl _).alloc _)
   clear HC hT hx2 hra d0 d1 d2
   go_wp2_with (at_builtin; refine wpList_append_el W.heap.size Hxr.out.size 79 87 (.agg #[.string ⟨#[]⟩, .int .i64 0, .int .i64 0, .int .i64 0, .slice none 0 0]) 5 64 Tryz.underlying79 rule_info rfl (by omega) (by omega) rfl _ _ rfl (.slice a5 k c5) k (rs.flatMap R2.cells) rfl Hra.out w2.heap.size [.string r.kind, .int .i64 r.a, .int .i64 r.b, .int .i64 r.k, .slice aa r.args.length ca] rfl (by simp [Value.oneCell']) rfl (Blk.new _ _ _) (by omega) ?_; intro v' w' h1 h2 h4; obtain ⟨a', c', rfl⟩ := row_form h1; have h3 := hid (Keep.new Hxr.out h2 (fun k hk => (World.ownsRow.lt Hra.out k hk).1)); have ha5 := hid (fun x hx => (Haa.out x hx).keep h2 (fun b e => by obtain ⟨c, hc⟩ := own_ty Hra.out e; exact IsInt.not hc (by decide))); have h1 := hid h1; clear h2 h4)
   go_roundw
   case rel =>
    refine ⟨k + 1, rs ++ [⟨r, .slice aa r.args.length ca⟩], by go_num, by omega, ?_, ?_, ha5.out, h3.out⟩
    ·rw [List.map_append, He.out, PP.rulesUp_succ, ← Hrr.out]; rfl
    ·rw [List.flatMap_append]; simpa [R2.cells] using h1.out
   case measure => simp [intOf]; omega
  ·obtain rfl : k = P.stmts.length := by omega
   clear HRu
   go_wp2
   go_ret2
   exact ⟨_, rs, rfl, ⟨He.out, by rw [show P.rulesV.length = P.stmts.length from P.rulesUp_len _]; exact own_low Hr.out HX.out.size, Ha.out⟩, HX.out.trans Hx.out⟩
set_option maxRecDepth 100000 in
set_option maxHeartbeats 1600000 in
theorem consof_no (a1 a2 a3 : Option Addr) (c1 c2 c3 : Nat) (P : PP) (w : World) (n0 : Nat) (ad : Nat → Addr) (hE : ErrsP w ad) (h : ProgR w n0 (.slice a1 P.vars.length c1) (.slice a2 P.funs.length c2) (.slice a3 P.stmts.length c3) P)
  (hz1 : ∀ s ∈ P.vars, s.size ≤ 1000000) (hz2 : ∀ s ∈ P.names, s.size ≤ 1000000) (hw : ¬ P.Well) :
  Calls Tryz.prog 34 #[pval a1 a2 a3 c1 c2 c3 P] w fun e w' => ∃ t x, e = .returned (.tuple #[.slice none 0 0, .iface t (.pointer (some x))]) ∧ ErrIs ad P w' (.iface t (.pointer (some x))) ∧ Ext w w' := by
 obtain ⟨W, hW⟩ : ∃ W, W = w.alloc (.cells (pcells a1 a2 a3 c1 c2 c3 P) 26) := ⟨_, rfl⟩
 have HX : Hid (Ext w W) := hid (by rw [hW]; exact (Ext.refl _).alloc _)
 have HBx : Hid (Blk W w.heap.size (pcells a1 a2 a3 c1 c2 c3 P) 26) := hid (by rw [hW]; exact Blk.new _ _ _)
 have HWe : Hid (W = w.alloc (.cells #[.slice a1 P.vars.length c1, .slice a2 P.funs.length c2, .slice a3 P.stmts.length c3] 26)) := hid (by rw [hW]; rfl)
 have hml : (P.vars.length : Int) ≤ 9223372036854775807 := by
  obtain ⟨_, _, _, h2, h3, _⟩ := h.vars
  omega
 have HK := hid (pcheck_any a1 a2 a3 c1 c2 c3 P W n0 ad (hE.ext HX.out) (h.ext HX.out) hz1 hz2 hml)
 have Hw := hid hw
 have d0 := HBx.out.av 0 rfl
 have d1 := HBx.out.av 1 rfl
 have d2 := HBx.out.av 2 rfl
 simp only [pcells, qA0, qA1, qA2] at d0 d1 d2
 unfold pval at HK ⊢
 clear hW h hE hw
 go_enter Tryz.func34, Tryz.ntmps34
 go_wp2_with fail
 rw [← HWe.out]
 refine HK.out.mono ?_
 intro e w1 hx
 obtain ⟨v, rfl, hi, hx1⟩ := hx
 obtain ⟨t, x, rfl⟩ : ∃ t x, v = .iface t (.pointer (some x)) := by
  rcases hi.form with ⟨_, h⟩ | ⟨h, _⟩
  ·exact absurd h Hw.out
  ·exact h
 have Hi := hid hi
 have Hx1 := hid (HX.out.trans hx1)
 clear HK hx1 hi d0 d1 d2
 go_wp2
 go_ret2
 exact ⟨t, x, rfl, Hi.out, Hx1.out⟩
def calledV (f : PF) (r : RV) : List (Int × Int) := if f.params.length = r.args.length then (f.ret, r.b) :: r.args.zip f.params else []
def eCells (e : Int × Int) : List Value := [.int .i64 e.1, .int .i64 e.2]
theorem eCells_len (e : Int × Int) : (eCells e).length = 2 := rfl
theorem edge_info : (Tryz.prog.info? 62).map (fun i => (i.zero, i.size, i.bytes)) = some (some (.agg #[.int .i64 0, .int .i64 0]), 2, 16) := by kernel_rfl
theorem zip_take {l m : List Int} {k : Nat} {q p : Int} (h1 : l[k]? = some q) (h2 : m[k]? = some p) : (l.zip m).take (k + 1) = (l.zip m).take k ++ [(q, p)] := by
 rw [List.take_add_one]
 congr 1
 have : (l.zip m)[k]? = some (q, p) := List.getElem?_zip_eq_some.2 ⟨h1, h2⟩
 rw [this]; rfl
def ERow (base : Nat) (w : World) (v : Value) (l : List (Int × Int)) : Prop := w.ownsRow base 62 2 v l.length (l.flatMap eCells)
theorem ERow.ext {base : Nat} {w w' : World} {v : Value} {l : List (Int × Int)} (h : ERow base w v l) (x : Ext w w') : ERow base w' v l := own_ext h x
theorem ERow.low {base b2 : Nat} {w : World} {v : Value} {l : List (Int × Int)} (h : ERow base w v l) (hb : b2 ≤ base) : ERow b2 w v l := own_low h hb
theorem ERow.nil (base : Nat) (w : World) : ERow base w (.slice none 0 0) [] := World.ownsRow_nil _ _ _ _
set_option maxRecDepth 100000 in
set_option maxHeartbeats 3200000 in
theorem conscalled_any (f : PF) (r : RV) (pv av : Value) (w : World) (n0 : Nat) (hp : IntsR w n0 pv f.params) (ha : IntsR w n0 av r.args) (hfew : f.params.length ≤ 100) :
  Calls Tryz.prog 104 #[.agg #[.string f.name, pv, .int .i64 f.ret], r.val av] w fun e w' => ∃ v, e = .returned v ∧ ERow w.heap.size w' v (calledV f r) ∧ Ext w w' := by
 obtain ⟨ap, cp, rfl, _⟩ := id hp
 obtain ⟨aa, ca, rfl, _⟩ := id ha
 have hpl := hp.len
 have hal := ha.len
 obtain ⟨W1, hW1⟩ : ∃ W1, W1 = w.alloc (.cells #[.string f.name, .slice ap f.params.length cp, .int .i64 f.ret] 78) := ⟨_, rfl⟩
 have hx1 : Ext w W1 := by rw [hW1]; exact (Ext.refl _).alloc _
 obtain ⟨W2, hW2⟩ : ∃ W2, W2 = W1.alloc (.cells #[.string r.kind, .int .i64 r.a, .int .i64 r.b, .int .i64 r.k, .slice aa r.args.length ca] 87) := ⟨_, rfl⟩
 have hx2 : Ext W1 W2 := by rw [hW2]; exact (Ext.refl _).alloc _
 have s1 : W1.heap.size = w.heap.size + 1 := by rw [hW1, heap_size_alloc]
 have HX := hid (hx1.trans hx2)
 have Hs2 : Hid (W2.heap.size = w.heap.size + 1 + 1) := hid (by rw [hW2, heap_size_alloc, s1])
 have HB0 : Hid (Blk W2 w.heap.size #[.string f.name, .slice ap f.params.length cp, .int .i64 f.ret] 78) := hid (by
  have : Blk W1 w.heap.size #[.string f.name, .slice ap f.params.length cp, .int .i64 f.ret] 78 := by rw [hW1]; exact Blk.new _ _ _
  exact this.ext hx2)
 have HB1 : Hid (Blk W2 (w.heap.size + 1) #[.string r.kind, .int .i64 r.a, .int .i64 r.b, .int .i64 r.k, .slice aa r.args.length ca] 87) := hid (by rw [← s1, hW2]; exact Blk.new _ _ _)
 have HWe : Hid (W2 = (w.alloc (.cells #[.string f.name, .slice ap f.params.length cp, .int .i64 f.ret] 78)).alloc (.cells #[.string r.kind, .int .i64 r.a, .int .i64 r.b, .int .i64 r.k, .slice aa r.args.length ca] 87)) := hid (by rw [hW2, hW1])
 have HP := hid hp
 have HA := hid ha
 unfold RV.val
 clear hp ha hW1 hW2 hx1 hx2 s1
 by_cases hl : f.params.length = r.args.length
 ·have Hr : Hid (calledV f r = (f.ret, r.b) :: r.args.zip f.params) := hid (by unfold calledV; rw [if_pos hl])
  have Hl := hid hl
  have e0 : ((f.params.length : Int) != (r.args.length : Int)) = false := by rw [hl]; simp
  clear hl
  go_enter Tryz.func104, Tryz.ntmps104
  go_wp2
  rw [← HWe.out]
  obtain ⟨W3, hW3⟩ : ∃ W3, W3 = W2.alloc (.cells #[.int .i64 f.ret, .int .i64 r.b] 62) := ⟨_, rfl⟩
  have hx3 : Ext W2 W3 := by rw [hW3]; exact (Ext.refl _).alloc _
  have Hx3 := hid hx3
  have Hr0 : Hid (W3.ownsRow W2.heap.size 62 2 (.slice (some ⟨w.heap.size + 1 + 1, 0, none⟩) 1 1) 1 (eCells (f.ret, r.b))) := hid
   ⟨rfl, .inr ⟨w.heap.size + 1 + 1, 1, #[.int .i64 f.ret, .int .i64 r.b], rfl, by rw [Hs2.out]; exact Nat.le_refl _, by rw [hW3, ← Hs2.out]; exact Blk.new _ _ _, Nat.le_refl _, by unfold maxLen; omega, rfl, rfl⟩⟩
  rw [← hW3]
  clear hW3 hx3 e0
  go_loopw [5, 24] (fun t5 t24 wr => ∃ k : Nat, t24 = .int .i64 (k : Int) ∧ k ≤ f.params.length ∧ wr.ownsRow W2.heap.size 62 2 t5 (k + 1) (((f.ret, r.b) :: (r.args.zip f.params).take k).flatMap eCells) ∧ Ext W2 wr) (fun _ t24 _ => f.params.length - (intOf t24).toNat)
  case atStart => exact ⟨0, rfl, Nat.zero_le _, Hr0.out, Hx3.out⟩
  case round =>
   obtain ⟨k, rfl, hk, hr, hx⟩ := hrel
   obtain ⟨a5, c5, rfl⟩ := row_form hr
   have Hrow := hid hr
   have Hx := hid hx
   clear hr hx
   by_cases hlt : k < f.params.length
   ·have hkr : k < r.args.length := by have := Hl.out; omega
    obtain ⟨y, p, hy, hpk, hcp⟩ := (HP.out.old ((HX.out.trans Hx.out).old n0)).at hlt
    obtain ⟨z, q, hz, hqk, hcq⟩ := (HA.out.old ((HX.out.trans Hx.out).old n0)).at hkr
    subst hy hz
    have Hzip := hid (zip_take hqk hpk)
    have d1 := (HB1.out.ext Hx.out).av 4 rfl
    simp only [qA0, qA1, qA2] at d1
    have hxa : Hid (Ext W2 (wr.alloc (.cells #[.int .i64 q, .int .i64 p] 62))) := hid (Hx.out.alloc _)
    have Hra := hid (own_ext Hrow.out ((Ext.refl wr).alloc (.cells #[.int .i64 q, .int .i64 p] 62)))
    clear hpk hqk
    go_wp2_with (at_builtin; refine wpList_append_el W2.heap.size hxa.out.size 55 62 (.agg #[.int .i64 0, .int .i64 0]) 2 16 Tryz.underlying55 edge_info rfl (by omega) (by omega) rfl _ _ rfl (.slice a5 (k + 1) c5) (k + 1) (((f.ret, r.b) :: (r.args.zip f.params).take k).flatMap eCells) rfl Hra.out wr.heap.size [.int .i64 q, .int .i64 p] rfl (by simp [Value.oneCell']) rfl (Blk.new _ _ _) (by omega) ?_; intro v' w' h1 h2 h4; obtain ⟨a', c', rfl⟩ := row_form h1; have h3 := hid (Keep.new hxa.out h2 (fun k hk => (World.ownsRow.lt Hra.out k hk).1)); have h1 := hid h1; clear h2 h4)
    go_roundw
    case rel =>
     refine ⟨k + 1, by go_num, by omega, ?_, h3.out⟩
     have e := h1.out
     rw [Hzip.out, ← List.cons_append, List.flatMap_append]
     simpa [eCells] using e
    case measure => simp [intOf]; omega
   ·obtain rfl : k = f.params.length := by omega
    have Hz : Hid ((r.args.zip f.params).take f.params.length = r.args.zip f.params) := hid (List.take_of_length_le (by rw [List.length_zip]; omega))
    have Hln : Hid ((calledV f r).length = f.params.length + 1) := hid (by rw [Hr.out, List.length_cons, List.length_zip]; have := Hl.out; omega)
    go_wp2
    go_ret
    exact ⟨_, rfl, by unfold ERow; rw [Hln.out, Hr.out]; have := own_low Hrow.out HX.out.size; rw [Hz.out] at this; exact this, HX.out.trans Hx.out⟩
 ·have Hr : Hid (calledV f r = []) := hid (by unfold calledV; rw [if_neg hl])
  have e0 : ((f.params.length : Int) != (r.args.length : Int)) = true := bne_iff_ne.2 (by omega)
  clear hl
  go_enter Tryz.func104, Tryz.ntmps104
  go_wp2
  go_ret
  exact ⟨_, rfl, by rw [Hr.out]; exact ERow.nil _ _, ((Ext.refl w).alloc _).alloc _⟩
end Go.Proofs.YtngdpnlgnpdkcaaGreatDoor
