/- Texts of one proof, put together: L8 LB LC LO LP V4 SB ZZZG S1 S2. -/
import Derived.Test.YtamblahkckaaaaaDoorHPB01
import Derived.Test.YtamblahkckaaaaaDoorHPB02
import Derived.Test.YtamblahkckaaaaaDoorHPB04
import Derived.Test.YtamblahkckaaaaaDoorHPB05
import Derived.Lib.SliceRun
import Derived.Carry
import Derived.Sort.Row
import Derived.Sort.Grow
import Derived.Lib.AppendIntMem
import Derived.Lib.AtoiErrMem
import Derived.Test.YtamblahkckaaaaaDoorProg
import Derived.Lib.RowBridge
set_option linter.unusedSimpArgs false
set_option linter.unusedVariables false
namespace Go.Proofs.YtamblahkckaaaaaDoor
open Go Go.RowKit
theorem FV.At.ints {w : World} {n0 : Nat} {t : Option Nat} {x : FV} {a : Option Addr} {cap : Nat} (h : x.At w n0 t) (hv : x.v = .slice a x.f.nums.length cap) : Ints w a x.f.nums.length x.f.nums := by
  obtain ⟨a', c', e, hi, _⟩ := NumsAt.form h
  rw [hv] at e
  simp only [Value.slice.injEq, true_and] at e
  rw [e.1]
  exact hi
theorem Wr.map {w : World} {n0 : Nat} {t : Option Nat} {b : Nat} {m : List (Int × Value)} (h : MapAt w b m) (hl : n0 ≤ b) : Wr w n0 t fun g => g = b := fun g hg _ => ⟨by omega, fun hi => by
  subst hg
  obtain ⟨es, c, hb, _⟩ := h
  obtain ⟨c', z, hi⟩ := hi
  rw [hb] at hi
  cases hi⟩
def mapSize (w : World) (b : Nat) : Nat := match w.heap[b]? with
  | some (.map es _) => es.size
  | _ => 0
theorem MapAt.size {w : World} {b : Nat} {m : List (Int × Value)} (h : MapAt w b m) : mapSize w b = m.length := by
  obtain ⟨es, c, hb, he⟩ := h
  unfold mapSize
  rw [hb]
  have := congrArg List.length he
  simpa using this
end Go.Proofs.YtamblahkckaaaaaDoor
namespace Go.Proofs.YtamblahkckaaaaaDoor
def ofr (N : List Int) (k : Nat) : Fr := ⟨100, 2, 4, (k : Int), [N.getD k 0]⟩
def AllOf (N : List Int) (n : Nat) (l : List Fr) : Prop := ∀ f ∈ l, ∃ j, j < n ∧ f = ofr N j
structure ORcv (N : List Int) (n d : Nat) (r : Rcv) : Prop where
  fr : r.fr = 2
  to : r.to = 4
  due : r.due = (d : Int)
  le : d ≤ n
  wait : AllOf N n r.wait
  len : r.wait.length ≤ 8
end Go.Proofs.YtamblahkckaaaaaDoor
namespace Go.Proofs.YtamblahkckaaaaaDoor
open Go Go.RowKit
theorem own_nilSrc {w : World} {base : Nat} {t e : TypeId} {i : TypeInfo} {size n : Nat} {v : Value} {xs : List Value} (ht : Tryd.prog.underlying t = some (.slice e)) (hi : Tryd.prog.info? e = some i) (h : w.ownsRow base e size v n xs) (ty : TypeId) (c : Nat) : (Builtin.append_ #[t, t] ty #[v, .slice none 0 c]).run Tryd.prog w = .ok v w := by
  rcases h.2 with ⟨h2, h3⟩ | ⟨g, cap, cur, h2, _, _, hnc, _⟩
  · subst h2
    simp [Builtin.append_, run_underlying ht, sizeOf, typeInfo, hi, Builtin.lenOf, Builtin.firstCells]
  · subst h2
    simp [Builtin.append_, run_underlying ht, sizeOf, typeInfo, hi, Builtin.lenOf, Builtin.firstCells, hnc, storeCells]
structure Src (w : World) (a : Option Addr) (m : Nat) (size : Nat) (us : List Value) : Prop where
  len : us.length = m * size
  sm : 0 < m → ∃ x, a = some x
  cl : ∀ x, a = some x → ∀ j u, us[j]? = some u → w.cell? (x.add j) = some u
  one : ∀ u ∈ us, u.oneCell' = true
theorem run_append_src (w : World) (base : Nat) (hbase : base ≤ w.heap.size) (t e : TypeId) (z : Value) (size bytes : Nat) (ht : Tryd.prog.underlying t = some (.slice e)) (hinf : (Tryd.prog.info? e).map (fun i => (i.zero, i.size, i.bytes)) = some (some z, size, bytes)) (hz1 : z.cells.size = size) (hsz : 0 < size) (hb8 : bytes ≤ 64) (ty : TypeId)
    (v : Value) (n : Nat) (xs : List Value) (hown : w.ownsRow base e size v n xs) (a : Option Addr) (m c : Nat) (us : List Value) (hs : Src w a m size us) (hl : n + m ≤ 1000000) :
    ∃ v' w', (Builtin.append_ #[t, t] ty #[v, .slice a m c]).run Tryd.prog w = .ok v' w' ∧ w'.ownsRow base e size v' (n + m) (xs ++ us) ∧ Keep (fun k => v.ownBlock = some k) w w' ∧ ∀ k, v'.ownBlock = some k → v.ownBlock = some k ∨ w.heap.size ≤ k := by
  obtain ⟨ti, hi, hz0, hz, hz2⟩ := info_parts hinf
  rcases a with _ | ad
  · have hm : m = 0 := by
      rcases Nat.eq_zero_or_pos m with h0 | h0
      · exact h0
      · obtain ⟨x, hx⟩ := hs.sm h0; cases hx
    subst hm
    obtain rfl : us = [] := List.eq_nil_of_length_eq_zero (by have := hs.len; omega)
    exact ⟨v, w, own_nilSrc ht hi hown ty c, by simpa using hown, Keep.refl _ _, fun k hk => .inl hk⟩
  · obtain ⟨v', w', hr, h2, h3, _, h4⟩ := run_append_own_at (P := Tryd.prog) w base t ty e ti z size bytes ht hi hz0 hz hz2 hz1 hsz v n xs hown ad m c us hs.len (hs.cl ad rfl) hs.one (by simp only [maxLen]; omega) (by
      have : (n + m) * bytes ≤ (n + m) * 64 := Nat.mul_le_mul_left _ hb8
      omega) hbase
    refine ⟨v', w', hr, h2, grown_keep h3, fun k hk => ?_⟩
    rcases h4 with h4 | h4
    · exact .inl (h4 ▸ hk)
    · rw [h4] at hk
      have := Option.some.inj hk
      exact .inr (by omega)
theorem wpList_append_src {ops : Array Oper} {Q : Exit → Act → World → Prop} {rest : List Oper} {o : Oper} {a : Act} {w : World} (base : Nat) (hbase : base ≤ w.heap.size) (t e : TypeId) (z : Value) (size bytes : Nat) (ht : Tryd.prog.underlying t = some (.slice e)) (hinf : (Tryd.prog.info? e).map (fun i => (i.zero, i.size, i.bytes)) = some (some z, size, bytes)) (hz1 : z.cells.size = size) (hsz : 0 < size)
    (hb8 : bytes ≤ 64) (hg : o.guard = none) (s x : Operand) (ho : o.op = .call { callee := .builtin .append, args := #[s, x], argTypes := #[t, t] })
    (v : Value) (n : Nat) (xs : List Value) (hs : a.eval s = v) (hown : w.ownsRow base e size v n xs) (ad : Option Addr) (m c : Nat) (us : List Value) (hx : a.eval x = .slice ad m c) (hsrc : Src w ad m size us) (hl : n + m ≤ 1000000)
    (h : ∀ v' w', w'.ownsRow base e size v' (n + m) (xs ++ us) → Keep (fun k => v.ownBlock = some k) w w' → (∀ k, v'.ownBlock = some k → v.ownBlock = some k ∨ w.heap.size ≤ k) → wpList Tryd.prog ops Q rest (a.put o.dst v') w') : wpList Tryd.prog ops Q (o :: rest) a w := by
  obtain ⟨v', w', hr, h2, h3, h4⟩ := run_append_src w base hbase t e z size bytes ht hinf hz1 hsz hb8 o.type v n xs hown ad m c us hsrc hl
  refine wpList_plain hg fun K hK => ?_
  unfold Oper.wp
  rw [run_exec_append s x t ho hs hx hr]
  exact hK _ _ (h v' w' h2 h3 h4)
theorem Src.ints {w : World} {a : Option Addr} {m : Nat} {vs : List Int} (h : Ints w a m vs) : Src w a m 1 (icells vs) := by
  refine ⟨by simp [icells, h.ln], h.sm, fun x hx j u hu => ?_, icells_one⟩
  simp only [icells, List.getElem?_map] at hu
  have hj : j < vs.length := by
    rcases Nat.lt_or_ge j vs.length with h1 | h1
    · exact h1
    · rw [List.getElem?_eq_none h1] at hu; cases hu
  rw [h.cl x hx j (by have := h.ln; omega), List.getD_eq_getElem?_getD, List.getElem?_eq_getElem hj]
  rw [List.getElem?_eq_getElem hj] at hu
  exact hu
theorem FV.one {w : World} {n0 : Nat} {t : Option Nat} {fs : List FV} (h : ∀ x ∈ fs, x.At w n0 t) : ∀ u ∈ fs.flatMap FV.cells, u.oneCell' = true := by
  intro u hu
  obtain ⟨x, hx, hu⟩ := List.mem_flatMap.1 hu
  obtain ⟨a, c, _, hv, _⟩ := (h x hx).form
  simp only [FV.cells, hv, List.mem_cons, List.not_mem_nil, or_false] at hu
  rcases hu with rfl | rfl | rfl | rfl | rfl <;> rfl
theorem Src.part {w : World} {n0 : Nat} {t : Option Nat} {base g n cap : Nat} {e : TypeId} {fs : List FV} (h : FRow w n0 t base e (.slice (some ⟨g, 0, none⟩) n cap) fs) (hn : fs.length = n) (i m : Nat) (him : i + m ≤ n) : Src w (some ⟨g, i * 5, none⟩) m 5 (((fs.drop i).take m).flatMap FV.cells) := by
  have hr := h.row
  rw [hn] at hr
  refine ⟨?_, fun _ => ⟨_, rfl⟩, fun x hx j u hu => ?_, FV.one (w := w) (n0 := n0) (t := t) fun x hx => h.nums x (List.mem_of_mem_drop (List.mem_of_mem_take hx))⟩
  · rw [fm_len FV.cells 5 FV.cells_len]
    simp
    omega
  · obtain rfl := Option.some.inj hx
    rw [show (⟨g, i * 5, none⟩ : Addr).add j = ⟨g, i * 5 + j, none⟩ from by by_cases h0 : j = 0 <;> simp [Addr.add, h0]]
    refine own_get hr _ ?_
    rw [← fm_take FV.cells 5 FV.cells_len, ← fm_drop FV.cells 5 FV.cells_len, List.getElem?_take, List.getElem?_drop] at hu
    split at hu
    · exact hu
    · cases hu
theorem Src.head {w : World} {n0 : Nat} {t : Option Nat} {base g n cap : Nat} {e : TypeId} {fs : List FV} (h : FRow w n0 t base e (.slice (some ⟨g, 0, none⟩) n cap) fs) (hn : fs.length = n) (k : Nat) (hk : k ≤ n) : Src w (some ⟨g, 0, none⟩) k 5 ((fs.take k).flatMap FV.cells) := by
  have := Src.part h hn 0 k (by omega)
  rwa [List.drop_zero, Nat.zero_mul] at this
theorem Src.tail {w : World} {n0 : Nat} {t : Option Nat} {base g n cap : Nat} {e : TypeId} {fs : List FV} (h : FRow w n0 t base e (.slice (some ⟨g, 0, none⟩) n cap) fs) (hn : fs.length = n) (k : Nat) (hk : k ≤ n) : Src w (some ⟨g, k * 5, none⟩) (n - k) 5 ((fs.drop k).flatMap FV.cells) := by
  have := Src.part h hn k (n - k) (by omega)
  rwa [List.take_of_length_le (by simp; omega)] at this
theorem Src.zero (w : World) (ad : Addr) (nets : List FV) (kk : Nat) (h : nets.length ≤ kk + 1) : Src w (some ad) (nets.length - (kk + 1)) 5 ((nets.drop (kk + 1)).flatMap FV.cells) := by
  have h1 : nets.drop (kk + 1) = [] := List.drop_of_length_le h
  rw [h1]
  exact ⟨by simp; omega, fun _ => ⟨_, rfl⟩, fun x _ j u hu => by simp at hu, fun u hu => by simp at hu⟩
theorem Src.all {w : World} {n0 : Nat} {t : Option Nat} {base n cap : Nat} {a : Option Addr} {e : TypeId} {fs : List FV} (h : FRow w n0 t base e (.slice a n cap) fs) (hn : fs.length = n) : Src w a n 5 (fs.flatMap FV.cells) := by
  rcases Nat.eq_zero_or_pos n with h0 | h0
  · subst h0
    obtain rfl := List.eq_nil_of_length_eq_zero hn
    exact ⟨rfl, fun h => by omega, fun x _ j u hu => by simp at hu, fun u hu => by simp at hu⟩
  · have hr := h.row
    obtain ⟨g, cp, he⟩ := own_some hr (by omega)
    simp only [Value.slice.injEq] at he
    obtain ⟨rfl, _, rfl⟩ := he
    have := Src.part h hn 0 n (by omega)
    rw [List.drop_zero, List.take_of_length_le (by omega), Nat.zero_mul] at this
    exact this
theorem Wr.told {w : World} {n0 : Nat} {t : Option Nat} (h : ∀ b, t = some b → n0 ≤ b) : Wr w n0 t fun b => t = some b := fun b hb _ => ⟨h b hb, fun _ => hb⟩
structure Told (w w' : World) (n0 : Nat) (t t' : Option Nat) : Prop where
  keep : Keep (fun b => t = some b) w w'
  lo : ∀ b, t = some b → n0 ≤ b
  int : ∀ b, t = some b → IsInt w b
  new : ∀ b, t' = some b → t = some b ∨ w.heap.size ≤ b
theorem NumsAt.told {w w' : World} {n0 : Nat} {t t' : Option Nat} {v : Value} {l : List Int} (h : NumsAt w n0 t v l) (k : Told w w' n0 t t') : NumsAt w' n0 t' v l := by
  obtain ⟨a, cap, rfl, hi, hb⟩ := h
  have hne : ∀ x, a = some x → 0 < l.length → ¬ t = some x.block := fun x hx hl e => by
    rcases hb x hx hl with h1 | h1
    · have := k.lo _ e; omega
    · exact h1.2 e
  refine ⟨a, cap, rfl, hi.keep k.keep hne, fun x hx hl => (hb x hx hl).imp id fun h1 => ⟨h1.1.keep k.keep (hne x hx hl), fun e => ?_⟩⟩
  rcases k.new _ e with h2 | h2
  · exact h1.2 h2
  · have := hi.blt hx hl; omega
theorem Told.ne {w w' : World} {n0 : Nat} {t t' : Option Nat} (k : Told w w' n0 t t') {b : Nat} {c : Array Value} {e : TypeId} (hb : Blk w b c e) (hne : e ≠ 3) : ¬ t = some b := fun h => IsInt.not hb hne (k.int b h)
theorem FRow.told {w w' : World} {n0 : Nat} {t t' : Option Nat} {base : Nat} {e : TypeId} {v : Value} {fs : List FV} (h : FRow w n0 t base e v fs) (k : Told w w' n0 t t') (he : e ≠ 3) : FRow w' n0 t' base e v fs :=
  ⟨row_keep h.row k.keep (fun b hb => by
    obtain ⟨c, hc⟩ := own_ty h.row hb
    exact k.ne hc he), fun x hx => NumsAt.told (h.nums x hx) k⟩
section
variable {w0 : World} {N : List Int} {n p q b a d e : Nat} {now c : Int} {r : Rcv} {nv tv : Value} {nets : List FV} {wr : World}
end
theorem AllOf.mono {N : List Int} {n m : Nat} {l : List Fr} (h : AllOf N n l) (hn : n ≤ m) : AllOf N m l := fun f hf => by
  obtain ⟨j, hj, e⟩ := h f hf
  exact ⟨j, by omega, e⟩
theorem add_add (a : Addr) (i j : Nat) : (a.add i).add j = a.add (i + j) := by
  by_cases hi : i = 0
  · subst hi; simp [Addr.add]
  · by_cases hj : j = 0
    · subst hj; simp [Addr.add]
    · simp only [add_posU _ _ hi, add_posU _ _ hj, add_posU _ _ (show i + j ≠ 0 by omega)]
      congr 1
      omega
theorem IntsR.src {w : World} {n0 : Nat} {a : Option Addr} {n cap : Nat} {l : List Int} (h : IntsR w n0 (.slice a n cap) l) : Src w a n 1 (icells l) := by
  obtain ⟨a', cap', h1, h2, h3, h4, h5⟩ := h
  obtain ⟨rfl, rfl, rfl⟩ : a = a' ∧ n = l.length ∧ cap = cap' := by simpa using h1
  refine ⟨by simp [icells], h4, fun x hx j u hu => ?_, icells_one⟩
  have hj : j < l.length := by
    rcases Nat.lt_or_ge j l.length with h | h
    · exact h
    · rw [List.getElem?_eq_none (by simpa [icells] using h)] at hu; cases hu
  unfold icells at hu
  rw [List.getElem?_map, List.getElem?_eq_getElem hj] at hu
  obtain rfl := Option.some.inj hu
  exact (h5 x hx (by omega)).2 j hj _ (List.getElem?_eq_getElem hj)
theorem StrsR.src {w : World} {n0 : Nat} {a : Option Addr} {n cap : Nat} {l : List ByteArray} (h : StrsR w n0 (.slice a n cap) l) : Src w a n 1 (l.map .string) := by
  obtain ⟨a', cap', h1, h2, h3, h4, h5⟩ := h
  obtain ⟨rfl, rfl, rfl⟩ : a = a' ∧ n = l.length ∧ cap = cap' := by simpa using h1
  refine ⟨by simp, h4, fun x hx j u hu => ?_, fun u hu => ?_⟩
  · have hj : j < l.length := by
      rcases Nat.lt_or_ge j l.length with h | h
      · exact h
      · rw [List.getElem?_eq_none (by simpa using h)] at hu; cases hu
    rw [List.getElem?_map, List.getElem?_eq_getElem hj] at hu
    obtain rfl := Option.some.inj hu
    exact (h5 x hx (by omega)).2 j hj _ (List.getElem?_eq_getElem hj)
  · obtain ⟨s, _, rfl⟩ := List.mem_map.1 hu
    rfl
set_option maxRecDepth 100000 in
set_option maxHeartbeats 800000 in
theorem ownintsR_any (v : Value) (l : List Int) (w : World) (n0 : Nat) (h : IntsR w n0 v l) (hl : l.length ≤ 1000) :
    Calls Tryd.prog 15 #[v] w fun e w' => ∃ v', e = .returned v' ∧ Ext w w' ∧ w'.ownsRow w.heap.size 3 1 v' l.length (icells l) := by
  obtain ⟨a, cap, rfl, h'⟩ := id h
  have Hs := hid h.src
  have hl2 : 0 + l.length ≤ 1000000 := by omega
  clear h h'
  go_enter Tryd.func15, Tryd.ntmps15
  go_wp2_with (at_builtin; refine wpList_append_src w.heap.size (Nat.le_refl _) 37 3 (.int .i64 0) 1 8 Tryd.underlying37 ints_info rfl (by omega) (by omega) rfl _ _ rfl (.slice none 0 0) 0 [] rfl (World.ownsRow_nil _ _ _ _) a l.length cap (icells l) rfl Hs.out hl2 ?_; intro v' w' h1 h2 h4; have h3 := Keep.new (Ext.refl w) h2 (fun k hk => by cases hk))
  go_ret
  exact ⟨_, rfl, h3, by simpa using h1⟩
def IntsT (w : World) (v : Value) (l : List Int) : Prop := IntsR w w.heap.size v l ∧ ∀ b, v.ownBlock = some b → IsInt w b
theorem IntsT.of_row {w : World} {base : Nat} {v : Value} {l : List Int} (h : w.ownsRow base 3 1 v l.length (icells l)) : IntsT w v l :=
  ⟨IntsR.own h (Nat.le_refl _), fun b hb => by
    obtain ⟨c, hc⟩ := own_ty h hb
    exact ⟨c, _, hc⟩⟩
theorem IntsT.keep {X : Nat → Prop} {w w' : World} {v : Value} {l : List Int} (h : IntsT w v l) (k : Keep X w w') (hX : ∀ b, X b → ¬ IsInt w b) : IntsT w' v l := by
  obtain ⟨⟨a, cap, h1, h2, h3, h4, h5⟩, hi⟩ := h
  subst h1
  refine ⟨⟨a, cap, rfl, h2, h3, h4, fun y hy h0 => ⟨Nat.lt_of_lt_of_le (h5 y hy h0).1 k.size, fun i hl s hs => ?_⟩⟩, fun b hb => (hi b hb).keep k fun hx => hX b hx (hi b hb)⟩
  subst hy
  exact k.cellx ((h5 y rfl h0).2 i hl s hs) fun hx => hX _ hx (by rw [add_block]; exact hi y.block rfl)
theorem IntsT.ext {w w' : World} {v : Value} {l : List Int} (h : IntsT w v l) (x : Ext w w') : IntsT w' v l := h.keep (x.keep fun _ => False) fun _ h => h.elim
theorem IntsT.form {w : World} {v : Value} {l : List Int} (h : IntsT w v l) : ∃ a c, v = .slice a l.length c := by
  obtain ⟨⟨a, cap, h1, _⟩, _⟩ := h
  exact ⟨a, cap, h1⟩
structure F2 where
  f : PF
  v : Value
def F2.cells (x : F2) : List Value := [.string x.f.name, x.v, .int .i64 x.f.ret]
theorem F2.cells_len (x : F2) : x.cells.length = 3 := rfl
structure S2 where
  s : PS
  v : Value
def S2.cells (x : S2) : List Value := [.string x.s.kind, .int .i64 x.s.x, .int .i64 x.s.y, x.v]
theorem S2.cells_len (x : S2) : x.cells.length = 4 := rfl
theorem FunsR.own {w : World} {base : Nat} {v : Value} {fs : List F2} {l : List PF} (h : w.ownsRow base 43 3 v fs.length (fs.flatMap F2.cells)) (hl : fs.map F2.f = l) (hn : ∀ x ∈ fs, IntsT w x.v x.f.params) : FunsR w w.heap.size v l := by
  have hll : l.length = fs.length := by rw [← hl, List.length_map]
  unfold FunsR
  rw [hll]
  refine ElR.own h (Nat.le_refl _) fun g hc i hi f hf => ?_
  rw [← hl, List.getElem?_map] at hf
  obtain ⟨x, hx, rfl⟩ := Option.map_eq_some_iff.1 hf
  have c : ∀ j u, x.cells[j]? = some u → j < 3 → w.cell? (((⟨g, 0, none⟩ : Addr).add (i * 3)).add j) = some u := fun j u hu hj => by
    rw [add_add]
    exact hc _ _ ((fm_get F2.cells 3 F2.cells_len fs i j x hx hj).trans hu)
  exact ⟨x.v, by simpa [Addr.add] using c 0 _ rfl (by omega), c 1 _ rfl (by omega), c 2 _ rfl (by omega), (hn x (List.mem_of_getElem? hx)).1⟩
theorem StmtsR.own {w : World} {base : Nat} {v : Value} {ss : List S2} {l : List PS} (h : w.ownsRow base 39 4 v ss.length (ss.flatMap S2.cells)) (hl : ss.map S2.s = l) (hn : ∀ x ∈ ss, IntsT w x.v x.s.args) : StmtsR w w.heap.size v l := by
  have hll : l.length = ss.length := by rw [← hl, List.length_map]
  unfold StmtsR
  rw [hll]
  refine ElR.own h (Nat.le_refl _) fun g hc i hi f hf => ?_
  rw [← hl, List.getElem?_map] at hf
  obtain ⟨x, hx, rfl⟩ := Option.map_eq_some_iff.1 hf
  have c : ∀ j u, x.cells[j]? = some u → j < 4 → w.cell? (((⟨g, 0, none⟩ : Addr).add (i * 4)).add j) = some u := fun j u hu hj => by
    rw [add_add]
    exact hc _ _ ((fm_get S2.cells 4 S2.cells_len ss i j x hx hj).trans hu)
  exact ⟨x.v, by simpa [Addr.add] using c 0 _ rfl (by omega), c 1 _ rfl (by omega), c 2 _ rfl (by omega), c 3 _ rfl (by omega), (hn x (List.mem_of_getElem? hx)).1⟩
theorem fun_info : (Tryd.prog.info? 43).map (fun i => (i.zero, i.size, i.bytes)) = some (some (.agg #[.string ⟨#[]⟩, .slice none 0 0, .int .i64 0]), 3, 48) := by kernel_rfl
theorem stmt_info : (Tryd.prog.info? 39).map (fun i => (i.zero, i.size, i.bytes)) = some (some (.agg #[.string ⟨#[]⟩, .int .i64 0, .int .i64 0, .slice none 0 0]), 4, 56) := by kernel_rfl
end Go.Proofs.YtamblahkckaaaaaDoor
namespace Go.Proofs.YtamblahkckaaaaaDoor
open Go Go.RowKit Go.Sort
theorem IRow.cur {base : Nat} {w : World} {g n cap : Nat} {l : List Int} (h : IRow base w (.slice (some ⟨g, 0, none⟩) n cap) l) : n = l.length ∧ base ≤ g ∧ l.length ≤ cap ∧ cap ≤ maxLen ∧ ∃ cur, Blk w g cur 3 ∧ cur.size = cap ∧ cur.toList.take l.length = icells l := by
  rcases h.2 with ⟨h1, _⟩ | ⟨g', cap', cur, h1, h2, h3, h4, h5, h6, h7⟩
  · simp at h1
  · simp only [Value.slice.injEq, Option.some.injEq, Addr.mk.injEq, and_true] at h1
    obtain ⟨rfl, rfl, rfl⟩ := h1
    exact ⟨rfl, h2, h4, h5, cur, h3, by omega, by simpa using h7⟩
theorem IRow.holds {base : Nat} {w : World} {g n cap : Nat} {l : List Int} (h : IRow base w (.slice (some ⟨g, 0, none⟩) n cap) l) : Holds (Value.int .i64) w g 0 l.toArray := by
  obtain ⟨rfl, _⟩ := h.cur
  intro j hj
  have hj' : j < l.length := by simpa using hj
  rw [Nat.zero_add]
  refine ⟨?_, own_free h j⟩
  rw [own_get h j (u := .int .i64 (l[j]'hj')) (by unfold icells; rw [List.getElem?_map, List.getElem?_eq_getElem hj']; rfl)]
  simp [getElem!_pos, hj']
theorem put_at {w : World} {g q : Nat} {cur : Array Value} {t : TypeId} {ys : List Int} {os : Array Obj} (hb : Blk w g cur t) :
    Blk (grow (putRow (Value.int .i64) (Sort.ahead w q) g 0 ys.toArray) os) g (putCells (Value.int .i64) 0 ys.toArray cur) t ∧ Keep (fun b => b = g) w (grow (putRow (Value.int .i64) (Sort.ahead w q) g 0 ys.toArray) os) := by
  have hlt := hb.lt
  have hh : ∀ k, k < w.heap.size → (grow (putRow (Value.int .i64) (Sort.ahead w q) g 0 ys.toArray) os).heap[k]? = (w.heap.modify g (onCells (putCells (Value.int .i64) 0 ys.toArray)))[k]? := fun k hk => by
    unfold grow putRow mapBlock Sort.ahead
    simp only
    rw [Array.getElem?_append_left (by simpa using hk)]
  constructor
  · unfold Blk
    rw [hh g hlt, Array.getElem?_modify, if_pos rfl]
    have : w.heap[g]? = some (.cells cur t (0, 0)) := hb
    rw [this]
    rfl
  · refine ⟨rfl, rfl, rfl, ?_, fun k hk hx => ?_⟩
    · unfold grow putRow mapBlock Sort.ahead
      simp
    · rw [hh k hk, Array.getElem?_modify, if_neg (fun e => hx e.symm)]
theorem put_cells (ys : List Int) (cur : Array Value) (k : Nat) (hk : k ≤ ys.length) (hc : ys.length ≤ cur.size) : (putCells (Value.int .i64) 0 ys.toArray cur).toList.take k = icells (ys.take k) := by
  apply List.ext_getElem?
  intro i
  rw [List.getElem?_take]
  unfold icells
  rw [List.getElem?_map, List.getElem?_take]
  by_cases hi : i < k
  · rw [if_pos hi, if_pos hi, Array.getElem?_toList]
    unfold putCells
    rw [Array.getElem?_mapIdx, Array.getElem?_eq_getElem (by omega), List.getElem?_eq_getElem (by omega)]
    simp only [Option.map_some, Nat.zero_le, true_and, Nat.zero_add, List.size_toArray, Nat.sub_zero]
    rw [if_pos (by omega)]
    congr 1
    simp [getElem!_pos, show i < ys.length by omega]
  · rw [if_neg hi, if_neg hi]; rfl
theorem IRow.put {base : Nat} {w : World} {g n cap q : Nat} {zs ys : List Int} {os : Array Obj} (h : IRow base w (.slice (some ⟨g, 0, none⟩) n cap) zs) (hy : ys.length = zs.length) (k : Nat) (hk : k ≤ ys.length) :
    IRow base (grow (putRow (Value.int .i64) (Sort.ahead w q) g 0 ys.toArray) os) (.slice (some ⟨g, 0, none⟩) k cap) (ys.take k) ∧ Keep (fun b => b = g) w (grow (putRow (Value.int .i64) (Sort.ahead w q) g 0 ys.toArray) os) := by
  obtain ⟨rfl, h1, h2, h3, cur, h4, h5, h6⟩ := h.cur
  obtain ⟨p1, p2⟩ := put_at (q := q) (ys := ys) (os := os) h4
  refine ⟨?_, p2⟩
  have hl : (ys.take k).length = k := by rw [List.length_take]; omega
  unfold IRow
  rw [hl]
  refine ⟨by simp [icells]; omega, .inr ⟨g, cap, _, rfl, h1, p1, by omega, h3, ?_, ?_⟩⟩
  · unfold putCells
    rw [Array.size_mapIdx]; omega
  · rw [Nat.mul_one]; exact put_cells ys cur k hk (by omega)
theorem IRow.case {base : Nat} {w : World} {v : Value} {l : List Int} (h : IRow base w v l) : (v = .slice none 0 0 ∧ l = []) ∨ ∃ g cap, v = .slice (some ⟨g, 0, none⟩) l.length cap := by
  rcases h.2 with ⟨h1, h2⟩ | ⟨g, cap, cur, h1, _⟩
  · exact .inl ⟨h1, List.eq_nil_of_length_eq_zero h2⟩
  · exact .inr ⟨g, cap, h1⟩
end Go.Proofs.YtamblahkckaaaaaDoor
namespace Go.Proofs.YtamblahkckaaaaaDoor
open Go Go.RowKit Go.Shelf Go.Maps Go.Sort
theorem keep_put (W : World) (l : Nat) (o' : Obj) : Keep (fun b => b = l) W (W.putObj l o') :=
  ⟨rfl, rfl, rfl, by simp [World.putObj], fun k _ hk => World.putObj_heap_other hk⟩
structure SrAt (w : World) (vs : List Int) (t : ByteArray) (W : World) : Prop where
  x : Ext w W
  b0 : Blk W w.heap.size #[.slice none 0 0] 37
  b1 : Blk W (w.heap.size + 1) #[.nilIface] 31
  out : ∃ v, Blk W (w.heap.size + 2) #[v] 37 ∧ IRow (w.heap.size + 6) W v vs
  s : Blk W (w.heap.size + 3) #[.string t] 9
  p : Blk W (w.heap.size + 4) #[.string ⟨#[44]⟩] 9
  z : Blk W (w.heap.size + 5) #[.int .i64 0] 3
theorem SrAt.keep {w : World} {vs : List Int} {t : ByteArray} {W W' : World} {X : Nat → Prop} (h : SrAt w vs t W) (k : Keep X W W') (h6 : ∀ b, X b → w.heap.size + 6 ≤ b) (hr : ∀ b, X b → ∀ v, Blk W (w.heap.size + 2) #[v] 37 → v.ownBlock ≠ some b) : SrAt w vs t W' := by
  have ne : ∀ b, b < w.heap.size + 6 → ¬ X b := fun b hb hx => by have := h6 b hx; omega
  obtain ⟨v, hv, hrow⟩ := h.out
  exact ⟨Keep.new h.x k fun n hn => by have := h6 n hn; omega, h.b0.keep k (ne _ (by omega)), h.b1.keep k (ne _ (by omega)), ⟨v, hv.keep k (ne _ (by omega)), hrow.keep k fun b hb hx => hr b hx v hv hb⟩, h.s.keep k (ne _ (by omega)), h.p.keep k (ne _ (by omega)), h.z.keep k (ne _ (by omega))⟩
theorem SrAt.ext {w : World} {vs : List Int} {t : ByteArray} {W W' : World} (h : SrAt w vs t W) (x : Ext W W') : SrAt w vs t W' :=
  h.keep (x.keep (fun _ => False)) (fun _ hx => hx.elim) (fun _ hx => hx.elim)
theorem SrAt.put {w : World} {vs : List Int} {t : ByteArray} {W : World} (h : SrAt w vs t W) {l : Nat} {o : Obj} (o' : Obj) (hl : W.heap[l]? = some o) (ho : o.isCells = false) (hb : w.heap.size + 6 ≤ l) : SrAt w vs t (W.putObj l o') := by
  refine h.keep (keep_put W l o') (fun b e => e ▸ hb) fun b e v hv hv2 => ?_
  subst e
  obtain ⟨v2, hv2', hrow⟩ := h.out
  have e : v = v2 := by
    have := hv.symm.trans hv2'
    simpa using this
  subst e
  obtain ⟨cur, hcur⟩ := own_ty hrow hv2
  have e2 : (Obj.cells cur 3 (0, 0)) = o := Option.some.inj ((show W.heap[b]? = _ from hcur).symm.trans hl)
  rw [← e2] at ho
  cases ho
end Go.Proofs.YtamblahkckaaaaaDoor
namespace Go.Proofs.YtamblahkckaaaaaDoor
open Go Go.RowKit
structure ErrS (w : World) (ad : Nat → Addr) : Prop where
  at2 : w.cell? ⟨3, 0, none⟩ = some (evOf ad 2)
  at10 : w.cell? ⟨99999, 0, none⟩ = some (evOf ad 10)
theorem ErrS.ext {w w' : World} {ad : Nat → Addr} (h : ErrS w ad) (x : Ext w w') : ErrS w' ad := ⟨x.cellx h.at2, x.cellx h.at10⟩
theorem Keep.fresh {w w1 w2 : World} {base : Nat} {v : Value} {l : List Int} (hx : Ext w w1) (h : IRow base w1 v l) (hb : w.heap.size ≤ base) (k : Keep (fun b => v.ownBlock = some b) w1 w2) : Ext w w2 :=
  Keep.new hx k fun b hb' => Nat.le_trans hb (h.lt hb').1
end Go.Proofs.YtamblahkckaaaaaDoor
