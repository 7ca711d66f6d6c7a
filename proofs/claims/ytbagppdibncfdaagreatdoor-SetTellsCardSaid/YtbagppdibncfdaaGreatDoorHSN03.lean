/- Texts of one proof, put together: LP V4 SB ZZZG S1 SL S2 S3 S4. -/
import Derived.Test.YtbagppdibncfdaaGreatDoorHSN01
import Derived.Test.YtbagppdibncfdaaGreatDoorHSN02
import Derived.Sort.Row
import Derived.Sort.Grow
import Derived.Lib.AppendIntMem
import Derived.Lib.AtoiErrMem
import Derived.Shelf.Strings.Builder1
import Derived.Shelf.Strings.Builder2
import Derived.Shelf.Strings.OnBuilder
import Derived.Shelf.Strings.Trim
import Derived.Shelf.Small.Utf8
import Derived.Shelf.Small.Bits
import Derived.Shelf.Small.Strs
import Derived.Shelf.Small.Wraps
import Derived.Shelf.Strconv.Atoi
import Derived.Shelf.Strconv.Itoa0
import Derived.Shelf.Strconv.Itoa1
import Derived.Shelf.LaysM
import Derived.Shelf.Strconv.Itoa2
import Derived.Shelf.Strconv.Itoa3
import Derived.Shelf.Strconv.AtoiErrFast
import Derived.Shelf.Strconv.ParseIntEmpty
import Derived.Shelf.Strconv.AtoiFail
import Derived.Shelf.Strconv.Clone
import Derived.Shelf.Strconv.SyntaxError
import Derived.Shelf.LaysC
import Derived.Shelf.Strconv.ToError
import Derived.Shelf.Strconv.AtoiErr
import Derived.Shelf.Strconv.Lower
import Derived.Shelf.Strconv.ParseUint10
import Derived.Shelf.Strconv.ParseUint10Empty
import Derived.Shelf.Strconv.ParseUint10Any
import Derived.Shelf.Strconv.ParseInt10
import Derived.Shelf.Strconv.AtoiLong
import Derived.Shelf.Strconv.AtoiInnerAll
import Derived.Shelf.Strconv.RangeError
import Derived.Shelf.Strconv.ToErrorRange
import Derived.Shelf.Strconv.AtoiAll
import Derived.Shelf.Strings.Search1
import Derived.Shelf.Strings.Search2
import Derived.Shelf.Strings.Search3
import Derived.Shelf.Strings.Cut
import Derived.Shelf.Strings.Count
import Derived.Shelf.Strings.Shaped
import Derived.Shelf.Sort.Plain
import Derived.Shelf.Strings.Prefix
import Derived.Shelf.Strings.Split
import Derived.Shelf.Strings.Runes
import Derived.Shelf.Strings.AsciiSet
import Derived.Shelf.Unicode.DecodeSlow
import Derived.Shelf.Unicode.DecodeAny
import Derived.Shelf.Unicode.DecodeLast
import Derived.Shelf.Slices.Clone
import Derived.Shelf.Slices.CompactI
import Derived.Shelf.Slices.SearchI
import Derived.Shelf.Slices.Cells
import Derived.Shelf.Slices.In.SortNone
import Derived.Shelf.SlicesE.Clone
import Derived.Test.YtbagppdibncfdaaGreatDoorProg
import Derived.Lib.RowBridge
import Derived.Lib.AppendZeros
set_option linter.unusedSimpArgs false
set_option linter.unusedVariables false
namespace Go.Proofs.YtbagppdibncfdaaGreatDoor
open Go Go.RowKit
theorem own_nilSrc {w : World} {base : Nat} {t e : TypeId} {i : TypeInfo} {size n : Nat} {v : Value} {xs : List Value} (ht : Tryz.prog.underlying t = some (.slice e)) (hi : Tryz.prog.info? e = some i) (h : w.ownsRow base e size v n xs) (ty : TypeId) (c : Nat) : (Builtin.append_ #[t, t] ty #[v, .slice none 0 c]).run Tryz.prog w = .ok v w := by
  rcases h.2 with ⟨h2, h3⟩ | ⟨g, cap, cur, h2, _, _, hnc, _⟩
  · subst h2
    simp [Builtin.append_, run_underlying ht, sizeOf, typeInfo, hi, Builtin.lenOf, Builtin.firstCells]
  · subst h2
    simp [Builtin.append_, run_underlying ht, sizeOf, typeInfo, hi, Builtin.lenOf, Builtin.firstCells, hnc, storeCells]
structure Src (w : World) (a : Option Addr) (m : Nat) (size : Nat) (us : List Value) : Prop where
  len : us.length = m * size
  sm : 0 < m → ∃ x, a = some x
  cl : ∀ x, a = some x → ∀ j u, us[j]? = some u → w.cell? (x.add j) = some u
  one : ∀ u ∈ us, u.oneCell' = true
theorem run_append_src (w : World) (base : Nat) (hbase : base ≤ w.heap.size) (t e : TypeId) (z : Value) (size bytes : Nat) (ht : Tryz.prog.underlying t = some (.slice e)) (hinf : (Tryz.prog.info? e).map (fun i => (i.zero, i.size, i.bytes)) = some (some z, size, bytes)) (hz1 : z.cells.size = size) (hsz : 0 < size) (hb8 : bytes ≤ 64) (ty : TypeId)
    (v : Value) (n : Nat) (xs : List Value) (hown : w.ownsRow base e size v n xs) (a : Option Addr) (m c : Nat) (us : List Value) (hs : Src w a m size us) (hl : n + m ≤ 1000000) :
    ∃ v' w', (Builtin.append_ #[t, t] ty #[v, .slice a m c]).run Tryz.prog w = .ok v' w' ∧ w'.ownsRow base e size v' (n + m) (xs ++ us) ∧ Keep (fun k => v.ownBlock = some k) w w' ∧ ∀ k, v'.ownBlock = some k → v.ownBlock = some k ∨ w.heap.size ≤ k := by
  obtain ⟨ti, hi, hz0, hz, hz2⟩ := info_parts hinf
  rcases a with _ | ad
  · have hm : m = 0 := by
      rcases Nat.eq_zero_or_pos m with h0 | h0
      · exact h0
      · obtain ⟨x, hx⟩ := hs.sm h0; cases hx
    subst hm
    obtain rfl : us = [] := List.eq_nil_of_length_eq_zero (by have := hs.len; omega)
    exact ⟨v, w, own_nilSrc ht hi hown ty c, by simpa using hown, Keep.refl _ _, fun k hk => .inl hk⟩
  · obtain ⟨v', w', hr, h2, h3, _, h4⟩ := run_append_own_at (P := Tryz.prog) w base t ty e ti z size bytes ht hi hz0 hz hz2 hz1 hsz v n xs hown ad m c us hs.len (hs.cl ad rfl) hs.one (by simp only [maxLen]; omega) (by
      have : (n + m) * bytes ≤ (n + m) * 64 := Nat.mul_le_mul_left _ hb8
      omega) hbase
    refine ⟨v', w', hr, h2, grown_keep h3, fun k hk => ?_⟩
    rcases h4 with h4 | h4
    · exact .inl (h4 ▸ hk)
    · rw [h4] at hk
      have := Option.some.inj hk
      exact .inr (by omega)
theorem wpList_append_src {ops : Array Oper} {Q : Exit → Act → World → Prop} {rest : List Oper} {o : Oper} {a : Act} {w : World} (base : Nat) (hbase : base ≤ w.heap.size) (t e : TypeId) (z : Value) (size bytes : Nat) (ht : Tryz.prog.underlying t = some (.slice e)) (hinf : (Tryz.prog.info? e).map (fun i => (i.zero, i.size, i.bytes)) = some (some z, size, bytes)) (hz1 : z.cells.size = size) (hsz : 0 < size)
    (hb8 : bytes ≤ 64) (hg : o.guard = none) (s x : Operand) (ho : o.op = .call { callee := .builtin .append, args := #[s, x], argTypes := #[t, t] })
    (v : Value) (n : Nat) (xs : List Value) (hs : a.eval s = v) (hown : w.ownsRow base e size v n xs) (ad : Option Addr) (m c : Nat) (us : List Value) (hx : a.eval x = .slice ad m c) (hsrc : Src w ad m size us) (hl : n + m ≤ 1000000)
    (h : ∀ v' w', w'.ownsRow base e size v' (n + m) (xs ++ us) → Keep (fun k => v.ownBlock = some k) w w' → (∀ k, v'.ownBlock = some k → v.ownBlock = some k ∨ w.heap.size ≤ k) → wpList Tryz.prog ops Q rest (a.put o.dst v') w') : wpList Tryz.prog ops Q (o :: rest) a w := by
  obtain ⟨v', w', hr, h2, h3, h4⟩ := run_append_src w base hbase t e z size bytes ht hinf hz1 hsz hb8 o.type v n xs hown ad m c us hsrc hl
  refine wpList_plain hg fun K hK => ?_
  unfold Oper.wp
  rw [run_exec_append s x t ho hs hx hr]
  exact hK _ _ (h v' w' h2 h3 h4)
theorem Src.ints {w : World} {a : Option Addr} {m : Nat} {vs : List Int} (h : Ints w a m vs) : Src w a m 1 (icells vs) := by
  refine ⟨by simp [icells, h.ln], h.sm, fun x hx j u hu => ?_, icells_one⟩
  simp only [icells, List.getElem?_map] at hu
  have hj : j < vs.length := by
    rcases Nat.lt_or_ge j vs.length with h1 | h1
    · exact h1
    · rw [List.getElem?_eq_none h1] at hu; cases hu
  rw [h.cl x hx j (by have := h.ln; omega), List.getD_eq_getElem?_getD, List.getElem?_eq_getElem hj]
  rw [List.getElem?_eq_getElem hj] at hu
  exact hu
theorem FV.one {w : World} {n0 : Nat} {t : Option Nat} {fs : List FV} (h : ∀ x ∈ fs, x.At w n0 t) : ∀ u ∈ fs.flatMap FV.cells, u.oneCell' = true := by
  intro u hu
  obtain ⟨x, hx, hu⟩ := List.mem_flatMap.1 hu
  obtain ⟨a, c, _, hv, _⟩ := (h x hx).form
  simp only [FV.cells, hv, List.mem_cons, List.not_mem_nil, or_false] at hu
  rcases hu with rfl | rfl | rfl | rfl | rfl <;> rfl
theorem Src.part {w : World} {n0 : Nat} {t : Option Nat} {base g n cap : Nat} {e : TypeId} {fs : List FV} (h : FRow w n0 t base e (.slice (some ⟨g, 0, none⟩) n cap) fs) (hn : fs.length = n) (i m : Nat) (him : i + m ≤ n) : Src w (some ⟨g, i * 5, none⟩) m 5 (((fs.drop i).take m).flatMap FV.cells) := by
  have hr := h.row
  rw [hn] at hr
  refine ⟨?_, fun _ => ⟨_, rfl⟩, fun x hx j u hu => ?_, FV.one (w := w) (n0 := n0) (t := t) fun x hx => h.nums x (List.mem_of_mem_drop (List.mem_of_mem_take hx))⟩
  · rw [fm_len FV.cells 5 FV.cells_len]
    simp
    omega
  · obtain rfl := Option.some.inj hx
    rw [show (⟨g, i * 5, none⟩ : Addr).add j = ⟨g, i * 5 + j, none⟩ from by by_cases h0 : j = 0 <;> simp [Addr.add, h0]]
    refine own_get hr _ ?_
    rw [← fm_take FV.cells 5 FV.cells_len, ← fm_drop FV.cells 5 FV.cells_len, List.getElem?_take, List.getElem?_drop] at hu
    split at hu
    · exact hu
    · cases hu
theorem Src.head {w : World} {n0 : Nat} {t : Option Nat} {base g n cap : Nat} {e : TypeId} {fs : List FV} (h : FRow w n0 t base e (.slice (some ⟨g, 0, none⟩) n cap) fs) (hn : fs.length = n) (k : Nat) (hk : k ≤ n) : Src w (some ⟨g, 0, none⟩) k 5 ((fs.take k).flatMap FV.cells) := by
  have := Src.part h hn 0 k (by omega)
  rwa [List.drop_zero, Nat.zero_mul] at this
theorem Src.tail {w : World} {n0 : Nat} {t : Option Nat} {base g n cap : Nat} {e : TypeId} {fs : List FV} (h : FRow w n0 t base e (.slice (some ⟨g, 0, none⟩) n cap) fs) (hn : fs.length = n) (k : Nat) (hk : k ≤ n) : Src w (some ⟨g, k * 5, none⟩) (n - k) 5 ((fs.drop k).flatMap FV.cells) := by
  have := Src.part h hn k (n - k) (by omega)
  rwa [List.take_of_length_le (by simp; omega)] at this
theorem Src.zero (w : World) (ad : Addr) (nets : List FV) (kk : Nat) (h : nets.length ≤ kk + 1) : Src w (some ad) (nets.length - (kk + 1)) 5 ((nets.drop (kk + 1)).flatMap FV.cells) := by
  have h1 : nets.drop (kk + 1) = [] := List.drop_of_length_le h
  rw [h1]
  exact ⟨by simp; omega, fun _ => ⟨_, rfl⟩, fun x _ j u hu => by simp at hu, fun u hu => by simp at hu⟩
theorem Src.all {w : World} {n0 : Nat} {t : Option Nat} {base n cap : Nat} {a : Option Addr} {e : TypeId} {fs : List FV} (h : FRow w n0 t base e (.slice a n cap) fs) (hn : fs.length = n) : Src w a n 5 (fs.flatMap FV.cells) := by
  rcases Nat.eq_zero_or_pos n with h0 | h0
  · subst h0
    obtain rfl := List.eq_nil_of_length_eq_zero hn
    exact ⟨rfl, fun h => by omega, fun x _ j u hu => by simp at hu, fun u hu => by simp at hu⟩
  · have hr := h.row
    obtain ⟨g, cp, he⟩ := own_some hr (by omega)
    simp only [Value.slice.injEq] at he
    obtain ⟨rfl, _, rfl⟩ := he
    have := Src.part h hn 0 n (by omega)
    rw [List.drop_zero, List.take_of_length_le (by omega), Nat.zero_mul] at this
    exact this
theorem Wr.told {w : World} {n0 : Nat} {t : Option Nat} (h : ∀ b, t = some b → n0 ≤ b) : Wr w n0 t fun b => t = some b := fun b hb _ => ⟨h b hb, fun _ => hb⟩
structure Told (w w' : World) (n0 : Nat) (t t' : Option Nat) : Prop where
  keep : Keep (fun b => t = some b) w w'
  lo : ∀ b, t = some b → n0 ≤ b
  int : ∀ b, t = some b → IsInt w b
  new : ∀ b, t' = some b → t = some b ∨ w.heap.size ≤ b
theorem NumsAt.told {w w' : World} {n0 : Nat} {t t' : Option Nat} {v : Value} {l : List Int} (h : NumsAt w n0 t v l) (k : Told w w' n0 t t') : NumsAt w' n0 t' v l := by
  obtain ⟨a, cap, rfl, hi, hb⟩ := h
  have hne : ∀ x, a = some x → 0 < l.length → ¬ t = some x.block := fun x hx hl e => by
    rcases hb x hx hl with h1 | h1
    · have := k.lo _ e; omega
    · exact h1.2 e
  refine ⟨a, cap, rfl, hi.keep k.keep hne, fun x hx hl => (hb x hx hl).imp id fun h1 => ⟨h1.1.keep k.keep (hne x hx hl), fun e => ?_⟩⟩
  rcases k.new _ e with h2 | h2
  · exact h1.2 h2
  · have := hi.blt hx hl; omega
theorem Told.ne {w w' : World} {n0 : Nat} {t t' : Option Nat} (k : Told w w' n0 t t') {b : Nat} {c : Array Value} {e : TypeId} (hb : Blk w b c e) (hne : e ≠ 3) : ¬ t = some b := fun h => IsInt.not hb hne (k.int b h)
theorem FRow.told {w w' : World} {n0 : Nat} {t t' : Option Nat} {base : Nat} {e : TypeId} {v : Value} {fs : List FV} (h : FRow w n0 t base e v fs) (k : Told w w' n0 t t') (he : e ≠ 3) : FRow w' n0 t' base e v fs :=
  ⟨row_keep h.row k.keep (fun b hb => by
    obtain ⟨c, hc⟩ := own_ty h.row hb
    exact k.ne hc he), fun x hx => NumsAt.told (h.nums x hx) k⟩
section
variable {w0 : World} {N : List Int} {n p q b a d e : Nat} {now c : Int} {r : Rcv} {nv tv : Value} {nets : List FV} {wr : World}
end
theorem AllOf.mono {N : List Int} {n m : Nat} {l : List Fr} (h : AllOf N n l) (hn : n ≤ m) : AllOf N m l := fun f hf => by
  obtain ⟨j, hj, e⟩ := h f hf
  exact ⟨j, by omega, e⟩
theorem add_add (a : Addr) (i j : Nat) : (a.add i).add j = a.add (i + j) := by
  by_cases hi : i = 0
  · subst hi; simp [Addr.add]
  · by_cases hj : j = 0
    · subst hj; simp [Addr.add]
    · simp only [add_posU _ _ hi, add_posU _ _ hj, add_posU _ _ (show i + j ≠ 0 by omega)]
      congr 1
      omega
theorem IntsR.src {w : World} {n0 : Nat} {a : Option Addr} {n cap : Nat} {l : List Int} (h : IntsR w n0 (.slice a n cap) l) : Src w a n 1 (icells l) := by
  obtain ⟨a', cap', h1, h2, h3, h4, h5⟩ := h
  obtain ⟨rfl, rfl, rfl⟩ : a = a' ∧ n = l.length ∧ cap = cap' := by simpa using h1
  refine ⟨by simp [icells], h4, fun x hx j u hu => ?_, icells_one⟩
  have hj : j < l.length := by
    rcases Nat.lt_or_ge j l.length with h | h
    · exact h
    · rw [List.getElem?_eq_none (by simpa [icells] using h)] at hu; cases hu
  unfold icells at hu
  rw [List.getElem?_map, List.getElem?_eq_getElem hj] at hu
  obtain rfl := Option.some.inj hu
  exact (h5 x hx (by omega)).2 j hj _ (List.getElem?_eq_getElem hj)
theorem StrsR.src {w : World} {n0 : Nat} {a : Option Addr} {n cap : Nat} {l : List ByteArray} (h : StrsR w n0 (.slice a n cap) l) : Src w a n 1 (l.map .string) := by
  obtain ⟨a', cap', h1, h2, h3, h4, h5⟩ := h
  obtain ⟨rfl, rfl, rfl⟩ : a = a' ∧ n = l.length ∧ cap = cap' := by simpa using h1
  refine ⟨by simp, h4, fun x hx j u hu => ?_, fun u hu => ?_⟩
  · have hj : j < l.length := by
      rcases Nat.lt_or_ge j l.length with h | h
      · exact h
      · rw [List.getElem?_eq_none (by simpa using h)] at hu; cases hu
    rw [List.getElem?_map, List.getElem?_eq_getElem hj] at hu
    obtain rfl := Option.some.inj hu
    exact (h5 x hx (by omega)).2 j hj _ (List.getElem?_eq_getElem hj)
  · obtain ⟨s, _, rfl⟩ := List.mem_map.1 hu
    rfl
set_option maxRecDepth 100000 in
set_option maxHeartbeats 800000 in
theorem ownintsR_any (v : Value) (l : List Int) (w : World) (n0 : Nat) (h : IntsR w n0 v l) (hl : l.length ≤ 1000) :
    Calls Tryz.prog 35 #[v] w fun e w' => ∃ v', e = .returned v' ∧ Ext w w' ∧ w'.ownsRow w.heap.size 3 1 v' l.length (icells l) := by
  obtain ⟨a, cap, rfl, h'⟩ := id h
  have Hs := hid h.src
  have hl2 : 0 + l.length ≤ 1000000 := by omega
  clear h h'
  go_enter Tryz.func35, Tryz.ntmps35
  go_wp2_with (at_builtin; refine wpList_append_src w.heap.size (Nat.le_refl _) 45 3 (.int .i64 0) 1 8 Tryz.underlying45 ints_info rfl (by omega) (by omega) rfl _ _ rfl (.slice none 0 0) 0 [] rfl (World.ownsRow_nil _ _ _ _) a l.length cap (icells l) rfl Hs.out hl2 ?_; intro v' w' h1 h2 h4; have h3 := Keep.new (Ext.refl w) h2 (fun k hk => by cases hk))
  go_ret
  exact ⟨_, rfl, h3, by simpa using h1⟩
def IntsT (w : World) (v : Value) (l : List Int) : Prop := IntsR w w.heap.size v l ∧ ∀ b, v.ownBlock = some b → IsInt w b
theorem IntsT.keep {X : Nat → Prop} {w w' : World} {v : Value} {l : List Int} (h : IntsT w v l) (k : Keep X w w') (hX : ∀ b, X b → ¬ IsInt w b) : IntsT w' v l := by
  obtain ⟨⟨a, cap, h1, h2, h3, h4, h5⟩, hi⟩ := h
  subst h1
  refine ⟨⟨a, cap, rfl, h2, h3, h4, fun y hy h0 => ⟨Nat.lt_of_lt_of_le (h5 y hy h0).1 k.size, fun i hl s hs => ?_⟩⟩, fun b hb => (hi b hb).keep k fun hx => hX b hx (hi b hb)⟩
  subst hy
  exact k.cellx ((h5 y rfl h0).2 i hl s hs) fun hx => hX _ hx (by rw [add_block]; exact hi y.block rfl)
theorem IntsT.ext {w w' : World} {v : Value} {l : List Int} (h : IntsT w v l) (x : Ext w w') : IntsT w' v l := h.keep (x.keep fun _ => False) fun _ h => h.elim
theorem IntsT.form {w : World} {v : Value} {l : List Int} (h : IntsT w v l) : ∃ a c, v = .slice a l.length c := by
  obtain ⟨⟨a, cap, h1, _⟩, _⟩ := h
  exact ⟨a, cap, h1⟩
structure F2 where
  f : PF
  v : Value
def F2.cells (x : F2) : List Value := [.string x.f.name, x.v, .int .i64 x.f.ret]
theorem F2.cells_len (x : F2) : x.cells.length = 3 := rfl
structure S2 where
  s : PS
  v : Value
def S2.cells (x : S2) : List Value := [.string x.s.kind, .int .i64 x.s.x, .int .i64 x.s.y, x.v]
theorem S2.cells_len (x : S2) : x.cells.length = 4 := rfl
theorem FunsR.own {w : World} {base : Nat} {v : Value} {fs : List F2} {l : List PF} (h : w.ownsRow base 79 3 v fs.length (fs.flatMap F2.cells)) (hl : fs.map F2.f = l) (hn : ∀ x ∈ fs, IntsT w x.v x.f.params) : FunsR w w.heap.size v l := by
  have hll : l.length = fs.length := by rw [← hl, List.length_map]
  unfold FunsR
  rw [hll]
  refine ElR.own h (Nat.le_refl _) fun g hc i hi f hf => ?_
  rw [← hl, List.getElem?_map] at hf
  obtain ⟨x, hx, rfl⟩ := Option.map_eq_some_iff.1 hf
  have c : ∀ j u, x.cells[j]? = some u → j < 3 → w.cell? (((⟨g, 0, none⟩ : Addr).add (i * 3)).add j) = some u := fun j u hu hj => by
    rw [add_add]
    exact hc _ _ ((fm_get F2.cells 3 F2.cells_len fs i j x hx hj).trans hu)
  exact ⟨x.v, by simpa [Addr.add] using c 0 _ rfl (by omega), c 1 _ rfl (by omega), c 2 _ rfl (by omega), (hn x (List.mem_of_getElem? hx)).1⟩
theorem StmtsR.own {w : World} {base : Nat} {v : Value} {ss : List S2} {l : List PS} (h : w.ownsRow base 77 4 v ss.length (ss.flatMap S2.cells)) (hl : ss.map S2.s = l) (hn : ∀ x ∈ ss, IntsT w x.v x.s.args) : StmtsR w w.heap.size v l := by
  have hll : l.length = ss.length := by rw [← hl, List.length_map]
  unfold StmtsR
  rw [hll]
  refine ElR.own h (Nat.le_refl _) fun g hc i hi f hf => ?_
  rw [← hl, List.getElem?_map] at hf
  obtain ⟨x, hx, rfl⟩ := Option.map_eq_some_iff.1 hf
  have c : ∀ j u, x.cells[j]? = some u → j < 4 → w.cell? (((⟨g, 0, none⟩ : Addr).add (i * 4)).add j) = some u := fun j u hu hj => by
    rw [add_add]
    exact hc _ _ ((fm_get S2.cells 4 S2.cells_len ss i j x hx hj).trans hu)
  exact ⟨x.v, by simpa [Addr.add] using c 0 _ rfl (by omega), c 1 _ rfl (by omega), c 2 _ rfl (by omega), c 3 _ rfl (by omega), (hn x (List.mem_of_getElem? hx)).1⟩
end Go.Proofs.YtbagppdibncfdaaGreatDoor
namespace Go.Proofs.YtbagppdibncfdaaGreatDoor
open Go Go.RowKit Go.Sort
theorem IRow.cur {base : Nat} {w : World} {g n cap : Nat} {l : List Int} (h : IRow base w (.slice (some ⟨g, 0, none⟩) n cap) l) : n = l.length ∧ base ≤ g ∧ l.length ≤ cap ∧ cap ≤ maxLen ∧ ∃ cur, Blk w g cur 3 ∧ cur.size = cap ∧ cur.toList.take l.length = icells l := by
  rcases h.2 with ⟨h1, _⟩ | ⟨g', cap', cur, h1, h2, h3, h4, h5, h6, h7⟩
  · simp at h1
  · simp only [Value.slice.injEq, Option.some.injEq, Addr.mk.injEq, and_true] at h1
    obtain ⟨rfl, rfl, rfl⟩ := h1
    exact ⟨rfl, h2, h4, h5, cur, h3, by omega, by simpa using h7⟩
theorem IRow.holds {base : Nat} {w : World} {g n cap : Nat} {l : List Int} (h : IRow base w (.slice (some ⟨g, 0, none⟩) n cap) l) : Holds (Value.int .i64) w g 0 l.toArray := by
  obtain ⟨rfl, _⟩ := h.cur
  intro j hj
  have hj' : j < l.length := by simpa using hj
  rw [Nat.zero_add]
  refine ⟨?_, own_free h j⟩
  rw [own_get h j (u := .int .i64 (l[j]'hj')) (by unfold icells; rw [List.getElem?_map, List.getElem?_eq_getElem hj']; rfl)]
  simp [getElem!_pos, hj']
theorem put_at {w : World} {g q : Nat} {cur : Array Value} {t : TypeId} {ys : List Int} {os : Array Obj} (hb : Blk w g cur t) :
    Blk (grow (putRow (Value.int .i64) (Sort.ahead w q) g 0 ys.toArray) os) g (putCells (Value.int .i64) 0 ys.toArray cur) t ∧ Keep (fun b => b = g) w (grow (putRow (Value.int .i64) (Sort.ahead w q) g 0 ys.toArray) os) := by
  have hlt := hb.lt
  have hh : ∀ k, k < w.heap.size → (grow (putRow (Value.int .i64) (Sort.ahead w q) g 0 ys.toArray) os).heap[k]? = (w.heap.modify g (onCells (putCells (Value.int .i64) 0 ys.toArray)))[k]? := fun k hk => by
    unfold grow putRow mapBlock Sort.ahead
    simp only
    rw [Array.getElem?_append_left (by simpa using hk)]
  constructor
  · unfold Blk
    rw [hh g hlt, Array.getElem?_modify, if_pos rfl]
    have : w.heap[g]? = some (.cells cur t (0, 0)) := hb
    rw [this]
    rfl
  · refine ⟨rfl, rfl, rfl, ?_, fun k hk hx => ?_⟩
    · unfold grow putRow mapBlock Sort.ahead
      simp
    · rw [hh k hk, Array.getElem?_modify, if_neg (fun e => hx e.symm)]
theorem put_cells (ys : List Int) (cur : Array Value) (k : Nat) (hk : k ≤ ys.length) (hc : ys.length ≤ cur.size) : (putCells (Value.int .i64) 0 ys.toArray cur).toList.take k = icells (ys.take k) := by
  apply List.ext_getElem?
  intro i
  rw [List.getElem?_take]
  unfold icells
  rw [List.getElem?_map, List.getElem?_take]
  by_cases hi : i < k
  · rw [if_pos hi, if_pos hi, Array.getElem?_toList]
    unfold putCells
    rw [Array.getElem?_mapIdx, Array.getElem?_eq_getElem (by omega), List.getElem?_eq_getElem (by omega)]
    simp only [Option.map_some, Nat.zero_le, true_and, Nat.zero_add, List.size_toArray, Nat.sub_zero]
    rw [if_pos (by omega)]
    congr 1
    simp [getElem!_pos, show i < ys.length by omega]
  · rw [if_neg hi, if_neg hi]; rfl
theorem IRow.put {base : Nat} {w : World} {g n cap q : Nat} {zs ys : List Int} {os : Array Obj} (h : IRow base w (.slice (some ⟨g, 0, none⟩) n cap) zs) (hy : ys.length = zs.length) (k : Nat) (hk : k ≤ ys.length) :
    IRow base (grow (putRow (Value.int .i64) (Sort.ahead w q) g 0 ys.toArray) os) (.slice (some ⟨g, 0, none⟩) k cap) (ys.take k) ∧ Keep (fun b => b = g) w (grow (putRow (Value.int .i64) (Sort.ahead w q) g 0 ys.toArray) os) := by
  obtain ⟨rfl, h1, h2, h3, cur, h4, h5, h6⟩ := h.cur
  obtain ⟨p1, p2⟩ := put_at (q := q) (ys := ys) (os := os) h4
  refine ⟨?_, p2⟩
  have hl : (ys.take k).length = k := by rw [List.length_take]; omega
  unfold IRow
  rw [hl]
  refine ⟨by simp [icells]; omega, .inr ⟨g, cap, _, rfl, h1, p1, by omega, h3, ?_, ?_⟩⟩
  · unfold putCells
    rw [Array.size_mapIdx]; omega
  · rw [Nat.mul_one]; exact put_cells ys cur k hk (by omega)
theorem IRow.case {base : Nat} {w : World} {v : Value} {l : List Int} (h : IRow base w v l) : (v = .slice none 0 0 ∧ l = []) ∨ ∃ g cap, v = .slice (some ⟨g, 0, none⟩) l.length cap := by
  rcases h.2 with ⟨h1, h2⟩ | ⟨g, cap, cur, h1, _⟩
  · exact .inl ⟨h1, List.eq_nil_of_length_eq_zero h2⟩
  · exact .inr ⟨g, cap, h1⟩
end Go.Proofs.YtbagppdibncfdaaGreatDoor
namespace Go.Proofs.YtbagppdibncfdaaGreatDoor
open Go Go.RowKit Go.Shelf Go.Maps Go.Sort
def AtoiOk (w : World) : Prop := (∃ ev, w.cell? ⟨13, 0, none⟩ = some ev ∧ (ev = .nilIface ∨ ∃ te pe, ev = .iface te pe)) ∧ ∃ ev, w.cell? ⟨14, 0, none⟩ = some ev ∧ (ev = .nilIface ∨ ∃ te pe, ev = .iface te pe)
theorem AtoiOk.ext {w w' : World} (h : AtoiOk w) (x : Ext w w') : AtoiOk w' := by
  obtain ⟨⟨e1, c1, h1⟩, e2, c2, h2⟩ := h
  exact ⟨⟨e1, x.cellx c1, h1⟩, e2, x.cellx c2, h2⟩
theorem keep_put (W : World) (l : Nat) (o' : Obj) : Keep (fun b => b = l) W (W.putObj l o') :=
  ⟨rfl, rfl, rfl, by simp [World.putObj], fun k _ hk => World.putObj_heap_other hk⟩
theorem ext_others {A B : World} (x : Ext A B) : KeepsOthers A B := ⟨x.size, fun _ _ h _ => x.get h⟩
theorem atoi_any (s : ByteArray) (hs : s.size ≤ 1000000) (w : World) (hV : AtoiOk w) :
    Calls Tryz.prog 94 #[.string s] w fun e w' => ∃ (v : Int) (ev : Value), e = .returned (.tuple #[.int .i64 v, ev]) ∧ Ext w w' ∧ ((Lib.atoiAll s.data.toList = .ok v ∧ ev = .nilIface) ∨ ((∀ u, Lib.atoiAll s.data.toList ≠ .ok u) ∧ ∃ te pe, ev = .iface te pe)) := by
  obtain ⟨⟨e1, c1, h1⟩, e2, c2, h2⟩ := hV
  cases h : Lib.atoiAll s.data.toList with
  | ok v =>
    refine (Tryz.strconv_Atoi_ok s (by omega) v h w).mono fun e w' ⟨he, hw⟩ => ⟨v, .nilIface, he, ?_, .inl ⟨rfl, rfl⟩⟩
    rcases hw with rfl | ⟨t, rfl⟩
    · exact Ext.refl _
    · exact Lib.bytesWorld_below _ _ _
  | «syntax» => exact (Tryz.strconv_Atoi_syntax s (by omega) h e1 w c1 h1).mono fun e w' ⟨N, he, _, _, hb⟩ => ⟨0, _, he, hb, .inr ⟨(fun u hu => by cases hu), _, _, rfl⟩⟩
  | range => exact (Tryz.strconv_Atoi_range s (by omega) h e2 w c2 h2).mono fun e w' ⟨N, he, _, _, hb⟩ => ⟨_, _, he, hb, .inr ⟨(fun u hu => by cases hu), _, _, rfl⟩⟩
theorem numsV_snoc : ∀ (ps : List (List UInt8)) (p : List UInt8), numsV (ps ++ [p]) = match numsV ps, numV p with | some l, some v => some (l ++ [v]) | _, _ => none
  | [], p => by
    show (match numV p, numsV [] with | some v, some l => some (v :: l) | _, _ => none) = _
    unfold numsV
    cases numV p <;> rfl
  | q :: ps, p => by
    show (match numV q, numsV (ps ++ [p]) with | some v, some l => some (v :: l) | _, _ => none) = (match (match numV q, numsV ps with | some v, some l => some (v :: l) | _, _ => none), numV p with | some l, some v => some (l ++ [v]) | _, _ => none)
    rw [numsV_snoc ps p]
    cases numV q <;> cases numsV ps <;> cases numV p <;> rfl
theorem numsV_bad : ∀ {ps : List (List UInt8)} {k : Nat} {p : List UInt8}, ps[k]? = some p → numV p = none → numsV ps = none
  | [], k, p, h, _ => by simp at h
  | q :: ps, 0, p, h, hn => by
    simp only [List.getElem?_cons_zero, Option.some.injEq] at h
    subst h
    show (match numV q, numsV ps with | some v, some l => some (v :: l) | _, _ => none) = _
    rw [hn]
  | q :: ps, k + 1, p, h, hn => by
    show (match numV q, numsV ps with | some v, some l => some (v :: l) | _, _ => none) = _
    rw [numsV_bad (ps := ps) (k := k) (by simpa using h) hn]
    cases numV q <;> rfl
theorem numsV_len : ∀ {ps : List (List UInt8)} {l : List Int}, numsV ps = some l → l.length = ps.length
  | [], l, h => by
    unfold numsV at h
    injection h with h
    subst h
    rfl
  | q :: ps, l, h => by
    have h' : (match numV q, numsV ps with | some v, some l => some (v :: l) | _, _ => none) = some l := h
    cases hq : numV q with
    | none => rw [hq] at h'; cases numsV ps <;> cases h'
    | some v =>
      cases hp : numsV ps with
      | none => rw [hq, hp] at h'; cases h'
      | some m =>
        rw [hq, hp] at h'
        injection h' with h'
        subst h'
        simp [numsV_len hp]
structure SrAt (w : World) (vs : List Int) (t : ByteArray) (W : World) : Prop where
  x : Ext w W
  b0 : Blk W w.heap.size #[.slice none 0 0] 45
  b1 : Blk W (w.heap.size + 1) #[.nilIface] 35
  out : ∃ v, Blk W (w.heap.size + 2) #[v] 45 ∧ IRow (w.heap.size + 6) W v vs
  s : Blk W (w.heap.size + 3) #[.string t] 9
  p : Blk W (w.heap.size + 4) #[.string ⟨#[44]⟩] 9
  z : Blk W (w.heap.size + 5) #[.int .i64 0] 3
theorem SrAt.keep {w : World} {vs : List Int} {t : ByteArray} {W W' : World} {X : Nat → Prop} (h : SrAt w vs t W) (k : Keep X W W') (h6 : ∀ b, X b → w.heap.size + 6 ≤ b) (hr : ∀ b, X b → ∀ v, Blk W (w.heap.size + 2) #[v] 45 → v.ownBlock ≠ some b) : SrAt w vs t W' := by
  have ne : ∀ b, b < w.heap.size + 6 → ¬ X b := fun b hb hx => by have := h6 b hx; omega
  obtain ⟨v, hv, hrow⟩ := h.out
  exact ⟨Keep.new h.x k fun n hn => by have := h6 n hn; omega, h.b0.keep k (ne _ (by omega)), h.b1.keep k (ne _ (by omega)), ⟨v, hv.keep k (ne _ (by omega)), hrow.keep k fun b hb hx => hr b hx v hv hb⟩, h.s.keep k (ne _ (by omega)), h.p.keep k (ne _ (by omega)), h.z.keep k (ne _ (by omega))⟩
theorem SrAt.ext {w : World} {vs : List Int} {t : ByteArray} {W W' : World} (h : SrAt w vs t W) (x : Ext W W') : SrAt w vs t W' :=
  h.keep (x.keep (fun _ => False)) (fun _ hx => hx.elim) (fun _ hx => hx.elim)
theorem SrAt.put {w : World} {vs : List Int} {t : ByteArray} {W : World} (h : SrAt w vs t W) {l : Nat} {o : Obj} (o' : Obj) (hl : W.heap[l]? = some o) (ho : o.isCells = false) (hb : w.heap.size + 6 ≤ l) : SrAt w vs t (W.putObj l o') := by
  refine h.keep (keep_put W l o') (fun b e => e ▸ hb) fun b e v hv hv2 => ?_
  subst e
  obtain ⟨v2, hv2', hrow⟩ := h.out
  have e : v = v2 := by
    have := hv.symm.trans hv2'
    simpa using this
  subst e
  obtain ⟨cur, hcur⟩ := own_ty hrow hv2
  have e2 : (Obj.cells cur 3 (0, 0)) = o := Option.some.inj ((show W.heap[b]? = _ from hcur).symm.trans hl)
  rw [← e2] at ho
  cases ho
theorem SrAt.setS {w : World} {vs : List Int} {t : ByteArray} {W : World} (h : SrAt w vs t W) (t' : ByteArray) : SrAt w vs t' (W.setCell ⟨w.heap.size + 3, 0, none⟩ (.string t')) := by
  obtain ⟨v, hv, hrow⟩ := h.out
  have k : Keep (fun b => b = w.heap.size + 3) W (W.setCell ⟨w.heap.size + 3, 0, none⟩ (.string t')) := Keep.set (X := fun b => b = w.heap.size + 3) (Keep.refl _ _) rfl _
  refine ⟨Keep.new h.x k fun n hn => by omega, h.b0.keep k (by omega), h.b1.keep k (by omega), ⟨v, hv.keep k (by omega), hrow.keep k fun b hb hx => ?_⟩, ?_, h.p.keep k (by omega), h.z.keep k (by omega)⟩
  · have := (hrow.lt hb).1; omega
  · exact h.s.set 0 _
end Go.Proofs.YtbagppdibncfdaaGreatDoor
namespace Go.Proofs.YtbagppdibncfdaaGreatDoor
open Go Go.RowKit
structure ErrS (w : World) (ad : Nat → Addr) : Prop where
  at2 : w.cell? ⟨3, 0, none⟩ = some (evOf ad 2)
  at10 : w.cell? ⟨7, 0, none⟩ = some (evOf ad 10)
theorem ErrS.ext {w w' : World} {ad : Nat → Addr} (h : ErrS w ad) (x : Ext w w') : ErrS w' ad := ⟨x.cellx h.at2, x.cellx h.at10⟩
set_option maxRecDepth 100000 in
set_option maxHeartbeats 1600000 in
theorem setcheck_any (v : Value) (l : List Int) (w : World) (n0 : Nat) (ad : Nat → Addr) (hE : ErrS w ad) (h : IntsR w n0 v l) :
    Calls Tryz.prog 44 #[v] w fun e w' => e = .returned (errv (evOf ad) (chkE l)) ∧ Ext w w' := by
  have HI := hid h
  obtain ⟨a, cap, rfl, h2, h3, h4, h5⟩ := id h
  have HE := hid hE
  have H4 := hid h4
  have H5 := hid h5
  have g2 := hE.at2
  have g10 := hE.at10
  unfold evOf at g2 g10
  have hml : (l.length : Int) ≤ 9223372036854775807 := by omega
  clear h h2 h3 h4 h5 hE
  go_enter Tryz.func44, Tryz.ntmps44
  go_wp2
  go_loop [8] (fun t8 => ∃ k : Nat, t8 = .int .i64 (k : Int) ∧ k ≤ l.length ∧ ∀ j t, j < k → l[j]? = some t → 0 ≤ t ∧ t < 1000) (fun t8 => l.length - (intOf t8).toNat)
  case atStart => exact ⟨0, rfl, Nat.zero_le _, fun j t h => by omega⟩
  case round =>
    obtain ⟨k, rfl, hk, hp⟩ := hrel
    have Hp := hid hp
    clear hp
    by_cases hlt : k < l.length
    · obtain ⟨y, rfl⟩ := H4.out (by omega)
      obtain ⟨q, hq⟩ : ∃ q, l[k]? = some q := ⟨_, List.getElem?_eq_getElem hlt⟩
      have hc := (H5.out y rfl (by omega)).2 k hlt q hq
      have Hq := hid hq
      clear hq
      by_cases hq0 : q < 0
      · have Hr := hid (chkE_two (List.mem_of_getElem? Hq.out) (by omega))
        go_wp2
        go_ret
        exact ⟨by rw [Hr.out]; rfl, Ext.refl _⟩
      · by_cases hq1 : 1000 ≤ q
        · have Hr := hid (chkE_two (List.mem_of_getElem? Hq.out) (by omega))
          go_wp2
          go_ret
          exact ⟨by rw [Hr.out]; rfl, Ext.refl _⟩
        · have Hb : Hid (0 ≤ q ∧ q < 1000) := hid (by omega)
          go_wp2
          refine ⟨⟨k + 1, by go_num, by omega, fun j t hj ht => ?_⟩, by simp [intOf]; omega⟩
          by_cases hjk : j = k
          · subst hjk
            obtain rfl := Option.some.inj (Hq.out.symm.trans ht)
            exact Hb.out
          · exact Hp.out j t (by omega) ht
    · obtain rfl : k = l.length := by omega
      have Hin : Hid (InR l) := hid fun t ht => by
        obtain ⟨j, hj, e⟩ := List.mem_iff_getElem.1 ht
        exact Hp.out j t hj (by rw [List.getElem?_eq_getElem hj, e])
      go_wp2
      go_loopw [5] (fun t5 wr => ∃ i : Nat, t5 = .int .i64 ((i : Int) + 1) ∧ i ≤ l.length ∧ (∀ j, j < i → j + 1 < l.length → l.getD j 0 < l.getD (j + 1) 0) ∧ Ext w wr) (fun t5 _ => l.length + 1 - (intOf t5).toNat)
      case atStart => exact ⟨0, rfl, Nat.zero_le _, fun j hj => by omega, Ext.refl _⟩
      case round =>
        obtain ⟨i, rfl, hi, hp, hx⟩ := hrel
        have Hs := hid hp
        have Hx := hid hx
        clear hp hx
        by_cases hlt : i + 1 < l.length
        · obtain ⟨y, rfl⟩ := H4.out (by omega)
          obtain ⟨p, hp⟩ : ∃ p, l[i]? = some p := ⟨_, List.getElem?_eq_getElem (by omega)⟩
          obtain ⟨q, hq⟩ : ∃ q, l[i + 1]? = some q := ⟨_, List.getElem?_eq_getElem hlt⟩
          have hcp := (H5.out y rfl (by omega)).2 i (by omega) p hp
          have hcq := (H5.out y rfl (by omega)).2 (i + 1) hlt q hq
          rw [add_posU y (i + 1) (by omega)] at hcq
          have c0 : ∀ w1, Keep (fun _ => False) wr w1 → w1.cell? (y.add i) = some (.int .i64 p) := fun w1 k => (Hx.out.trans k.ext).cellx hcp
          have c1 : ∀ w1, Keep (fun _ => False) wr w1 → w1.cell? ⟨y.block, y.off + (i + 1), none⟩ = some (.int .i64 q) := fun w1 k => (Hx.out.trans k.ext).cellx hcq
          have Hp : Hid (l.getD i 0 = p) := hid (by rw [List.getD_eq_getElem?_getD, hp]; rfl)
          have Hq : Hid (l.getD (i + 1) 0 = q) := hid (by rw [List.getD_eq_getElem?_getD, hq]; rfl)
          have gx10 := Hx.out.cellx g10
          clear hp hq hcp hcq
          by_cases hpq : q ≤ p
          · have Hr := hid (chkE_ten Hin.out hlt (by rw [Hp.out, Hq.out]; exact hpq))
            go_wp2
            refine wp_flowT (fun _ => False) (by kernel_rfl) (by kernel_rfl) ?_
            repeat (apply FlowT.d; (intro w1 hk; unfold does; go_simp; (try go_ints); (first | exact DetR.mk | (simp only [↓IntWalk.iteOmega, Oper.doesUpon_value]; exact DetR.mk) | (simp only [↓IntWalk.iteOmega]; go_simp; (try go_ints); exact DetR.mk))); simp only [Act.put, qS0, qS1, qS2])
            refine FlowT.fin fun w1 hx1 hk1 => ?_
            have gy10 := hx1.cellx gx10
            have Hx1 := hid (Hx.out.trans hx1)
            clear hx1 hk1 c0 c1 gx10
            go_wp2
            go_ret
            exact ⟨by rw [Hr.out]; rfl, Hx1.out⟩
          · have Hlt : Hid (l.getD i 0 < l.getD (i + 1) 0) := hid (by rw [Hp.out, Hq.out]; omega)
            go_wp2
            refine wp_flowT (fun _ => False) (by kernel_rfl) (by kernel_rfl) ?_
            repeat (apply FlowT.d; (intro w1 hk; unfold does; go_simp; (try go_ints); (first | exact DetR.mk | (simp only [↓IntWalk.iteOmega, Oper.doesUpon_value]; exact DetR.mk) | (simp only [↓IntWalk.iteOmega]; go_simp; (try go_ints); exact DetR.mk))); simp only [Act.put, qS0, qS1, qS2])
            refine FlowT.fin fun w1 hx1 hk1 => ?_
            have Hx1 := hid (Hx.out.trans hx1)
            clear hx1 hk1 c0 c1 gx10
            go_wp2
            go_roundw
            case rel =>
              refine ⟨i + 1, by go_num, by omega, fun j hj hjl => ?_, Hx1.out⟩
              by_cases hji : j = i
              · subst hji; exact Hlt.out
              · exact Hs.out j (by omega) hjl
            case measure => simp [intOf]; omega
        · have Hr := hid (chkE_ok Hin.out fun j hj => Hs.out j (by omega) hj)
          go_wp2
          go_ret
          exact ⟨by rw [Hr.out]; rfl, Hx.out⟩
def bothE (a b : List Int) : Nat := if chkE a = 0 then chkE b else chkE a
set_option maxRecDepth 100000 in
set_option maxHeartbeats 800000 in
theorem setboth_any (va vb : Value) (a b : List Int) (w : World) (n0 : Nat) (ad : Nat → Addr) (hE : ErrS w ad) (ha : IntsR w n0 va a) (hb : IntsR w n0 vb b) :
    Calls Tryz.prog 86 #[va, vb] w fun e w' => e = .returned (errv (evOf ad) (bothE a b)) ∧ Ext w w' := by
  have HA := hid (setcheck_any va a w n0 ad hE ha)
  have HB := fun w1 (x : Ext w w1) => hid (setcheck_any vb b w1 n0 ad (hE.ext x) (hb.old (x.old n0)))
  obtain ⟨aa, ca, rfl, _⟩ := ha
  obtain ⟨ab, cb, rfl, _⟩ := hb
  clear hE
  by_cases h0 : chkE a = 0
  · have Hr := hid (show bothE a b = chkE b by unfold bothE; rw [if_pos h0])
    rw [h0] at HA
    unfold errv at HA
    rw [if_pos rfl] at HA
    clear h0
    go_enter Tryz.func86, Tryz.ntmps86
    go_wp2_with fail
    refine HA.out.mono ?_
    intro e w1 hx
    obtain ⟨rfl, hx1⟩ := hx
    have HB1 := HB w1 hx1
    have Hx1 := hid hx1
    clear HA HB hx1
    go_wp2_with fail
    refine HB1.out.mono ?_
    intro e w2 hx
    obtain ⟨rfl, hx2⟩ := hx
    have Hx2 := hid (Hx1.out.trans hx2)
    clear HB1 hx2
    generalize hev : errv (evOf ad) (chkE b) = ev
    have Hev := hid hev
    clear hev
    go_wp2
    go_ret
    exact ⟨by rw [Hr.out, Hev.out]; rfl, Hx2.out⟩
  · have Hr := hid (show errv (evOf ad) (bothE a b) = evOf ad (chkE a) by unfold bothE errv; rw [if_neg h0, if_neg h0])
    unfold errv evOf at HA
    rw [if_neg h0] at HA
    clear h0
    go_enter Tryz.func86, Tryz.ntmps86
    go_wp2_with fail
    refine HA.out.mono ?_
    intro e w1 hx
    obtain ⟨rfl, hx1⟩ := hx
    have Hx1 := hid hx1
    clear HA HB hx1
    go_wp2
    go_ret
    exact ⟨by rw [Hr.out]; rfl, Hx1.out⟩
end Go.Proofs.YtbagppdibncfdaaGreatDoor
namespace Go.Proofs
open Go.Shelf
def Tryz.lays189_ren : Go.Shelf.Ren := ⟨fun | 189 => 84 | 125 => 129 | 257 => 128 | 128 => 173 | 129 => 174 | 294 => 164 | 295 => 165 | 296 => 166 | 297 => 167 | 298 => 168 | 299 => 169 | 216 => 170 | 300 => 171 | 301 => 172 | 328 => 204 | 329 => 205 | 330 => 206 | 331 => 207 | 332 => 208 | 215 => 209 | 343 => 225 | n => n, fun | 28 => 45 | 3 => 3 | 46 => 173 | 0 => 0 | 51 => 216 | 53 => 218 | 4 => 4 | 183 => 208 | 182 => 207 | 131 => 213 | 5 => 5 | 9 => 9 | 218 => 254 | 222 => 258 | 228 => 275 | 229 => 85 | n => n, fun | n => n⟩
theorem Tryz.lays189 : Go.Proofs.Lays.n189 Tryz.prog Tryz.lays189_ren := {
  mixed := by kernel_rfl
  f125 := Tryz.func129.trans (congrArg some (by kernel_rfl))
  f128 := Tryz.func173.trans (congrArg some (by kernel_rfl))
  f129 := Tryz.func174.trans (congrArg some (by kernel_rfl))
  f189 := Tryz.func84.trans (congrArg some (by kernel_rfl))
  f215 := Tryz.func209.trans (congrArg some (by kernel_rfl))
  f216 := Tryz.func170.trans (congrArg some (by kernel_rfl))
  f257 := Tryz.func128.trans (congrArg some (by kernel_rfl))
  f294 := Tryz.func164.trans (congrArg some (by kernel_rfl))
  f295 := Tryz.func165.trans (congrArg some (by kernel_rfl))
  f296 := Tryz.func166.trans (congrArg some (by kernel_rfl))
  f297 := Tryz.func167.trans (congrArg some (by kernel_rfl))
  f298 := Tryz.func168.trans (congrArg some (by kernel_rfl))
  f299 := Tryz.func169.trans (congrArg some (by kernel_rfl))
  f300 := Tryz.func171.trans (congrArg some (by kernel_rfl))
  f301 := Tryz.func172.trans (congrArg some (by kernel_rfl))
  f328 := Tryz.func204.trans (congrArg some (by kernel_rfl))
  f329 := Tryz.func205.trans (congrArg some (by kernel_rfl))
  f330 := Tryz.func206.trans (congrArg some (by kernel_rfl))
  f331 := Tryz.func207.trans (congrArg some (by kernel_rfl))
  f332 := Tryz.func208.trans (congrArg some (by kernel_rfl))
  f343 := Tryz.func225.trans (congrArg some (by kernel_rfl))
  t0 := Tryz.underlying0
  a0 := Tryz.isAgg0
  z0 := Tryz.sizeOf0
  v0 := Tryz.zeroValue0
  t3 := Tryz.underlying3
  a3 := Tryz.isAgg3
  z3 := Tryz.sizeOf3
  v3 := Tryz.zeroValue3
  t4 := Tryz.underlying4
  a4 := Tryz.isAgg4
  z4 := Tryz.sizeOf4
  v4 := Tryz.zeroValue4
  t5 := Tryz.underlying5
  a5 := Tryz.isAgg5
  z5 := Tryz.sizeOf5
  v5 := Tryz.zeroValue5
  t9 := Tryz.underlying9
  a9 := Tryz.isAgg9
  z9 := Tryz.sizeOf9
  v9 := Tryz.zeroValue9
  t28 := Tryz.underlying45
  a28 := Tryz.isAgg45
  z28 := Tryz.sizeOf45
  v28 := Tryz.zeroValue45
  t46 := Tryz.underlying173
  a46 := Tryz.isAgg173
  z46 := Tryz.sizeOf173
  v46 := Tryz.zeroValue173
  t51 := Tryz.underlying216
  a51 := Tryz.isAgg216
  z51 := Tryz.sizeOf216
  v51 := Tryz.zeroValue216
  t53 := Tryz.underlying218
  a53 := Tryz.isAgg218
  z53 := Tryz.sizeOf218
  v53 := Tryz.zeroValue218
  t131 := Tryz.underlying213
  a131 := Tryz.isAgg213
  z131 := Tryz.sizeOf213
  v131 := Tryz.zeroValue213
  t182 := Tryz.underlying207
  a182 := Tryz.isAgg207
  z182 := Tryz.sizeOf207
  v182 := Tryz.zeroValue207
  t183 := Tryz.underlying208
  a183 := Tryz.isAgg208
  z183 := Tryz.sizeOf208
  v183 := Tryz.zeroValue208
  t218 := Tryz.underlying254
  a218 := Tryz.isAgg254
  z218 := Tryz.sizeOf254
  v218 := Tryz.zeroValue254
  t222 := Tryz.underlying258
  a222 := Tryz.isAgg258
  z222 := Tryz.sizeOf258
  v222 := Tryz.zeroValue258
  t228 := Tryz.underlying275
  a228 := Tryz.isAgg275
  z228 := Tryz.sizeOf275
  v228 := Tryz.zeroValue275
  t229 := Tryz.underlying85
  a229 := Tryz.isAgg85
  z229 := Tryz.sizeOf85
  v229 := Tryz.zeroValue85 }
open Go.Sort Go.RowKit in
theorem Tryz.slices_Sort_int (blk off cap : Nat) (zs : List Int) (w : World) (hH : Holds (Value.int .i64) w blk off zs.toArray) (hblk : blk < w.heap.size) (hsz : zs.length < 4611686018427387904) :
    Calls Tryz.prog 84 #[.slice (some ⟨blk, off, none⟩) zs.length cap] w fun e w' =>
      e = .returned (.tuple #[]) ∧ ∃ n os, w' = grow (putRow (Value.int .i64) (Sort.ahead w n) blk off (zs.mergeSort fun x y => decide (x ≤ y)).toArray) os := Any.slices_Sort_int Tryz.lays189 blk off cap zs w hH hblk hsz
def Tryz.laysNm220_ren : Go.Shelf.Ren := ⟨fun | 20 => 85 | n => n, fun | 22 => 45 | 3 => 3 | 4 => 4 | 0 => 0 | n => n, fun | n => n⟩
theorem Tryz.laysNm220 : Go.Proofs.Lays2.n20 Tryz.prog Tryz.laysNm220_ren := {
  mixed := by kernel_rfl
  f20 := Tryz.func85.trans (congrArg some (by kernel_rfl))
  t0 := Tryz.underlying0
  a0 := Tryz.isAgg0
  z0 := Tryz.sizeOf0
  v0 := Tryz.zeroValue0
  t3 := Tryz.underlying3
  a3 := Tryz.isAgg3
  z3 := Tryz.sizeOf3
  v3 := Tryz.zeroValue3
  t4 := Tryz.underlying4
  a4 := Tryz.isAgg4
  z4 := Tryz.sizeOf4
  v4 := Tryz.zeroValue4
  t22 := Tryz.underlying45
  a22 := Tryz.isAgg45
  z22 := Tryz.sizeOf45
  v22 := Tryz.zeroValue45
  i3 := by kernel_rfl }
open Go.RowKit Go.Lib Go.Sort in
theorem Tryz.slices_Compact_int (blk off cap : Nat) (zs : List Int) (w : World) (hH : Holds (Value.int .i64) w blk off zs.toArray) (hsz : zs.length ≤ 9223372036854775807) (hcap : zs.length ≤ cap) :
    Calls Tryz.prog 85 #[.slice (some ⟨blk, off, none⟩) zs.length cap] w fun e w' => e = .returned (.slice (some ⟨blk, off, none⟩) (Lib.compact zs).length cap) ∧ ∃ q, w' = putRow (Value.int .i64) (Sort.ahead w q) blk off (Lib.compact zs ++ List.replicate (zs.length - (Lib.compact zs).length) 0).toArray := Any.slices_Compact_int Tryz.laysNm220 blk off cap zs w hH hsz hcap
open Go.RowKit Go.Lib Go.Sort in
theorem Tryz.slices_Compact_int_empty (a : Option Addr) (cap : Nat) (w : World) :
    Calls Tryz.prog 85 #[.slice a 0 cap] w fun e w' => e = .returned (.slice a 0 cap) ∧ w' = w := Any.slices_Compact_int_empty Tryz.laysNm220 a cap w
open Go.RowKit Go.Sort in
theorem Tryz.slices_Sort_int_none (p : Option Addr) (cap : Nat) (w : World) :
    Calls Tryz.prog 84 #[.slice p 0 cap] w fun e w' => e = .returned (.tuple #[]) ∧ w' = w := Any.slices_Sort_int_none Tryz.lays189 p cap w
end Go.Proofs
namespace Go.Proofs.YtbagppdibncfdaaGreatDoor
open Go Go.RowKit
set_option maxRecDepth 100000 in
set_option maxHeartbeats 800000 in
theorem clone_big (v : Value) (l : List Int) (w : World) (n0 : Nat) (h : IntsR w n0 v l) (hl : l.length ≤ 100000) :
    Calls Tryz.prog 76 #[v] w fun e w' => ∃ v', e = .returned v' ∧ Ext w w' ∧ IRow w.heap.size w' v' l := by
  obtain ⟨a, cap, rfl, h2, h3, h4, h5⟩ := id h
  have hl2 : 0 + l.length ≤ 1000000 := by omega
  cases a with
  | none =>
    have h0 : l.length = 0 := by
      rcases Nat.eq_zero_or_pos l.length with e | e
      · exact e
      · obtain ⟨x, hx⟩ := h4 e; cases hx
    obtain rfl : l = [] := List.eq_nil_of_length_eq_zero h0
    have he := Lib.run_eql_slice_nil (P := Tryz.prog) w 45 3 none 0 cap 0 0 Tryz.underlying45
    clear h h2 h3 h4 h5 h0
    go_enter Tryz.func76, Tryz.ntmps76
    go_wp2
    go_ret
    exact ⟨_, rfl, Ext.refl _, IRow.nil _ _⟩
  | some x =>
    have Hs := hid h.src
    have hnil : IRow w.heap.size (w.alloc (.cells #[] 3)) (.slice (some ⟨w.heap.size, 0, none⟩) 0 0) [] := World.ownsRow_made w #[] 0 (Nat.le_refl _) (by unfold maxLen; omega) rfl
    have Hnil := hid hnil
    have hb : w.heap.size ≤ (w.alloc (.cells #[] 3)).heap.size := by simp
    have hx1 : Hid (Ext w (w.alloc (.cells #[] 3))) := hid ((Ext.refl _).alloc _)
    have hs1 : Hid (Src (w.alloc (.cells #[] 3)) (some x) l.length 1 (icells l)) := hid (h.old ((hx1.out).old n0)).src
    have he := Lib.run_eql_slice_nil (P := Tryz.prog) w 45 3 (some x) l.length cap 0 0 Tryz.underlying45
    clear h h2 h3 h4 h5 hnil
    go_enter Tryz.func76, Tryz.ntmps76
    go_wp2_with (at_builtin; refine wpList_append_src w.heap.size hb 45 3 (.int .i64 0) 1 8 Tryz.underlying45 ints_info rfl (by omega) (by omega) rfl _ _ rfl (.slice (some ⟨w.heap.size, 0, none⟩) 0 0) 0 [] rfl Hnil.out (some x) l.length cap (icells l) rfl hs1.out hl2 ?_; intro v' w' h1 h2 h4; have h3 := Keep.new hx1.out h2 (fun k hk => by simp [Value.ownBlock] at hk; omega))
    go_ret
    exact ⟨_, rfl, h3, by unfold IRow; simpa using h1⟩
theorem sort_row (v : Value) (l : List Int) (w : World) (base : Nat) (h : IRow base w v l) (hl : l.length ≤ 100000) :
    Calls Tryz.prog 84 #[v] w fun e w' => e = .returned (.tuple #[]) ∧ IRow base w' v (l.mergeSort fun x y => decide (x ≤ y)) ∧ Keep (fun b => v.ownBlock = some b) w w' := by
  rcases h.case with ⟨rfl, rfl⟩ | ⟨g, cap, rfl⟩
  · refine (Tryz.slices_Sort_int_none none 0 w).mono ?_
    rintro e w' ⟨rfl, rfl⟩
    exact ⟨rfl, by simpa using h, Keep.refl _ _⟩
  · obtain ⟨_, _, _, _, cur, hb, _, _⟩ := h.cur
    refine (Tryz.slices_Sort_int g 0 cap l w h.holds hb.lt (by omega)).mono ?_
    rintro e w' ⟨rfl, q, os, rfl⟩
    obtain ⟨p1, p2⟩ := h.put (q := q) (os := os) (ys := l.mergeSort fun x y => decide (x ≤ y)) (by simp) l.length (by simp)
    refine ⟨rfl, ?_, p2.mono fun b _ e => by simp [Value.ownBlock, e]⟩
    rwa [List.take_of_length_le (by simp)] at p1
theorem compact_row (v : Value) (l : List Int) (w : World) (base : Nat) (h : IRow base w v l) (hl : l.length ≤ 100000) :
    Calls Tryz.prog 85 #[v] w fun e w' => ∃ v', e = .returned v' ∧ IRow base w' v' (Lib.compact l) ∧ Keep (fun b => v.ownBlock = some b) w w' := by
  rcases h.case with ⟨rfl, rfl⟩ | ⟨g, cap, rfl⟩
  · refine (Tryz.slices_Compact_int_empty none 0 w).mono ?_
    rintro e w' ⟨rfl, rfl⟩
    exact ⟨_, rfl, h, Keep.refl _ _⟩
  · obtain ⟨_, _, h2, h3, cur, hb, _, _⟩ := h.cur
    have hcl := Lib.compact_length_le l
    refine (Tryz.slices_Compact_int g 0 cap l w h.holds (by omega) h2).mono ?_
    rintro e w' ⟨rfl, q, rfl⟩
    obtain ⟨p1, p2⟩ := h.put (q := q) (os := #[]) (ys := Lib.compact l ++ List.replicate (l.length - (Lib.compact l).length) 0) (by simp; omega) (Lib.compact l).length (by simp)
    rw [Sort.grow_empty] at p1 p2
    refine ⟨_, rfl, ?_, p2.mono fun b _ e => by simp [Value.ownBlock, e]⟩
    rwa [List.take_left] at p1
theorem Keep.fresh {w w1 w2 : World} {base : Nat} {v : Value} {l : List Int} (hx : Ext w w1) (h : IRow base w1 v l) (hb : w.heap.size ≤ base) (k : Keep (fun b => v.ownBlock = some b) w1 w2) : Ext w w2 :=
  Keep.new hx k fun b hb' => Nat.le_trans hb (h.lt hb').1
def OfR (ad : Nat → Addr) (l : List Int) (n0 : Nat) (w : World) (t : Value) : Prop :=
  (InR l ∧ ∃ v, t = .tuple #[v, .nilIface] ∧ IRow n0 w v (sset l)) ∨ (¬ InR l ∧ t = .tuple #[.slice none 0 0, evOf ad 2])
theorem ofBad {l : List Int} {x : Int} (hx : x ∈ l) (h : x < 0 ∨ 1000 ≤ x) : ¬ InR l := fun g => by
  have := g x hx
  omega
set_option maxRecDepth 100000 in
set_option maxHeartbeats 1600000 in
theorem setof_any (v : Value) (l : List Int) (w : World) (n0 : Nat) (ad : Nat → Addr) (hE : ErrS w ad) (h : IntsR w n0 v l) (hl : l.length ≤ 100000) :
    Calls Tryz.prog 34 #[v] w fun e w' => ∃ t, e = .returned t ∧ OfR ad l w.heap.size w' t ∧ Ext w w' := by
  have HC := fun w1 (x : Ext w w1) => hid (clone_big v l w1 n0 (h.old (x.old n0)) hl)
  obtain ⟨a, cap, rfl, h2, h3, h4, h5⟩ := id h
  have HE := hid hE
  have H4 := hid h4
  have H5 := hid h5
  have g2 := hE.at2
  unfold evOf at g2
  have hml : (l.length : Int) ≤ 9223372036854775807 := by omega
  clear h h2 h3 h4 h5 hE
  go_enter Tryz.func34, Tryz.ntmps34
  go_wp2
  go_loopw [9] (fun t9 wr => ∃ k : Nat, t9 = .int .i64 (k : Int) ∧ k ≤ l.length ∧ (∀ j t, j < k → l[j]? = some t → 0 ≤ t ∧ t < 1000) ∧ Ext w wr) (fun t9 _ => l.length - (intOf t9).toNat)
  case atStart => exact ⟨0, rfl, Nat.zero_le _, fun j t h => by omega, Ext.refl _⟩
  case round =>
    obtain ⟨k, rfl, hk, hp, hx⟩ := hrel
    have Hp := hid hp
    have Hx := hid hx
    have gx2 : ∀ w1, Keep (fun _ => False) wr w1 → w1.cell? ⟨3, 0, none⟩ = some (.iface 282 (.pointer (some (ad 2)))) := fun w1 kk => (hx.trans kk.ext).cellx g2
    clear hp
    by_cases hlt : k < l.length
    · obtain ⟨y, rfl⟩ := H4.out (by omega)
      obtain ⟨q, hq⟩ : ∃ q, l[k]? = some q := ⟨_, List.getElem?_eq_getElem hlt⟩
      have hc := hx.cellx ((H5.out y rfl (by omega)).2 k hlt q hq)
      have Hq := hid hq
      clear hq hx
      by_cases hq0 : q < 0
      · have Hr := hid (ofBad (List.mem_of_getElem? Hq.out) (by omega))
        go_wp2
        refine wp_flowT (fun _ => False) (by kernel_rfl) (by kernel_rfl) ?_
        repeat (apply FlowT.d; (intro w1 hk; unfold does; go_simp; (try go_ints); (first | exact DetR.mk | (simp only [↓IntWalk.iteOmega, Oper.doesUpon_value]; exact DetR.mk) | (simp only [↓IntWalk.iteOmega]; go_simp; (try go_ints); exact DetR.mk))); simp only [Act.put, qS0, qS1, qS2])
        refine FlowT.fin fun w1 hx1 hk1 => ?_
        have Hx1 := hid (Hx.out.trans hx1)
        clear hx1 hk1
        go_wp2
        go_ret2
        exact ⟨_, rfl, .inr ⟨Hr.out, rfl⟩, Hx1.out⟩
      · by_cases hq1 : 1000 ≤ q
        · have Hr := hid (ofBad (List.mem_of_getElem? Hq.out) (by omega))
          go_wp2
          refine wp_flowT (fun _ => False) (by kernel_rfl) (by kernel_rfl) ?_
          repeat (apply FlowT.d; (intro w1 hk; unfold does; go_simp; (try go_ints); (first | exact DetR.mk | (simp only [↓IntWalk.iteOmega, Oper.doesUpon_value]; exact DetR.mk) | (simp only [↓IntWalk.iteOmega]; go_simp; (try go_ints); exact DetR.mk))); simp only [Act.put, qS0, qS1, qS2])
          refine FlowT.fin fun w1 hx1 hk1 => ?_
          have Hx1 := hid (Hx.out.trans hx1)
          clear hx1 hk1
          go_wp2
          go_ret2
          exact ⟨_, rfl, .inr ⟨Hr.out, rfl⟩, Hx1.out⟩
        · have Hb : Hid (0 ≤ q ∧ q < 1000) := hid (by omega)
          clear gx2
          go_wp2
          go_roundw
          case rel =>
            refine ⟨k + 1, by go_num, by omega, fun j t hj ht => ?_, Hx.out⟩
            by_cases hjk : j = k
            · subst hjk
              obtain rfl := Option.some.inj (Hq.out.symm.trans ht)
              exact Hb.out
            · exact Hp.out j t (by omega) ht
          case measure => simp [intOf]; omega
    · obtain rfl : k = l.length := by omega
      have Hin : Hid (InR l) := hid fun t ht => by
        obtain ⟨j, hj, e⟩ := List.mem_iff_getElem.1 ht
        exact Hp.out j t hj (by rw [List.getElem?_eq_getElem hj, e])
      have HC1 := HC wr hx
      clear HC hx gx2
      go_wp2_with fail
      refine HC1.out.mono ?_
      intro e w1 hx
      obtain ⟨v1, rfl, hx1, hr1⟩ := hx
      obtain ⟨a1, p1, rfl⟩ := hr1.form
      have HS := hid (sort_row _ l w1 wr.heap.size hr1 hl)
      have Hr1 := hid hr1
      have Hx1 := hid hx1
      clear HC1 hr1 hx1
      go_wp2_with fail
      refine HS.out.mono ?_
      intro e w2 hx
      obtain ⟨rfl, hr2, hk2⟩ := hx
      have HK := hid (compact_row _ _ w2 wr.heap.size hr2 (by simpa using hl))
      have Hr2 := hid hr2
      have Hk2 := hid (Keep.fresh Hx1.out Hr1.out (Nat.le_refl _) hk2)
      clear HS hr2 hk2
      go_wp2_with fail
      refine HK.out.mono ?_
      intro e w3 hx
      obtain ⟨v3, rfl, hr3, hk3⟩ := hx
      have Hr3 : Hid (IRow w.heap.size w3 v3 (sset l)) := hid (by rw [compact_sort Hin.out] at hr3; exact hr3.base Hx.out.size)
      have Hk3 := hid (Keep.fresh Hk2.out Hr2.out (Nat.le_refl _) hk3)
      obtain ⟨a3, p3, rfl⟩ := Hr3.out.form
      clear HK hr3 hk3
      go_wp2
      go_ret2
      exact ⟨_, rfl, .inl ⟨Hin.out, _, rfl, Hr3.out⟩, Hx.out.trans Hk3.out⟩
set_option maxRecDepth 100000 in
set_option maxHeartbeats 800000 in
theorem igrow_any (n : Nat) (w : World) (hn : n ≤ 100000) :
    Calls Tryz.prog 130 #[.slice none 0 0, .int .i64 (n : Int)] w fun e w' => ∃ v, e = .returned v ∧ Ext w w' ∧ IRow w.heap.size w' v [] := by
  rcases Nat.eq_zero_or_pos n with rfl | h0
  · go_enter Tryz.func130, Tryz.ntmps130
    go_wp2
    go_ret
    exact ⟨_, rfl, Ext.refl _, IRow.nil _ _⟩
  · obtain ⟨i, hi, hz0, hz, hz2⟩ : ∃ i, Tryz.prog.info? 3 = some i ∧ i.zero = some (.int .i64 0) ∧ i.size = 1 ∧ i.bytes = 8 := by
      have h := ints_info
      cases hi : Tryz.prog.info? 3 with
      | none => rw [hi] at h; cases h
      | some i =>
        rw [hi] at h
        simp only [Option.map_some, Option.some.injEq, Prod.mk.injEq] at h
        exact ⟨i, rfl, h.1, h.2.1, h.2.2⟩
    have hr := fun ty => Lib.run_append_nil_zeros (P := Tryz.prog) w 45 3 ty 3 i (.int .i64 0) .i64 .i64 Tryz.underlying45 Tryz.underlying3 hi hz0 n h0 (by omega) (by omega) (by rw [hz2]; omega)
    have hG := grownCap_ge w n 0 3
    have hG2 := grownCap_le_maxLen w n 0 3 (by unfold maxLen; omega)
    generalize grownCap w n 0 3 = G at *
    have hG3 : G ≤ 9223372036854775807 := by unfold maxLen at hG2; omega
    obtain ⟨W, hW⟩ : ∃ W, W = w.drew.alloc (.cells (Builtin.zeroCells (Value.int .i64 0).cells n ++ Builtin.zeroCells (Value.int .i64 0).cells (G - n)) 3) := ⟨_, rfl⟩
    have hx : Hid (Ext w W) := hid (by rw [hW]; exact ((Ext.refl w).drew).alloc _)
    have hrow : Hid (IRow w.heap.size W (.slice (some ⟨w.heap.size, 0, none⟩) 0 G) []) := hid ⟨rfl, .inr ⟨w.heap.size, G, _, rfl, Nat.le_refl _, by rw [hW]; exact Blk.new w.drew _ _, Nat.zero_le _, hG2, by simp [Builtin.zeroCells, Value.cells]; omega, rfl⟩⟩
    rw [← hW] at hr
    have Hr := hid hr
    clear hr hW hi hz0 hz hz2 hG2
    have hn' : (0 : Int) < (n : Int) := by omega
    go_enter Tryz.func130, Tryz.ntmps130
    go_wp2_with (at_builtin; refine Lib.wpList_append_run _ rfl _ _ _ _ rfl _ _ rfl rfl _ _ (Hr.out _) ?_)
    go_ret
    exact ⟨_, rfl, hx.out, hrow.out⟩
set_option maxRecDepth 100000 in
set_option maxHeartbeats 1600000 in
theorem iconcat_any (g : Nat) (va vb : Value) (a b : List Int) (w : World) (n0 : Nat) (hB : Blk w g #[va, vb] 45) (ha : IntsR w n0 va a) (hb : IntsR w n0 vb b) (hla : a.length ≤ 10000) (hlb : b.length ≤ 10000) :
    Calls Tryz.prog 87 #[.slice (some ⟨g, 0, none⟩) 2 2] w fun e w' => ∃ v, e = .returned v ∧ Ext w w' ∧ IRow w.heap.size w' v (a ++ b) := by
  have HA := hid ha
  have HB := hid hb
  obtain ⟨aa, ca, rfl, _⟩ := ha
  obtain ⟨ab, cb, rfl, _⟩ := hb
  have HBl := hid hB
  have HG := fun w1 => hid (igrow_any (a.length + b.length) w1 (by omega))
  have c0 := hB.av 0 rfl
  have c1 := hB.av 1 rfl
  simp only [qA0, qA1, qA2] at c0 c1
  clear hB
  go_enter Tryz.func87, Tryz.ntmps87
  go_wp2
  go_loop [3, 11] (fun t3 t11 => ∃ k m : Nat, t11 = .int .i64 (k : Int) ∧ t3 = .int .i64 (m : Int) ∧ ((k = 0 ∧ m = 0) ∨ (k = 1 ∧ m = a.length) ∨ (k = 2 ∧ m = a.length + b.length))) (fun _ t11 => 2 - (intOf t11).toNat)
  case atStart => exact ⟨0, 0, rfl, rfl, .inl ⟨rfl, rfl⟩⟩
  case round =>
    obtain ⟨k, m, rfl, rfl, ⟨rfl, rfl⟩ | ⟨rfl, rfl⟩ | ⟨rfl, rfl⟩⟩ := hrel
    · go_wp2
      refine ⟨⟨1, a.length, by go_num, by go_num, .inr (.inl ⟨rfl, rfl⟩)⟩, by simp [intOf]⟩
    · go_wp2
      refine ⟨⟨2, a.length + b.length, by go_num, by go_num, .inr (.inr ⟨rfl, rfl⟩)⟩, by simp [intOf]⟩
    · have HG1 := HG w
      clear HG
      go_wp2_with fail
      refine HG1.out.mono ?_
      intro e w1 hx
      obtain ⟨v1, rfl, hx1, hr1⟩ := hx
      obtain ⟨a1, p1, rfl⟩ := hr1.form
      have Hr1 := hid hr1
      have Hx1 := hid hx1
      clear HG1 hr1 hx1 c0 c1
      go_wp2
      go_loopw [6, 27] (fun t6 t27 wr => ∃ (k : Nat) (x : List Int), t27 = .int .i64 (k : Int) ∧ IRow w.heap.size wr t6 x ∧ Ext w wr ∧ ((k = 0 ∧ x = []) ∨ (k = 1 ∧ x = a) ∨ (k = 2 ∧ x = a ++ b))) (fun _ t27 _ => 2 - (intOf t27).toNat)
      case atStart => exact ⟨0, [], rfl, Hr1.out, Hx1.out, .inl ⟨rfl, rfl⟩⟩
      case round =>
        obtain ⟨k, x, rfl, hr, hx, hcase⟩ := hrel
        obtain ⟨at6, ct6, rfl⟩ := hr.form
        have Hr := hid hr
        have Hx := hid hx
        have c0 := (HBl.out.ext hx).av 0 rfl
        have c1 := (HBl.out.ext hx).av 1 rfl
        simp only [qA0, qA1, qA2] at c0 c1
        clear hr hx
        rcases hcase with ⟨rfl, rfl⟩ | ⟨rfl, rfl⟩ | ⟨rfl, rfl⟩
        · have HSrc := hid (HA.out.old (Hx.out.old n0)).src
          go_wp2_with (at_builtin; refine wpList_append_src w.heap.size Hx.out.size 45 3 (.int .i64 0) 1 8 Tryz.underlying45 ints_info rfl (by omega) (by omega) rfl _ _ rfl (.slice at6 0 ct6) 0 (icells []) rfl Hr.out _ _ _ _ rfl HSrc.out (by omega) ?_; intro v' w' h1 h2 h4; obtain ⟨a', c', rfl⟩ := row_form h1; have h3 := hid (Keep.new Hx.out h2 (fun k hk => (Hr.out.lt hk).1)); have h1 := hid h1; clear h2 h4)
          go_roundw
          case rel => exact ⟨1, a, by go_num, by have := h1.out; unfold IRow; simpa [icells] using this, h3.out, .inr (.inl ⟨rfl, rfl⟩)⟩
          case measure => simp [intOf]
        · have HSrc := hid (HB.out.old (Hx.out.old n0)).src
          go_wp2_with (at_builtin; refine wpList_append_src w.heap.size Hx.out.size 45 3 (.int .i64 0) 1 8 Tryz.underlying45 ints_info rfl (by omega) (by omega) rfl _ _ rfl (.slice at6 x.length ct6) x.length (icells x) rfl Hr.out _ _ _ _ rfl HSrc.out (by omega) ?_; intro v' w' h1 h2 h4; obtain ⟨a', c', rfl⟩ := row_form h1; have h3 := hid (Keep.new Hx.out h2 (fun k hk => (Hr.out.lt hk).1)); have h1 := hid h1; clear h2 h4)
          go_roundw
          case rel => exact ⟨2, x ++ b, by go_num, by have := h1.out; unfold IRow; rw [icells_append, List.length_append]; exact this, h3.out, .inr (.inr ⟨rfl, rfl⟩)⟩
          case measure => simp [intOf]
        · go_wp2
          go_ret
          exact ⟨_, rfl, Hx.out, Hr.out⟩
theorem bothE_zero {a b : List Int} : bothE a b = 0 ↔ chkE a = 0 ∧ chkE b = 0 := by
  unfold bothE
  by_cases h : chkE a = 0
  · rw [if_pos h]; exact ⟨fun g => ⟨h, g⟩, fun g => g.2⟩
  · rw [if_neg h]; exact ⟨fun g => absurd g h, fun g => absurd g.1 h⟩
def TwoR (ad : Nat → Addr) (a b c : List Int) (n0 : Nat) (w : World) (t : Value) : Prop :=
  (bothE a b = 0 ∧ ∃ v, t = .tuple #[v, .nilIface] ∧ IRow n0 w v c) ∨ (bothE a b ≠ 0 ∧ t = .tuple #[.slice none 0 0, evOf ad (bothE a b)])
theorem errv_no {ad : Nat → Addr} {c : Nat} (h : c = 0) : errv (evOf ad) c = .nilIface := by unfold errv; rw [if_pos h]
theorem errv_yes {ad : Nat → Addr} {c : Nat} (h : c ≠ 0) : errv (evOf ad) c = .iface 282 (.pointer (some (ad c))) := by unfold errv evOf; rw [if_neg h]
set_option maxRecDepth 100000 in
set_option maxHeartbeats 1600000 in
theorem setunion_any (va vb : Value) (a b : List Int) (w : World) (n0 : Nat) (ad : Nat → Addr) (hE : ErrS w ad) (ha : IntsR w n0 va a) (hb : IntsR w n0 vb b) (hla : a.length ≤ 10000) (hlb : b.length ≤ 10000) :
    Calls Tryz.prog 36 #[va, vb] w fun e w' => ∃ t, e = .returned t ∧ TwoR ad a b (sset (a ++ b)) w.heap.size w' t ∧ Ext w w' := by
  have HK := hid (setboth_any va vb a b w n0 ad hE ha hb)
  have HA := hid ha
  have HB := hid hb
  have HE := hid hE
  obtain ⟨aa, ca, rfl, _⟩ := ha
  obtain ⟨ab, cb, rfl, _⟩ := hb
  clear hE
  by_cases h0 : bothE a b = 0
  · rw [errv_no h0] at HK
    have H0 := hid h0
    obtain ⟨ha0, hb0⟩ := bothE_zero.1 h0
    have Hin : Hid (InR (a ++ b)) := hid ((chkE_zero.1 ha0).1.app (chkE_zero.1 hb0).1)
    clear h0 ha0 hb0
    go_enter Tryz.func36, Tryz.ntmps36
    go_wp2_with fail
    refine HK.out.mono ?_
    intro e w1 hx
    obtain ⟨rfl, hx1⟩ := hx
    obtain ⟨W, hW⟩ : ∃ W, W = w1.alloc (.cells #[.slice aa a.length ca, .slice ab b.length cb] 45) := ⟨_, rfl⟩
    have hxW : Ext w W := by rw [hW]; exact hx1.alloc _
    have HxW := hid hxW
    obtain ⟨l, hl⟩ : ∃ l, l = a ++ b := ⟨_, rfl⟩
    have hll : l.length ≤ 20000 := by rw [hl, List.length_append]; omega
    have Hl := hid hl
    have HC := hid (iconcat_any w1.heap.size _ _ a b W n0 (by rw [hW]; exact Blk.new _ _ _) (HA.out.old (hxW.old n0)) (HB.out.old (hxW.old n0)) hla hlb)
    have HW := hid hW
    rw [← hl] at HC Hin
    clear HK hx1 hxW hW hl
    go_wp2_with fail
    rw [← HW.out]
    refine HC.out.mono ?_
    intro e w2 hx
    obtain ⟨v2, rfl, hx2, hr2⟩ := hx
    obtain ⟨a2, p2, rfl⟩ := hr2.form
    have HO := hid (setof_any _ l w2 w2.heap.size ad (HE.out.ext (HxW.out.trans hx2)) (IntsR.own hr2 (Nat.le_refl _)) (by omega))
    have Hx2 := hid (HxW.out.trans hx2)
    clear HC hx2 hr2
    go_wp2_with fail
    refine HO.out.mono ?_
    intro e w3 hx
    obtain ⟨t3, rfl, ho, hx3⟩ := hx
    obtain ⟨v3, rfl, hr3⟩ : ∃ v, t3 = .tuple #[v, .nilIface] ∧ IRow w2.heap.size w3 v (sset l) := by
      rcases ho with ⟨_, h⟩ | ⟨h, _⟩
      · exact h
      · exact absurd Hin.out h
    obtain ⟨a3, p3, rfl⟩ := hr3.form
    have Hr3 := hid (hr3.base Hx2.out.size)
    have Hx3 := hid (Hx2.out.trans hx3)
    clear HO ho hr3 hx3
    go_wp2
    go_ret2
    exact ⟨_, rfl, .inl ⟨H0.out, _, rfl, by rw [← Hl.out]; exact Hr3.out⟩, Hx3.out⟩
  · rw [errv_yes h0] at HK
    have H0 := hid h0
    clear h0
    go_enter Tryz.func36, Tryz.ntmps36
    go_wp2_with fail
    refine HK.out.mono ?_
    intro e w1 hx
    obtain ⟨rfl, hx1⟩ := hx
    have Hx1 := hid hx1
    clear HK hx1
    go_wp2
    go_ret2
    exact ⟨_, rfl, .inr ⟨H0.out, rfl⟩, Hx1.out⟩
end Go.Proofs.YtbagppdibncfdaaGreatDoor
