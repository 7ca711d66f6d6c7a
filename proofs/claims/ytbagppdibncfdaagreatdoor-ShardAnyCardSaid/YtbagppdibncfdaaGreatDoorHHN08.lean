/- Texts of one proof, put together: V3 L4 L8 L9 LA LB LC LD LE LO LP V4 V5 V6 WA WB WC WD V7 V8. -/
import Derived.Test.YtbagppdibncfdaaGreatDoorHHN04
import Derived.Test.YtbagppdibncfdaaGreatDoorHHN05
import Derived.Test.YtbagppdibncfdaaGreatDoorHHN07
import Derived.Test.YtbagppdibncfdaaGreatDoorHHN01
set_option linter.unusedSimpArgs false
set_option linter.unusedVariables false
namespace Go.Proofs.YtbagppdibncfdaaGreatDoor
open Go Go.RowKit
structure PP.Small (P : PP) : Prop where
  vl : P.vars.length ≤ 41
  fl : P.funs.length ≤ 8
  sl : P.stmts.length ≤ 81
  vs : ∀ s ∈ P.vars, s.size ≤ 20
  fs : ∀ f ∈ P.funs, f.name.size ≤ 20 ∧ f.params.length ≤ 8
  ss : ∀ s ∈ P.stmts, s.kind.size ≤ 20 ∧ s.args.length ≤ 8
theorem StrsR.at {w : World} {n0 : Nat} {a : Option Addr} {n cap : Nat} {l : List ByteArray} (h : StrsR w n0 (.slice a n cap) l) {k : Nat} (hk : k < l.length) : ∃ y q, a = some y ∧ l[k]? = some q ∧ w.cell? (y.add k) = some (.string q) := by
  obtain ⟨a', cap', h1, h2, h3, h4, h5⟩ := h
  obtain ⟨rfl, rfl, rfl⟩ : a = a' ∧ n = l.length ∧ cap = cap' := by simpa using h1
  obtain ⟨y, rfl⟩ := h4 (by omega)
  have hx : l[k]? = some (l[k]'hk) := List.getElem?_eq_getElem hk
  exact ⟨y, _, rfl, hx, (h5 y rfl (by omega)).2 k hk _ hx⟩
theorem StrsR.len {w : World} {n0 : Nat} {a : Option Addr} {n cap : Nat} {l : List ByteArray} (h : StrsR w n0 (.slice a n cap) l) : (l.length : Int) ≤ 9223372036854775807 := by
  obtain ⟨_, _, _, h2, h3, _⟩ := h
  omega
theorem FV.At.ints {w : World} {n0 : Nat} {t : Option Nat} {x : FV} {a : Option Addr} {cap : Nat} (h : x.At w n0 t) (hv : x.v = .slice a x.f.nums.length cap) : Ints w a x.f.nums.length x.f.nums := by
  obtain ⟨a', c', e, hi, _⟩ := NumsAt.form h
  rw [hv] at e
  simp only [Value.slice.injEq, true_and] at e
  rw [e.1]
  exact hi
def stampK (s : Snd) (x : FV × Int) : FV × Int := if s.late (x.1.f, x.2) then (x.1, s.now + 1) else x
def lateK (s : Snd) (x : FV × Int) : Bool := s.late (x.1.f, x.2)
def midK (s : Snd) (ks : List (FV × Int)) (i : Nat) : List (FV × Int) := (ks.take i).map (stampK s) ++ ks.drop i
section
variable {P : Program} {ops : Array Oper} {w : World} {o : Oper} {a : Act} {R : Value → World → Prop}
end
theorem Wr.map {w : World} {n0 : Nat} {t : Option Nat} {b : Nat} {m : List (Int × Value)} (h : MapAt w b m) (hl : n0 ≤ b) : Wr w n0 t fun g => g = b := fun g hg _ => ⟨by omega, fun hi => by
  subst hg
  obtain ⟨es, c, hb, _⟩ := h
  obtain ⟨c', z, hi⟩ := hi
  rw [hb] at hi
  cases hi⟩
def mapSize (w : World) (b : Nat) : Nat := match w.heap[b]? with
  | some (.map es _) => es.size
  | _ => 0
theorem MapAt.size {w : World} {b : Nat} {m : List (Int × Value)} (h : MapAt w b m) : mapSize w b = m.length := by
  obtain ⟨es, c, hb, he⟩ := h
  unfold mapSize
  rw [hb]
  have := congrArg List.length he
  simpa using this
end Go.Proofs.YtbagppdibncfdaaGreatDoor
namespace Go.Proofs.YtbagppdibncfdaaGreatDoor
def ofr (N : List Int) (k : Nat) : Fr := ⟨100, 2, 4, (k : Int), [N.getD k 0]⟩
def oks (N : List Int) : Nat → Snd
  | 0 => Snd.new 2 4
  | i + 1 => (oks N i).sent 100 [N.getD i 0]
def osn (N : List Int) (n a : Nat) (now c : Int) : Snd := ⟨2, 4, (n : Int), now, (List.range' a (n - a)).map fun j => (ofr N j, c)⟩
def AllOf (N : List Int) (n : Nat) (l : List Fr) : Prop := ∀ f ∈ l, ∃ j, j < n ∧ f = ofr N j
structure ORcv (N : List Int) (n d : Nat) (r : Rcv) : Prop where
  fr : r.fr = 2
  to : r.to = 4
  due : r.due = (d : Int)
  le : d ≤ n
  wait : AllOf N n r.wait
  len : r.wait.length ≤ 8
end Go.Proofs.YtbagppdibncfdaaGreatDoor
namespace Go.Proofs.YtbagppdibncfdaaGreatDoor
open Go Go.RowKit
theorem own_nilSrc {w : World} {base : Nat} {t e : TypeId} {i : TypeInfo} {size n : Nat} {v : Value} {xs : List Value} (ht : Tryz.prog.underlying t = some (.slice e)) (hi : Tryz.prog.info? e = some i) (h : w.ownsRow base e size v n xs) (ty : TypeId) (c : Nat) : (Builtin.append_ #[t, t] ty #[v, .slice none 0 c]).run Tryz.prog w = .ok v w := by
  rcases h.2 with ⟨h2, h3⟩ | ⟨g, cap, cur, h2, _, _, hnc, _⟩
  · subst h2
    simp [Builtin.append_, run_underlying ht, sizeOf, typeInfo, hi, Builtin.lenOf, Builtin.firstCells]
  · subst h2
    simp [Builtin.append_, run_underlying ht, sizeOf, typeInfo, hi, Builtin.lenOf, Builtin.firstCells, hnc, storeCells]
structure Src (w : World) (a : Option Addr) (m : Nat) (size : Nat) (us : List Value) : Prop where
  len : us.length = m * size
  sm : 0 < m → ∃ x, a = some x
  cl : ∀ x, a = some x → ∀ j u, us[j]? = some u → w.cell? (x.add j) = some u
  one : ∀ u ∈ us, u.oneCell' = true
theorem run_append_src (w : World) (base : Nat) (hbase : base ≤ w.heap.size) (t e : TypeId) (z : Value) (size bytes : Nat) (ht : Tryz.prog.underlying t = some (.slice e)) (hinf : (Tryz.prog.info? e).map (fun i => (i.zero, i.size, i.bytes)) = some (some z, size, bytes)) (hz1 : z.cells.size = size) (hsz : 0 < size) (hb8 : bytes ≤ 64) (ty : TypeId)
    (v : Value) (n : Nat) (xs : List Value) (hown : w.ownsRow base e size v n xs) (a : Option Addr) (m c : Nat) (us : List Value) (hs : Src w a m size us) (hl : n + m ≤ 1000000) :
    ∃ v' w', (Builtin.append_ #[t, t] ty #[v, .slice a m c]).run Tryz.prog w = .ok v' w' ∧ w'.ownsRow base e size v' (n + m) (xs ++ us) ∧ Keep (fun k => v.ownBlock = some k) w w' ∧ ∀ k, v'.ownBlock = some k → v.ownBlock = some k ∨ w.heap.size ≤ k := by
  obtain ⟨ti, hi, hz0, hz, hz2⟩ := info_parts hinf
  rcases a with _ | ad
  · have hm : m = 0 := by
      rcases Nat.eq_zero_or_pos m with h0 | h0
      · exact h0
      · obtain ⟨x, hx⟩ := hs.sm h0; cases hx
    subst hm
    obtain rfl : us = [] := List.eq_nil_of_length_eq_zero (by have := hs.len; omega)
    exact ⟨v, w, own_nilSrc ht hi hown ty c, by simpa using hown, Keep.refl _ _, fun k hk => .inl hk⟩
  · obtain ⟨v', w', hr, h2, h3, _, h4⟩ := run_append_own_at (P := Tryz.prog) w base t ty e ti z size bytes ht hi hz0 hz hz2 hz1 hsz v n xs hown ad m c us hs.len (hs.cl ad rfl) hs.one (by simp only [maxLen]; omega) (by
      have : (n + m) * bytes ≤ (n + m) * 64 := Nat.mul_le_mul_left _ hb8
      omega) hbase
    refine ⟨v', w', hr, h2, grown_keep h3, fun k hk => ?_⟩
    rcases h4 with h4 | h4
    · exact .inl (h4 ▸ hk)
    · rw [h4] at hk
      have := Option.some.inj hk
      exact .inr (by omega)
theorem wpList_append_src {ops : Array Oper} {Q : Exit → Act → World → Prop} {rest : List Oper} {o : Oper} {a : Act} {w : World} (base : Nat) (hbase : base ≤ w.heap.size) (t e : TypeId) (z : Value) (size bytes : Nat) (ht : Tryz.prog.underlying t = some (.slice e)) (hinf : (Tryz.prog.info? e).map (fun i => (i.zero, i.size, i.bytes)) = some (some z, size, bytes)) (hz1 : z.cells.size = size) (hsz : 0 < size)
    (hb8 : bytes ≤ 64) (hg : o.guard = none) (s x : Operand) (ho : o.op = .call { callee := .builtin .append, args := #[s, x], argTypes := #[t, t] })
    (v : Value) (n : Nat) (xs : List Value) (hs : a.eval s = v) (hown : w.ownsRow base e size v n xs) (ad : Option Addr) (m c : Nat) (us : List Value) (hx : a.eval x = .slice ad m c) (hsrc : Src w ad m size us) (hl : n + m ≤ 1000000)
    (h : ∀ v' w', w'.ownsRow base e size v' (n + m) (xs ++ us) → Keep (fun k => v.ownBlock = some k) w w' → (∀ k, v'.ownBlock = some k → v.ownBlock = some k ∨ w.heap.size ≤ k) → wpList Tryz.prog ops Q rest (a.put o.dst v') w') : wpList Tryz.prog ops Q (o :: rest) a w := by
  obtain ⟨v', w', hr, h2, h3, h4⟩ := run_append_src w base hbase t e z size bytes ht hinf hz1 hsz hb8 o.type v n xs hown ad m c us hsrc hl
  refine wpList_plain hg fun K hK => ?_
  unfold Oper.wp
  rw [run_exec_append s x t ho hs hx hr]
  exact hK _ _ (h v' w' h2 h3 h4)
theorem Src.ints {w : World} {a : Option Addr} {m : Nat} {vs : List Int} (h : Ints w a m vs) : Src w a m 1 (icells vs) := by
  refine ⟨by simp [icells, h.ln], h.sm, fun x hx j u hu => ?_, icells_one⟩
  simp only [icells, List.getElem?_map] at hu
  have hj : j < vs.length := by
    rcases Nat.lt_or_ge j vs.length with h1 | h1
    · exact h1
    · rw [List.getElem?_eq_none h1] at hu; cases hu
  rw [h.cl x hx j (by have := h.ln; omega), List.getD_eq_getElem?_getD, List.getElem?_eq_getElem hj]
  rw [List.getElem?_eq_getElem hj] at hu
  exact hu
theorem FV.one {w : World} {n0 : Nat} {t : Option Nat} {fs : List FV} (h : ∀ x ∈ fs, x.At w n0 t) : ∀ u ∈ fs.flatMap FV.cells, u.oneCell' = true := by
  intro u hu
  obtain ⟨x, hx, hu⟩ := List.mem_flatMap.1 hu
  obtain ⟨a, c, _, hv, _⟩ := (h x hx).form
  simp only [FV.cells, hv, List.mem_cons, List.not_mem_nil, or_false] at hu
  rcases hu with rfl | rfl | rfl | rfl | rfl <;> rfl
theorem Src.part {w : World} {n0 : Nat} {t : Option Nat} {base g n cap : Nat} {e : TypeId} {fs : List FV} (h : FRow w n0 t base e (.slice (some ⟨g, 0, none⟩) n cap) fs) (hn : fs.length = n) (i m : Nat) (him : i + m ≤ n) : Src w (some ⟨g, i * 5, none⟩) m 5 (((fs.drop i).take m).flatMap FV.cells) := by
  have hr := h.row
  rw [hn] at hr
  refine ⟨?_, fun _ => ⟨_, rfl⟩, fun x hx j u hu => ?_, FV.one (w := w) (n0 := n0) (t := t) fun x hx => h.nums x (List.mem_of_mem_drop (List.mem_of_mem_take hx))⟩
  · rw [fm_len FV.cells 5 FV.cells_len]
    simp
    omega
  · obtain rfl := Option.some.inj hx
    rw [show (⟨g, i * 5, none⟩ : Addr).add j = ⟨g, i * 5 + j, none⟩ from by by_cases h0 : j = 0 <;> simp [Addr.add, h0]]
    refine own_get hr _ ?_
    rw [← fm_take FV.cells 5 FV.cells_len, ← fm_drop FV.cells 5 FV.cells_len, List.getElem?_take, List.getElem?_drop] at hu
    split at hu
    · exact hu
    · cases hu
theorem Src.head {w : World} {n0 : Nat} {t : Option Nat} {base g n cap : Nat} {e : TypeId} {fs : List FV} (h : FRow w n0 t base e (.slice (some ⟨g, 0, none⟩) n cap) fs) (hn : fs.length = n) (k : Nat) (hk : k ≤ n) : Src w (some ⟨g, 0, none⟩) k 5 ((fs.take k).flatMap FV.cells) := by
  have := Src.part h hn 0 k (by omega)
  rwa [List.drop_zero, Nat.zero_mul] at this
theorem Src.tail {w : World} {n0 : Nat} {t : Option Nat} {base g n cap : Nat} {e : TypeId} {fs : List FV} (h : FRow w n0 t base e (.slice (some ⟨g, 0, none⟩) n cap) fs) (hn : fs.length = n) (k : Nat) (hk : k ≤ n) : Src w (some ⟨g, k * 5, none⟩) (n - k) 5 ((fs.drop k).flatMap FV.cells) := by
  have := Src.part h hn k (n - k) (by omega)
  rwa [List.take_of_length_le (by simp; omega)] at this
theorem Src.zero (w : World) (ad : Addr) (nets : List FV) (kk : Nat) (h : nets.length ≤ kk + 1) : Src w (some ad) (nets.length - (kk + 1)) 5 ((nets.drop (kk + 1)).flatMap FV.cells) := by
  have h1 : nets.drop (kk + 1) = [] := List.drop_of_length_le h
  rw [h1]
  exact ⟨by simp; omega, fun _ => ⟨_, rfl⟩, fun x _ j u hu => by simp at hu, fun u hu => by simp at hu⟩
theorem Src.all {w : World} {n0 : Nat} {t : Option Nat} {base n cap : Nat} {a : Option Addr} {e : TypeId} {fs : List FV} (h : FRow w n0 t base e (.slice a n cap) fs) (hn : fs.length = n) : Src w a n 5 (fs.flatMap FV.cells) := by
  rcases Nat.eq_zero_or_pos n with h0 | h0
  · subst h0
    obtain rfl := List.eq_nil_of_length_eq_zero hn
    exact ⟨rfl, fun h => by omega, fun x _ j u hu => by simp at hu, fun u hu => by simp at hu⟩
  · have hr := h.row
    obtain ⟨g, cp, he⟩ := own_some hr (by omega)
    simp only [Value.slice.injEq] at he
    obtain ⟨rfl, _, rfl⟩ := he
    have := Src.part h hn 0 n (by omega)
    rw [List.drop_zero, List.take_of_length_le (by omega), Nat.zero_mul] at this
    exact this
theorem Wr.told {w : World} {n0 : Nat} {t : Option Nat} (h : ∀ b, t = some b → n0 ≤ b) : Wr w n0 t fun b => t = some b := fun b hb _ => ⟨h b hb, fun _ => hb⟩
structure Told (w w' : World) (n0 : Nat) (t t' : Option Nat) : Prop where
  keep : Keep (fun b => t = some b) w w'
  lo : ∀ b, t = some b → n0 ≤ b
  int : ∀ b, t = some b → IsInt w b
  new : ∀ b, t' = some b → t = some b ∨ w.heap.size ≤ b
theorem NumsAt.told {w w' : World} {n0 : Nat} {t t' : Option Nat} {v : Value} {l : List Int} (h : NumsAt w n0 t v l) (k : Told w w' n0 t t') : NumsAt w' n0 t' v l := by
  obtain ⟨a, cap, rfl, hi, hb⟩ := h
  have hne : ∀ x, a = some x → 0 < l.length → ¬ t = some x.block := fun x hx hl e => by
    rcases hb x hx hl with h1 | h1
    · have := k.lo _ e; omega
    · exact h1.2 e
  refine ⟨a, cap, rfl, hi.keep k.keep hne, fun x hx hl => (hb x hx hl).imp id fun h1 => ⟨h1.1.keep k.keep (hne x hx hl), fun e => ?_⟩⟩
  rcases k.new _ e with h2 | h2
  · exact h1.2 h2
  · have := hi.blt hx hl; omega
theorem Told.ne {w w' : World} {n0 : Nat} {t t' : Option Nat} (k : Told w w' n0 t t') {b : Nat} {c : Array Value} {e : TypeId} (hb : Blk w b c e) (hne : e ≠ 3) : ¬ t = some b := fun h => IsInt.not hb hne (k.int b h)
theorem FRow.told {w w' : World} {n0 : Nat} {t t' : Option Nat} {base : Nat} {e : TypeId} {v : Value} {fs : List FV} (h : FRow w n0 t base e v fs) (k : Told w w' n0 t t') (he : e ≠ 3) : FRow w' n0 t' base e v fs :=
  ⟨row_keep h.row k.keep (fun b hb => by
    obtain ⟨c, hc⟩ := own_ty h.row hb
    exact k.ne hc he), fun x hx => NumsAt.told (h.nums x hx) k⟩
section
variable {w0 : World} {N : List Int} {n p q b a d e : Nat} {now c : Int} {r : Rcv} {nv tv : Value} {nets : List FV} {wr : World}
end
theorem AllOf.mono {N : List Int} {n m : Nat} {l : List Fr} (h : AllOf N n l) (hn : n ≤ m) : AllOf N m l := fun f hf => by
  obtain ⟨j, hj, e⟩ := h f hf
  exact ⟨j, by omega, e⟩
theorem add_add (a : Addr) (i j : Nat) : (a.add i).add j = a.add (i + j) := by
  by_cases hi : i = 0
  · subst hi; simp [Addr.add]
  · by_cases hj : j = 0
    · subst hj; simp [Addr.add]
    · simp only [add_posU _ _ hi, add_posU _ _ hj, add_posU _ _ (show i + j ≠ 0 by omega)]
      congr 1
      omega
theorem IntsR.src {w : World} {n0 : Nat} {a : Option Addr} {n cap : Nat} {l : List Int} (h : IntsR w n0 (.slice a n cap) l) : Src w a n 1 (icells l) := by
  obtain ⟨a', cap', h1, h2, h3, h4, h5⟩ := h
  obtain ⟨rfl, rfl, rfl⟩ : a = a' ∧ n = l.length ∧ cap = cap' := by simpa using h1
  refine ⟨by simp [icells], h4, fun x hx j u hu => ?_, icells_one⟩
  have hj : j < l.length := by
    rcases Nat.lt_or_ge j l.length with h | h
    · exact h
    · rw [List.getElem?_eq_none (by simpa [icells] using h)] at hu; cases hu
  unfold icells at hu
  rw [List.getElem?_map, List.getElem?_eq_getElem hj] at hu
  obtain rfl := Option.some.inj hu
  exact (h5 x hx (by omega)).2 j hj _ (List.getElem?_eq_getElem hj)
theorem StrsR.src {w : World} {n0 : Nat} {a : Option Addr} {n cap : Nat} {l : List ByteArray} (h : StrsR w n0 (.slice a n cap) l) : Src w a n 1 (l.map .string) := by
  obtain ⟨a', cap', h1, h2, h3, h4, h5⟩ := h
  obtain ⟨rfl, rfl, rfl⟩ : a = a' ∧ n = l.length ∧ cap = cap' := by simpa using h1
  refine ⟨by simp, h4, fun x hx j u hu => ?_, fun u hu => ?_⟩
  · have hj : j < l.length := by
      rcases Nat.lt_or_ge j l.length with h | h
      · exact h
      · rw [List.getElem?_eq_none (by simpa using h)] at hu; cases hu
    rw [List.getElem?_map, List.getElem?_eq_getElem hj] at hu
    obtain rfl := Option.some.inj hu
    exact (h5 x hx (by omega)).2 j hj _ (List.getElem?_eq_getElem hj)
  · obtain ⟨s, _, rfl⟩ := List.mem_map.1 hu
    rfl
set_option maxRecDepth 100000 in
set_option maxHeartbeats 800000 in
theorem ownintsR_any (v : Value) (l : List Int) (w : World) (n0 : Nat) (h : IntsR w n0 v l) (hl : l.length ≤ 1000) :
    Calls Tryz.prog 35 #[v] w fun e w' => ∃ v', e = .returned v' ∧ Ext w w' ∧ w'.ownsRow w.heap.size 3 1 v' l.length (icells l) := by
  obtain ⟨a, cap, rfl, h'⟩ := id h
  have Hs := hid h.src
  have hl2 : 0 + l.length ≤ 1000000 := by omega
  clear h h'
  go_enter Tryz.func35, Tryz.ntmps35
  go_wp2_with (at_builtin; refine wpList_append_src w.heap.size (Nat.le_refl _) 45 3 (.int .i64 0) 1 8 Tryz.underlying45 ints_info rfl (by omega) (by omega) rfl _ _ rfl (.slice none 0 0) 0 [] rfl (World.ownsRow_nil _ _ _ _) a l.length cap (icells l) rfl Hs.out hl2 ?_; intro v' w' h1 h2 h4; have h3 := Keep.new (Ext.refl w) h2 (fun k hk => by cases hk))
  go_ret
  exact ⟨_, rfl, h3, by simpa using h1⟩
def IntsT (w : World) (v : Value) (l : List Int) : Prop := IntsR w w.heap.size v l ∧ ∀ b, v.ownBlock = some b → IsInt w b
theorem IntsT.of_row {w : World} {base : Nat} {v : Value} {l : List Int} (h : w.ownsRow base 3 1 v l.length (icells l)) : IntsT w v l :=
  ⟨IntsR.own h (Nat.le_refl _), fun b hb => by
    obtain ⟨c, hc⟩ := own_ty h hb
    exact ⟨c, _, hc⟩⟩
theorem IntsT.keep {X : Nat → Prop} {w w' : World} {v : Value} {l : List Int} (h : IntsT w v l) (k : Keep X w w') (hX : ∀ b, X b → ¬ IsInt w b) : IntsT w' v l := by
  obtain ⟨⟨a, cap, h1, h2, h3, h4, h5⟩, hi⟩ := h
  subst h1
  refine ⟨⟨a, cap, rfl, h2, h3, h4, fun y hy h0 => ⟨Nat.lt_of_lt_of_le (h5 y hy h0).1 k.size, fun i hl s hs => ?_⟩⟩, fun b hb => (hi b hb).keep k fun hx => hX b hx (hi b hb)⟩
  subst hy
  exact k.cellx ((h5 y rfl h0).2 i hl s hs) fun hx => hX _ hx (by rw [add_block]; exact hi y.block rfl)
theorem IntsT.ext {w w' : World} {v : Value} {l : List Int} (h : IntsT w v l) (x : Ext w w') : IntsT w' v l := h.keep (x.keep fun _ => False) fun _ h => h.elim
theorem IntsT.form {w : World} {v : Value} {l : List Int} (h : IntsT w v l) : ∃ a c, v = .slice a l.length c := by
  obtain ⟨⟨a, cap, h1, _⟩, _⟩ := h
  exact ⟨a, cap, h1⟩
structure F2 where
  f : PF
  v : Value
def F2.cells (x : F2) : List Value := [.string x.f.name, x.v, .int .i64 x.f.ret]
theorem F2.cells_len (x : F2) : x.cells.length = 3 := rfl
structure S2 where
  s : PS
  v : Value
def S2.cells (x : S2) : List Value := [.string x.s.kind, .int .i64 x.s.x, .int .i64 x.s.y, x.v]
theorem S2.cells_len (x : S2) : x.cells.length = 4 := rfl
theorem FunsR.own {w : World} {base : Nat} {v : Value} {fs : List F2} {l : List PF} (h : w.ownsRow base 79 3 v fs.length (fs.flatMap F2.cells)) (hl : fs.map F2.f = l) (hn : ∀ x ∈ fs, IntsT w x.v x.f.params) : FunsR w w.heap.size v l := by
  have hll : l.length = fs.length := by rw [← hl, List.length_map]
  unfold FunsR
  rw [hll]
  refine ElR.own h (Nat.le_refl _) fun g hc i hi f hf => ?_
  rw [← hl, List.getElem?_map] at hf
  obtain ⟨x, hx, rfl⟩ := Option.map_eq_some_iff.1 hf
  have c : ∀ j u, x.cells[j]? = some u → j < 3 → w.cell? (((⟨g, 0, none⟩ : Addr).add (i * 3)).add j) = some u := fun j u hu hj => by
    rw [add_add]
    exact hc _ _ ((fm_get F2.cells 3 F2.cells_len fs i j x hx hj).trans hu)
  exact ⟨x.v, by simpa [Addr.add] using c 0 _ rfl (by omega), c 1 _ rfl (by omega), c 2 _ rfl (by omega), (hn x (List.mem_of_getElem? hx)).1⟩
theorem StmtsR.own {w : World} {base : Nat} {v : Value} {ss : List S2} {l : List PS} (h : w.ownsRow base 77 4 v ss.length (ss.flatMap S2.cells)) (hl : ss.map S2.s = l) (hn : ∀ x ∈ ss, IntsT w x.v x.s.args) : StmtsR w w.heap.size v l := by
  have hll : l.length = ss.length := by rw [← hl, List.length_map]
  unfold StmtsR
  rw [hll]
  refine ElR.own h (Nat.le_refl _) fun g hc i hi f hf => ?_
  rw [← hl, List.getElem?_map] at hf
  obtain ⟨x, hx, rfl⟩ := Option.map_eq_some_iff.1 hf
  have c : ∀ j u, x.cells[j]? = some u → j < 4 → w.cell? (((⟨g, 0, none⟩ : Addr).add (i * 4)).add j) = some u := fun j u hu hj => by
    rw [add_add]
    exact hc _ _ ((fm_get S2.cells 4 S2.cells_len ss i j x hx hj).trans hu)
  exact ⟨x.v, by simpa [Addr.add] using c 0 _ rfl (by omega), c 1 _ rfl (by omega), c 2 _ rfl (by omega), c 3 _ rfl (by omega), (hn x (List.mem_of_getElem? hx)).1⟩
theorem fun_info : (Tryz.prog.info? 79).map (fun i => (i.zero, i.size, i.bytes)) = some (some (.agg #[.string ⟨#[]⟩, .slice none 0 0, .int .i64 0]), 3, 48) := by kernel_rfl
theorem stmt_info : (Tryz.prog.info? 77).map (fun i => (i.zero, i.size, i.bytes)) = some (some (.agg #[.string ⟨#[]⟩, .int .i64 0, .int .i64 0, .slice none 0 0]), 4, 56) := by kernel_rfl
structure OwnP (w : World) (n1 : Nat) (vv fv sv : Value) (P : PP) (fs : List F2) (ss : List S2) : Prop where
  blk : Blk w n1 #[vv, fv, sv] 26
  vars : w.ownsRow 0 9 1 vv P.vars.length (P.vars.map .string)
  funs : w.ownsRow n1 79 3 fv fs.length (fs.flatMap F2.cells)
  stmts : w.ownsRow n1 77 4 sv ss.length (ss.flatMap S2.cells)
  fi : ∀ x ∈ fs, IntsT w x.v x.f.params
  si : ∀ x ∈ ss, IntsT w x.v x.s.args
theorem OwnP.ext {w w' : World} {n1 : Nat} {vv fv sv : Value} {P : PP} {fs : List F2} {ss : List S2} (h : OwnP w n1 vv fv sv P fs ss) (x : Ext w w') : OwnP w' n1 vv fv sv P fs ss :=
  ⟨h.blk.ext x, own_ext h.vars x, own_ext h.funs x, own_ext h.stmts x, fun y hy => (h.fi y hy).ext x, fun y hy => (h.si y hy).ext x⟩
theorem notInt {w : World} {b : Nat} {c : Array Value} {t : TypeId} (h : Blk w b c t) (hne : t ≠ 3) : ¬ IsInt w b := IsInt.not h hne
theorem OwnP.fun {w w1 w' : World} {n1 : Nat} {vv fv sv fv' : Value} {P : PP} {fs : List F2} {ss : List S2} (h : OwnP w n1 vv fv sv P fs ss) (x : F2) (hx : IntsT w x.v x.f.params)
    (ho : w'.ownsRow n1 79 3 fv' (fs.length + 1) (fs.flatMap F2.cells ++ F2.cells x)) (k : Keep (fun q => fv.ownBlock = some q) w w') (hw : w1 = w'.setCell ⟨n1, 1, none⟩ fv') : OwnP w1 n1 vv fv' sv P (fs ++ [x]) ss := by
  subst hw
  have hb : Blk w' n1 #[vv, fv, sv] 26 := h.blk.keep k fun e => by
    obtain ⟨c, hc⟩ := own_ty h.funs e
    exact Blk.ty_ne hc h.blk (by decide) rfl
  have k2 : Keep (fun q => q = n1) w' (w'.setCell ⟨n1, 1, none⟩ fv') := Keep.set (X := fun q => q = n1) (Keep.refl _ _) rfl _
  have hb2 := hb.set 1 fv'
  simp only [qS0, qS1, qS2] at hb2
  have nf : ∀ b, fv.ownBlock = some b → ¬ IsInt w b := fun b e => by
    obtain ⟨c, hc⟩ := own_ty h.funs e
    exact notInt hc (by decide)
  have kk : ∀ v l, IntsT w v l → IntsT (w'.setCell ⟨n1, 1, none⟩ fv') v l := fun v l hi => (hi.keep k nf).keep k2 fun b e => by subst e; exact notInt hb (by decide)
  have r2 : ∀ {base : Nat} {e : TypeId} {size : Nat} {v : Value} {n : Nat} {xs : List Value}, w'.ownsRow base e size v n xs → e ≠ 26 → (w'.setCell ⟨n1, 1, none⟩ fv').ownsRow base e size v n xs := fun hr hne => row_keep hr k2 fun i hi e => by
    subst e
    obtain ⟨c, hc⟩ := own_ty hr hi
    exact Blk.ty_ne hc hb hne rfl
  have r1 : ∀ {base : Nat} {e : TypeId} {size : Nat} {v : Value} {n : Nat} {xs : List Value}, w.ownsRow base e size v n xs → e ≠ 79 → w'.ownsRow base e size v n xs := fun hr hne => row_keep hr k fun i hi e => by
    obtain ⟨c, hc⟩ := own_ty hr hi
    obtain ⟨d, hd⟩ := own_ty h.funs e
    exact Blk.ty_ne hc hd hne rfl
  refine ⟨hb2, r2 (r1 h.vars (by decide)) (by decide), r2 (by simpa using ho) (by decide), r2 (r1 h.stmts (by decide)) (by decide), fun y hy => ?_, fun y hy => kk _ _ (h.si y hy)⟩
  rcases List.mem_append.1 hy with hy | hy
  · exact kk _ _ (h.fi y hy)
  · rw [List.mem_singleton.1 hy]; exact kk _ _ hx
theorem OwnP.stmt {w w1 w' : World} {n1 : Nat} {vv fv sv sv' : Value} {P : PP} {fs : List F2} {ss : List S2} (h : OwnP w n1 vv fv sv P fs ss) (x : S2) (hx : IntsT w x.v x.s.args)
    (ho : w'.ownsRow n1 77 4 sv' (ss.length + 1) (ss.flatMap S2.cells ++ S2.cells x)) (k : Keep (fun q => sv.ownBlock = some q) w w') (hw : w1 = w'.setCell ⟨n1, 2, none⟩ sv') : OwnP w1 n1 vv fv sv' P fs (ss ++ [x]) := by
  subst hw
  have hb : Blk w' n1 #[vv, fv, sv] 26 := h.blk.keep k fun e => by
    obtain ⟨c, hc⟩ := own_ty h.stmts e
    exact Blk.ty_ne hc h.blk (by decide) rfl
  have k2 : Keep (fun q => q = n1) w' (w'.setCell ⟨n1, 2, none⟩ sv') := Keep.set (X := fun q => q = n1) (Keep.refl _ _) rfl _
  have hb2 := hb.set 2 sv'
  simp only [qS0, qS1, qS2] at hb2
  have nf : ∀ b, sv.ownBlock = some b → ¬ IsInt w b := fun b e => by
    obtain ⟨c, hc⟩ := own_ty h.stmts e
    exact notInt hc (by decide)
  have kk : ∀ v l, IntsT w v l → IntsT (w'.setCell ⟨n1, 2, none⟩ sv') v l := fun v l hi => (hi.keep k nf).keep k2 fun b e => by subst e; exact notInt hb (by decide)
  have r2 : ∀ {base : Nat} {e : TypeId} {size : Nat} {v : Value} {n : Nat} {xs : List Value}, w'.ownsRow base e size v n xs → e ≠ 26 → (w'.setCell ⟨n1, 2, none⟩ sv').ownsRow base e size v n xs := fun hr hne => row_keep hr k2 fun i hi e => by
    subst e
    obtain ⟨c, hc⟩ := own_ty hr hi
    exact Blk.ty_ne hc hb hne rfl
  have r1 : ∀ {base : Nat} {e : TypeId} {size : Nat} {v : Value} {n : Nat} {xs : List Value}, w.ownsRow base e size v n xs → e ≠ 77 → w'.ownsRow base e size v n xs := fun hr hne => row_keep hr k fun i hi e => by
    obtain ⟨c, hc⟩ := own_ty hr hi
    obtain ⟨d, hd⟩ := own_ty h.stmts e
    exact Blk.ty_ne hc hd hne rfl
  refine ⟨hb2, r2 (r1 h.vars (by decide)) (by decide), r2 (r1 h.funs (by decide)) (by decide), r2 (by simpa using ho) (by decide), fun y hy => kk _ _ (h.fi y hy), fun y hy => ?_⟩
  rcases List.mem_append.1 hy with hy | hy
  · exact kk _ _ (h.si y hy)
  · rw [List.mem_singleton.1 hy]; exact kk _ _ hx
theorem Blk.new_setU (w : World) (a : Addr) (v : Value) (c : Array Value) (e : TypeId) : Blk ((w.setCell a v).alloc (.cells c e)) w.heap.size c e := by
  have := Blk.new (w.setCell a v) c e
  simpa [World.setCell] using this
set_option maxRecDepth 100000 in
set_option maxHeartbeats 12800000 in
theorem ownprogram_any (a1 a2 a3 : Option Addr) (c1 c2 c3 : Nat) (P : PP) (w : World) (h : ProgR w w.heap.size (.slice a1 P.vars.length c1) (.slice a2 P.funs.length c2) (.slice a3 P.stmts.length c3) P) (hs : P.Small) :
    Calls Tryz.prog 9 #[pval a1 a2 a3 c1 c2 c3 P] w fun e w' => Ext w w' ∧ ∃ b1 b2 b3 d1 d2 d3, e = .returned (pval b1 b2 b3 d1 d2 d3 P) ∧ ProgR w' w'.heap.size (.slice b1 P.vars.length d1) (.slice b2 P.funs.length d2) (.slice b3 P.stmts.length d3) P := by
  have HP := hid h
  have Hs := hid hs
  have hl1 := hs.vl
  have hl2 := hs.fl
  have hl3 := hs.sl
  obtain ⟨W1, hW1⟩ : ∃ W1, W1 = w.alloc (.cells (pcells a1 a2 a3 c1 c2 c3 P) 26) := ⟨_, rfl⟩
  have hx1 : Ext w W1 := by rw [hW1]; exact (Ext.refl _).alloc _
  obtain ⟨W2, hW2⟩ : ∃ W2, W2 = W1.alloc (.cells #[.slice none 0 0, .slice none 0 0, .slice none 0 0] 26) := ⟨_, rfl⟩
  have hx2 : Ext W1 W2 := by rw [hW2]; exact (Ext.refl _).alloc _
  have HW2 := hid (hx1.trans hx2)
  have HB1 : Hid (Blk W2 w.heap.size (pcells a1 a2 a3 c1 c2 c3 P) 26) := hid (by
    have : Blk W1 w.heap.size (pcells a1 a2 a3 c1 c2 c3 P) 26 := by rw [hW1]; exact Blk.new _ _ _
    exact this.ext hx2)
  have hs1 : W1.heap.size = w.heap.size + 1 := by rw [hW1, heap_size_alloc]
  have HB2 : Hid (Blk W2 (w.heap.size + 1) #[.slice none 0 0, .slice none 0 0, .slice none 0 0] 26) := hid (by
    rw [← hs1, hW2]; exact Blk.new _ _ _)
  have HW2e : Hid (W2 = (w.alloc (.cells #[.slice a1 P.vars.length c1, .slice a2 P.funs.length c2, .slice a3 P.stmts.length c3] 26)).alloc (.cells #[.slice none 0 0, .slice none 0 0, .slice none 0 0] 26)) := hid (by rw [hW2, hW1]; rfl)
  have Hsrc := hid ((h.ext HW2.out).vars.src)
  have hlv : 0 + P.vars.length ≤ 1000000 := by omega
  unfold pval
  clear h hs hW1 hW2 hx1 hx2 hs1
  go_enter Tryz.func9, Tryz.ntmps9
  go_wp2_with (at_builtin; rw [← HW2e.out]; refine wpList_append_src W2.heap.size (Nat.le_refl _) 22 9 (.string ⟨#[]⟩) 1 16 Tryz.underlying22 str_info rfl (by omega) (by omega) rfl _ _ rfl (.slice none 0 0) 0 [] rfl (World.ownsRow_nil _ _ _ _) a1 P.vars.length c1 (P.vars.map .string) rfl Hsrc.out hlv ?_; intro v3 w3 h1 h2 h4; have HX3 := hid (Keep.new (Ext.refl W2) h2 (fun k hk => by cases hk)); have HV3 := hid (show w3.ownsRow W2.heap.size 9 1 v3 P.vars.length (P.vars.map .string) by simpa using h1); clear h1 h2 h4; obtain ⟨va, vc, rfl⟩ := row_form HV3.out)
  obtain ⟨W4, hW4⟩ : ∃ W4, W4 = w3.alloc (.cells #[.slice va P.vars.length vc, .slice none 0 0, .slice none 0 0] 26) := ⟨_, rfl⟩
  rw [← hW4]
  have hx4 : Ext w3 W4 := by rw [hW4]; exact (Ext.refl _).alloc _
  have HO4 : Hid (OwnP W4 w3.heap.size (.slice va P.vars.length vc) (.slice none 0 0) (.slice none 0 0) P [] []) := hid
    ⟨by rw [hW4]; exact Blk.new _ _ _, own_low (own_ext HV3.out hx4) (Nat.zero_le _), World.ownsRow_nil _ _ _ _, World.ownsRow_nil _ _ _ _, fun _ h => by (cases h), fun _ h => by (cases h)⟩
  have HW4 := hid ((HW2.out.trans HX3.out).trans hx4)
  have HB14 := hid (HB1.out.ext (HX3.out.trans hx4))
  have HB24 := hid (HB2.out.ext (HX3.out.trans hx4))
  have Hn1 : Hid (w.heap.size + 1 < w3.heap.size) := hid (Nat.lt_of_lt_of_le HB2.out.lt HX3.out.size)
  clear hW4 hx4 Hsrc hlv
  generalize w3.heap.size = n1 at *
  go_loopw [5] (fun t5 wr => ∃ (k : Nat) (fv : Value) (fs : List F2), t5 = .int .i64 (k : Int) ∧ k ≤ P.funs.length ∧ OwnP wr n1 (.slice va P.vars.length vc) fv (.slice none 0 0) P fs [] ∧ fs.map F2.f = P.funs.take k ∧ Old n1 W4 wr) (fun t5 _ => P.funs.length - (intOf t5).toNat)
  case atStart => exact ⟨0, _, [], rfl, Nat.zero_le _, HO4.out, rfl, Old.refl _ _⟩
  case round =>
    clear HO4
    obtain ⟨k, fv, fs, rfl, hk, hO, hm, hw⟩ := hrel
    have HO := hid hO
    have Hm := hid hm
    have Hw := hid hw
    have Hww : Hid (Old w.heap.size w wr) := hid ((HW4.out.old _).trans (hw.mono fun q _ e => by have := Hn1.out; omega))
    have HBp : Hid (Blk wr w.heap.size (pcells a1 a2 a3 c1 c2 c3 P) 26) := hid (HB14.out.keep hw fun e => by have := Hn1.out; omega)
    have HBr : Hid (Blk wr (w.heap.size + 1) #[.slice none 0 0, .slice none 0 0, .slice none 0 0] 26) := hid (HB24.out.keep hw fun e => by have := Hn1.out; omega)
    have p0 := HBp.out.av 0 rfl
    have p1 := HBp.out.av 1 rfl
    have p2 := HBp.out.av 2 rfl
    simp only [pcells, qA0, qA1, qA2] at p0 p1 p2
    clear hO hm hw
    by_cases hlt : k < P.funs.length
    · obtain ⟨y, f, av, cv, rfl, hq, e0, e1, e2, hI⟩ := (HP.out.old Hww.out).funs.at hlt
      have hfl : fs.length = k := by
        have := congrArg List.length Hm.out
        rw [List.length_map, List.length_take] at this
        omega
      obtain ⟨fa, fc, hfv⟩ := row_form HO.out.funs
      rw [hfl] at hfv
      subst hfv
      obtain ⟨W5, hW5⟩ : ∃ W5, W5 = wr.alloc (.cells #[.string f.name, .slice av f.params.length cv, .int .i64 f.ret] 79) := ⟨_, rfl⟩
      have hx5 : Ext wr W5 := by rw [hW5]; exact (Ext.refl _).alloc _
      have HB5 : Hid (Blk W5 wr.heap.size #[.string f.name, .slice av f.params.length cv, .int .i64 f.ret] 79) := hid (by rw [hW5]; exact Blk.new _ _ _)
      have hfs := Hs.out.fs f (List.mem_of_getElem? hq)
      have HN := hid (ownintsR_any _ f.params W5 w.heap.size (hI.old (hx5.old _)) (by omega))
      have Hnx : Hid (∀ v, (fs ++ [(⟨f, v⟩ : F2)]).map F2.f = P.funs.take (k + 1)) := hid fun v => by
        rw [List.map_append, Hm.out, List.take_add_one, hq]; rfl
      have Hx5 := hid hx5
      have HW5 := hid hW5
      have Hfl := hid hfl
      clear hq hI hfl hx5 hW5 hfs
      go_wp2_with fail
      rw [← HW5.out]
      refine HN.out.mono ?_
      intro e w6 hx
      obtain ⟨v6, rfl, hx6, hr6⟩ := hx
      obtain ⟨b6, c6, rfl⟩ := row_form hr6
      have hB6 := HB5.out.ext hx6
      have z1 := hB6.av 1 rfl
      have f1 := hB6.free 1
      have hB7 := hB6.set 1 (.slice b6 f.params.length c6)
      have k7 : Keep (fun q => q = wr.heap.size) w6 (w6.setCell ⟨wr.heap.size, 1, none⟩ (.slice b6 f.params.length c6)) := Keep.set (X := fun q => q = wr.heap.size) (Keep.refl _ _) rfl _
      simp only [qS0, qS1, qS2, qA0, qA1, qA2] at z1 hB7
      have hx7 : Ext wr (w6.setCell ⟨wr.heap.size, 1, none⟩ (.slice b6 f.params.length c6)) := Keep.new (Hx5.out.trans hx6) k7 fun q e => Nat.le_of_eq e.symm
      have HO7 := hid (HO.out.ext hx7)
      have HT7 := hid ((IntsT.of_row hr6).keep k7 fun q e => by subst e; exact notInt hB6 (by decide))
      have y0 := hB7.av 0 rfl
      have y1 := hB7.av 1 rfl
      have y2 := hB7.av 2 rfl
      have q1 := HO7.out.blk.av 1 rfl
      simp only [qA0, qA1, qA2] at y0 y1 y2 q1
      have Hx7 := hid hx7
      have Hn8 : Hid (n1 ≤ ((w6.setCell ⟨wr.heap.size, 1, none⟩ (.slice b6 f.params.length c6)).alloc (.cells #[.string f.name, .slice b6 f.params.length c6, .int .i64 f.ret] 79)).heap.size) := hid (Nat.le_trans (Nat.le_of_lt HO7.out.blk.lt) ((Ext.refl _).alloc _).size)
      have Hkl : Hid (k ≤ 1000000) := hid (by omega)
      have HRo : Hid ((w6.setCell ⟨wr.heap.size, 1, none⟩ (.slice b6 f.params.length c6)).ownsRow n1 79 3 (.slice fa k fc) k (fs.flatMap F2.cells)) := hid (by have := HO7.out.funs; rwa [Hfl.out] at this)
      clear HN hx6 hr6 hB6 hB7 k7 hx7
      go_wp2_with (at_builtin; refine wpList_append_el n1 Hn8.out 23 79 (.agg #[.string ⟨#[]⟩, .slice none 0 0, .int .i64 0]) 3 48 Tryz.underlying23 fun_info rfl (by omega) (by omega) rfl _ _ rfl (.slice fa k fc) k (fs.flatMap F2.cells) rfl (own_ext HRo.out ((Ext.refl _).alloc _)) w6.heap.size (F2.cells ⟨f, .slice b6 f.params.length c6⟩) rfl (by simp [F2.cells, Value.oneCell']) rfl (Blk.new_setU _ _ _ _ _) Hkl.out ?_; intro v9 w9 ho9 hk9 hl9; obtain ⟨a9, c9, rfl⟩ := row_form ho9; have HO8 := hid (HO7.out.ext ((Ext.refl _).alloc (.cells #[.string f.name, .slice b6 f.params.length c6, .int .i64 f.ret] 79))); have HT8 := hid (HT7.out.ext ((Ext.refl _).alloc (.cells #[.string f.name, .slice b6 f.params.length c6, .int .i64 f.ret] 79))); have Hk9 := hid hk9; have Ho9 := hid ho9; have hb9 := HO8.out.blk.keep hk9 (fun e => by obtain ⟨c, hc⟩ := own_ty HO8.out.funs e; exact Blk.ty_ne hc HO8.out.blk (by decide) rfl); have s1 := hb9.av 1 rfl; have t1 := hb9.free 1; clear ho9 hk9 hb9)
      have HO10 := hid (HO8.out.fun ⟨f, .slice b6 f.params.length c6⟩ HT8.out (by rw [Hfl.out]; exact Ho9.out) Hk9.out rfl)
      have HO11 : Hid (Old n1 W4 (w9.setCell ⟨n1, 1, none⟩ (.slice a9 (k + 1) c9))) := hid (by
        refine Hw.out.trans (((Hx7.out.trans ((Ext.refl _).alloc _)).old n1).trans ((Hk9.out.mono fun q _ e => (World.ownsRow.lt HO8.out.funs q e).1).trans ?_))
        exact Keep.set (X := fun q => n1 ≤ q) (Keep.refl _ _) (Nat.le_refl _) _)
      go_roundw
      case rel => exact ⟨k + 1, _, _, by go_num, by omega, HO10.out, Hnx.out _, HO11.out⟩
      case measure => simp [intOf]; omega
    · obtain rfl : k = P.funs.length := by omega
      rw [List.take_of_length_le (Nat.le_refl _)] at Hm
      have Hmf := Hm
      have HOf := HO
      have Hwf := Hw
      clear Hm HO Hw HBr Hww HBp
      go_wp2
      clear p0 p1 p2
      rename World => w7
      go_loopw [7] (fun t7 wr => ∃ (k : Nat) (sv : Value) (ss : List S2), t7 = .int .i64 (k : Int) ∧ k ≤ P.stmts.length ∧ OwnP wr n1 (.slice va P.vars.length vc) fv sv P fs ss ∧ ss.map S2.s = P.stmts.take k ∧ Old n1 W4 wr) (fun t7 _ => P.stmts.length - (intOf t7).toNat)
      case atStart => exact ⟨0, _, [], rfl, Nat.zero_le _, HOf.out, rfl, Hwf.out⟩
      case round =>
        clear HOf Hwf
        obtain ⟨k, sv, ss, rfl, hk, hO, hm, hw⟩ := hrel
        have HO := hid hO
        have Hm := hid hm
        have Hw := hid hw
        have Hww : Hid (Old w.heap.size w wr) := hid ((HW4.out.old _).trans (hw.mono fun q _ e => by have := Hn1.out; omega))
        have HBp : Hid (Blk wr w.heap.size (pcells a1 a2 a3 c1 c2 c3 P) 26) := hid (HB14.out.keep hw fun e => by have := Hn1.out; omega)
        have HBr : Hid (Blk wr (w.heap.size + 1) #[.slice none 0 0, .slice none 0 0, .slice none 0 0] 26) := hid (HB24.out.keep hw fun e => by have := Hn1.out; omega)
        have p0 := HBp.out.av 0 rfl
        have p1 := HBp.out.av 1 rfl
        have p2 := HBp.out.av 2 rfl
        simp only [pcells, qA0, qA1, qA2] at p0 p1 p2
        clear hO hm hw
        by_cases hlt : k < P.stmts.length
        · obtain ⟨y, f, av, cv, rfl, hq, e0, e1, e2, e3, hI⟩ := (HP.out.old Hww.out).stmts.at hlt
          have hfl : ss.length = k := by
            have := congrArg List.length Hm.out
            rw [List.length_map, List.length_take] at this
            omega
          obtain ⟨fa, fc, hfv⟩ := row_form HO.out.stmts
          rw [hfl] at hfv
          subst hfv
          obtain ⟨W5, hW5⟩ : ∃ W5, W5 = wr.alloc (.cells #[.string f.kind, .int .i64 f.x, .int .i64 f.y, .slice av f.args.length cv] 77) := ⟨_, rfl⟩
          have hx5 : Ext wr W5 := by rw [hW5]; exact (Ext.refl _).alloc _
          have HB5 : Hid (Blk W5 wr.heap.size #[.string f.kind, .int .i64 f.x, .int .i64 f.y, .slice av f.args.length cv] 77) := hid (by rw [hW5]; exact Blk.new _ _ _)
          have hfs := Hs.out.ss f (List.mem_of_getElem? hq)
          have HN := hid (ownintsR_any _ f.args W5 w.heap.size (hI.old (hx5.old _)) (by omega))
          have Hnx : Hid (∀ v, (ss ++ [(⟨f, v⟩ : S2)]).map S2.s = P.stmts.take (k + 1)) := hid fun v => by
            rw [List.map_append, Hm.out, List.take_add_one, hq]; rfl
          have Hx5 := hid hx5
          have HW5 := hid hW5
          have Hfl := hid hfl
          clear hq hI hfl hx5 hW5 hfs
          go_wp2_with fail
          rw [← HW5.out]
          refine HN.out.mono ?_
          intro e w6 hx
          obtain ⟨v6, rfl, hx6, hr6⟩ := hx
          obtain ⟨b6, c6, rfl⟩ := row_form hr6
          have hB6 := HB5.out.ext hx6
          have z1 := hB6.av 3 rfl
          have f1 := hB6.free 3
          have hB7 := hB6.set 3 (.slice b6 f.args.length c6)
          have k7 : Keep (fun q => q = wr.heap.size) w6 (w6.setCell ⟨wr.heap.size, 3, none⟩ (.slice b6 f.args.length c6)) := Keep.set (X := fun q => q = wr.heap.size) (Keep.refl _ _) rfl _
          simp only [qS0, qS1, qS2, qA0, qA1, qA2] at z1 hB7
          have hx7 : Ext wr (w6.setCell ⟨wr.heap.size, 3, none⟩ (.slice b6 f.args.length c6)) := Keep.new (Hx5.out.trans hx6) k7 fun q e => Nat.le_of_eq e.symm
          have HO7 := hid (HO.out.ext hx7)
          have HT7 := hid ((IntsT.of_row hr6).keep k7 fun q e => by subst e; exact notInt hB6 (by decide))
          have y0 := hB7.av 0 rfl
          have y1 := hB7.av 1 rfl
          have y2 := hB7.av 2 rfl
          have y3 := hB7.av 3 rfl
          have q1 := HO7.out.blk.av 2 rfl
          simp only [qA0, qA1, qA2] at y0 y1 y2 y3 q1
          have Hx7 := hid hx7
          have Hn8 : Hid (n1 ≤ ((w6.setCell ⟨wr.heap.size, 3, none⟩ (.slice b6 f.args.length c6)).alloc (.cells #[.string f.kind, .int .i64 f.x, .int .i64 f.y, .slice b6 f.args.length c6] 77)).heap.size) := hid (Nat.le_trans (Nat.le_of_lt HO7.out.blk.lt) ((Ext.refl _).alloc _).size)
          have Hkl : Hid (k ≤ 1000000) := hid (by omega)
          have HRo : Hid ((w6.setCell ⟨wr.heap.size, 3, none⟩ (.slice b6 f.args.length c6)).ownsRow n1 77 4 (.slice fa k fc) k (ss.flatMap S2.cells)) := hid (by have := HO7.out.stmts; rwa [Hfl.out] at this)
          clear HN hx6 hr6 hB6 hB7 k7 hx7
          go_wp2_with (at_builtin; refine wpList_append_el n1 Hn8.out 24 77 (.agg #[.string ⟨#[]⟩, .int .i64 0, .int .i64 0, .slice none 0 0]) 4 56 Tryz.underlying24 stmt_info rfl (by omega) (by omega) rfl _ _ rfl (.slice fa k fc) k (ss.flatMap S2.cells) rfl (own_ext HRo.out ((Ext.refl _).alloc _)) w6.heap.size (S2.cells ⟨f, .slice b6 f.args.length c6⟩) rfl (by simp [S2.cells, Value.oneCell']) rfl (Blk.new_setU _ _ _ _ _) Hkl.out ?_; intro v9 w9 ho9 hk9 hl9; obtain ⟨a9, c9, rfl⟩ := row_form ho9; have HO8 := hid (HO7.out.ext ((Ext.refl _).alloc (.cells #[.string f.kind, .int .i64 f.x, .int .i64 f.y, .slice b6 f.args.length c6] 77))); have HT8 := hid (HT7.out.ext ((Ext.refl _).alloc (.cells #[.string f.kind, .int .i64 f.x, .int .i64 f.y, .slice b6 f.args.length c6] 77))); have Hk9 := hid hk9; have Ho9 := hid ho9; have hb9 := HO8.out.blk.keep hk9 (fun e => by obtain ⟨c, hc⟩ := own_ty HO8.out.stmts e; exact Blk.ty_ne hc HO8.out.blk (by decide) rfl); have s1 := hb9.av 2 rfl; have t1 := hb9.free 2; clear ho9 hk9 hb9)
          have HO10 := hid (HO8.out.stmt ⟨f, .slice b6 f.args.length c6⟩ HT8.out (by rw [Hfl.out]; exact Ho9.out) Hk9.out rfl)
          have HO11 : Hid (Old n1 W4 (w9.setCell ⟨n1, 2, none⟩ (.slice a9 (k + 1) c9))) := hid (by
            refine Hw.out.trans (((Hx7.out.trans ((Ext.refl _).alloc _)).old n1).trans ((Hk9.out.mono fun q _ e => (World.ownsRow.lt HO8.out.stmts q e).1).trans ?_))
            exact Keep.set (X := fun q => n1 ≤ q) (Keep.refl _ _) (Nat.le_refl _) _)
          go_roundw
          case rel => exact ⟨k + 1, _, _, by go_num, by omega, HO10.out, Hnx.out _, HO11.out⟩
          case measure => simp [intOf]; omega
        · obtain rfl : k = P.stmts.length := by omega
          rw [List.take_of_length_le (Nat.le_refl _)] at Hm
          have hfl : fs.length = P.funs.length := by rw [← Hmf.out, List.length_map]
          have hsl : ss.length = P.stmts.length := by rw [← Hm.out, List.length_map]
          obtain ⟨fa, fc, hfv⟩ := row_form HO.out.funs
          obtain ⟨sa, sc, hsv⟩ := row_form HO.out.stmts
          rw [hfl] at hfv
          rw [hsl] at hsv
          subst hfv hsv
          have q0 := HO.out.blk.av 0 rfl
          have q1 := HO.out.blk.av 1 rfl
          have q2 := HO.out.blk.av 2 rfl
          have z0 := HBr.out.av 0 rfl
          have z1 := HBr.out.av 1 rfl
          have z2 := HBr.out.av 2 rfl
          have f0 := HBr.out.free 0
          have f1 := HBr.out.free 1
          have f2 := HBr.out.free 2
          simp only [qA0, qA1, qA2] at q0 q1 q2 z0 z1 z2
          have HBz := hid (store3 (v0 := .slice va P.vars.length vc) (v1 := .slice fa P.funs.length fc) (v2 := .slice sa P.stmts.length sc) HBr.out)
          have HKz := hid (store3_keep wr (w.heap.size + 1) (.slice va P.vars.length vc) (.slice fa P.funs.length fc) (.slice sa P.stmts.length sc))
          obtain ⟨W10, hW10⟩ : ∃ W10, W10 = (((wr.setCell ⟨w.heap.size + 1, 0, none⟩ (.slice va P.vars.length vc)).setCell ⟨w.heap.size + 1, 1, none⟩ (.slice fa P.funs.length fc)).setCell ⟨w.heap.size + 1, 2, none⟩ (.slice sa P.stmts.length sc)) := ⟨_, rfl⟩
          rw [← hW10] at HBz HKz
          have HW10 := hid hW10
          have Hfs := hid (And.intro hfl hsl)
          clear hfl hsl p0 p1 hW10
          go_wp2
          rw [← HW10.out]
          have c0 := HBz.out.av 0 rfl
          have c1' := HBz.out.av 1 rfl
          have c2' := HBz.out.av 2 rfl
          have hX := Keep.new (Ext.refl w) (Hww.out.trans (HKz.out.mono fun b _ e => by omega)) fun b hb => hb
          have hni : ∀ b, b = w.heap.size + 1 → ¬ IsInt wr b := fun b e => by subst e; exact notInt HBr.out (by decide)
          have hrk : ∀ {base : Nat} {e : TypeId} {size : Nat} {v : Value} {n : Nat} {xs : List Value}, wr.ownsRow base e size v n xs → e ≠ 26 → W10.ownsRow base e size v n xs := fun hr hne => row_keep hr HKz.out fun i hi e => by
            subst e
            obtain ⟨c, hc⟩ := own_ty hr hi
            exact Blk.ty_ne hc HBr.out hne rfl
          have hP' : ProgR W10 W10.heap.size (.slice va P.vars.length vc) (.slice fa P.funs.length fc) (.slice sa P.stmts.length sc) P :=
            ⟨StrsR.own (hrk HO.out.vars (by decide)) (Nat.le_refl _), FunsR.own (by have := hrk HO.out.funs (by decide); rw [Hfs.out.1]; rw [Hfs.out.1] at this; exact this) Hmf.out fun x hx => (HO.out.fi x hx).keep HKz.out hni, StmtsR.own (by have := hrk HO.out.stmts (by decide); rw [Hfs.out.2]; rw [Hfs.out.2] at this; exact this) Hm.out fun x hx => (HO.out.si x hx).keep HKz.out hni⟩
          exact bodyPost_ret (v := pval va fa sa vc fc sc P) (by simp [results, pval, Tryz.results9, go_sem, c0, c1', c2']) rfl ⟨hX, _, _, _, _, _, _, rfl, hP'⟩
def ranP : PP := ⟨[⟨#[97]⟩, ⟨#[98]⟩], [], [⟨⟨#[97, 100, 100, 114]⟩, 0, 1, []⟩, ⟨⟨#[115, 116, 111, 114, 101]⟩, 0, 0, []⟩]⟩
def ranS : Array Value := #[.string ⟨#[97, 100, 100, 114]⟩, .int .i64 0, .int .i64 1, .slice none 0 0, .string ⟨#[115, 116, 111, 114, 101]⟩, .int .i64 0, .int .i64 0, .slice none 0 0]
def PP.isNew (P : PP) (k : Nat) : Bool := match P.stmts[k]? with
  | some x => x.isK kNew
  | none => false
theorem PP.Runs.take {P : PP} {l : List Int} (h : P.Runs l) (k : Nat) : P.Runs (l.take k) :=
  ⟨h.1, h.2.1, by have := h.2.2.1; rw [List.length_take]; omega, fun x hx => h.2.2.2 x (List.mem_of_mem_take hx)⟩
theorem PP.Runs.lt {P : PP} {l : List Int} (h : P.Runs l) {q : Int} (hq : q ∈ l) : 0 ≤ q ∧ q < P.stmts.length := by
  have hb := h.2.2.2 q hq
  unfold PP.badk at hb
  simp at hb
  omega
theorem PP.Runs.stmts {P : PP} {l : List Int} (h : P.Runs l) : P.stmts.length ≤ 80 := by
  have h1 := h.1
  unfold PP.err1 at h1
  cases hb : P.big with
  | true => rw [hb] at h1; simp at h1
  | false => unfold PP.big at hb; simp at hb; omega
def newOf (P : PP) (l : List Int) : List Int := ((l.map Int.toNat).filter P.isNew).map Int.ofNat
def RunOut (P : PP) (l : List Int) (n0 : Nat) (w : World) (sv ev : Value) : Prop :=
  (P.Runs l ∧ ev = .nilIface ∧ ∃ a1 a2 a3 c1 c2 c3, sv = .agg #[.slice a1 (Rn.run P (l.map Int.toNat)).vars.length c1, .slice a2 (newOf P l).length c2, .slice a3 (newOf P l).length c3] ∧
    w.ownsRow n0 3 1 (.slice a3 (newOf P l).length c3) (newOf P l).length (icells (newOf P l))) ∨
  (¬ P.Runs l ∧ sv = zeroS ∧ ∃ t x, ev = .iface t (.pointer (some x)))
theorem RunOut.ext {P : PP} {l : List Int} {n0 : Nat} {w w' : World} {sv ev : Value} (h : RunOut P l n0 w sv ev) (x : Ext w w') : RunOut P l n0 w' sv ev := by
  rcases h with ⟨h1, h2, a1, a2, a3, c1, c2, c3, h3, h4⟩ | h
  · exact .inl ⟨h1, h2, a1, a2, a3, c1, c2, c3, h3, own_ext h4 x⟩
  · exact .inr h
theorem RunOut.low {P : PP} {l : List Int} {n0 n1 : Nat} {w : World} {sv ev : Value} (h : RunOut P l n0 w sv ev) (hn : n1 ≤ n0) : RunOut P l n1 w sv ev := by
  rcases h with ⟨h1, h2, a1, a2, a3, c1, c2, c3, h3, h4⟩ | h
  · exact .inl ⟨h1, h2, a1, a2, a3, c1, c2, c3, h3, own_low h4 hn⟩
  · exact .inr h
theorem RunOut.form {P : PP} {l : List Int} {n0 : Nat} {w : World} {sv ev : Value} (h : RunOut P l n0 w sv ev) : ∃ a1 n1 c1 a2 n2 c2 a3 n3 c3, sv = .agg #[.slice a1 n1 c1, .slice a2 n2 c2, .slice a3 n3 c3] := by
  rcases h with ⟨h1, h2, a1, a2, a3, c1, c2, c3, h3, h4⟩ | ⟨_, h, _⟩
  · exact ⟨_, _, _, _, _, _, _, _, _, h3⟩
  · exact ⟨_, _, _, _, _, _, _, _, _, h⟩
end Go.Proofs.YtbagppdibncfdaaGreatDoor
