/- Texts of one proof, put together: LP V4 V7 V8. -/
import Derived.Test.YtkabgmohgjljkaaDoorMB13
import Derived.Test.YtkabgmohgjljkaaDoorMB16

/- Links: what lies where in LinkOnce. -/
namespace Go.Proofs.YtkabgmohgjljkaaDoor
set_option linter.unusedSimpArgs false
set_option linter.unusedVariables false
open Go Go.RowKit

theorem own_nilSrc {w : World} {base : Nat} {t e : TypeId} {i : TypeInfo} {size n : Nat} {v : Value} {xs : List Value} (ht : Tryd.prog.underlying t = some (.slice e)) (hi : Tryd.prog.info? e = some i) (h : w.ownsRow base e size v n xs) (ty : TypeId) (c : Nat) : (Builtin.append_ #[t, t] ty #[v, .slice none 0 c]).run Tryd.prog w = .ok v w := by
  rcases h.2 with ⟨h2, h3⟩ | ⟨g, cap, cur, h2, _, _, hnc, _⟩
  · subst h2
    simp [Builtin.append_, run_underlying ht, sizeOf, typeInfo, hi, Builtin.lenOf, Builtin.firstCells]
  · subst h2
    simp [Builtin.append_, run_underlying ht, sizeOf, typeInfo, hi, Builtin.lenOf, Builtin.firstCells, hnc, storeCells]
/-- Cells that lie at an address. -/
structure Src (w : World) (a : Option Addr) (m : Nat) (size : Nat) (us : List Value) : Prop where
  len : us.length = m * size
  sm : 0 < m → ∃ x, a = some x
  cl : ∀ x, a = some x → ∀ j u, us[j]? = some u → w.cell? (x.add j) = some u
  one : ∀ u ∈ us, u.oneCell' = true
theorem run_append_src (w : World) (base : Nat) (hbase : base ≤ w.heap.size) (t e : TypeId) (z : Value) (size bytes : Nat) (ht : Tryd.prog.underlying t = some (.slice e)) (hinf : (Tryd.prog.info? e).map (fun i => (i.zero, i.size, i.bytes)) = some (some z, size, bytes)) (hz1 : z.cells.size = size) (hsz : 0 < size) (hb8 : bytes ≤ 64) (ty : TypeId)
    (v : Value) (n : Nat) (xs : List Value) (hown : w.ownsRow base e size v n xs) (a : Option Addr) (m c : Nat) (us : List Value) (hs : Src w a m size us) (hl : n + m ≤ 1000000) :
    ∃ v' w', (Builtin.append_ #[t, t] ty #[v, .slice a m c]).run Tryd.prog w = .ok v' w' ∧ w'.ownsRow base e size v' (n + m) (xs ++ us) ∧ Keep (fun k => v.ownBlock = some k) w w' ∧ ∀ k, v'.ownBlock = some k → v.ownBlock = some k ∨ w.heap.size ≤ k := by
  obtain ⟨ti, hi, hz0, hz, hz2⟩ := info_parts hinf
  rcases a with _ | ad
  · have hm : m = 0 := by
      rcases Nat.eq_zero_or_pos m with h0 | h0
      · exact h0
      · obtain ⟨x, hx⟩ := hs.sm h0; cases hx
    subst hm
    obtain rfl : us = [] := List.eq_nil_of_length_eq_zero (by have := hs.len; omega)
    exact ⟨v, w, own_nilSrc ht hi hown ty c, by simpa using hown, Keep.refl _ _, fun k hk => .inl hk⟩
  · obtain ⟨v', w', hr, h2, h3, _, h4⟩ := run_append_own_at (P := Tryd.prog) w base t ty e ti z size bytes ht hi hz0 hz hz2 hz1 hsz v n xs hown ad m c us hs.len (hs.cl ad rfl) hs.one (by simp only [maxLen]; omega) (by
      have : (n + m) * bytes ≤ (n + m) * 64 := Nat.mul_le_mul_left _ hb8
      omega) hbase
    refine ⟨v', w', hr, h2, grown_keep h3, fun k hk => ?_⟩
    rcases h4 with h4 | h4
    · exact .inl (h4 ▸ hk)
    · rw [h4] at hk
      have := Option.some.inj hk
      exact .inr (by omega)
theorem wpList_append_src {ops : Array Oper} {Q : Exit → Act → World → Prop} {rest : List Oper} {o : Oper} {a : Act} {w : World} (base : Nat) (hbase : base ≤ w.heap.size) (t e : TypeId) (z : Value) (size bytes : Nat) (ht : Tryd.prog.underlying t = some (.slice e)) (hinf : (Tryd.prog.info? e).map (fun i => (i.zero, i.size, i.bytes)) = some (some z, size, bytes)) (hz1 : z.cells.size = size) (hsz : 0 < size)
    (hb8 : bytes ≤ 64) (hg : o.guard = none) (s x : Operand) (ho : o.op = .call { callee := .builtin .append, args := #[s, x], argTypes := #[t, t] })
    (v : Value) (n : Nat) (xs : List Value) (hs : a.eval s = v) (hown : w.ownsRow base e size v n xs) (ad : Option Addr) (m c : Nat) (us : List Value) (hx : a.eval x = .slice ad m c) (hsrc : Src w ad m size us) (hl : n + m ≤ 1000000)
    (h : ∀ v' w', w'.ownsRow base e size v' (n + m) (xs ++ us) → Keep (fun k => v.ownBlock = some k) w w' → (∀ k, v'.ownBlock = some k → v.ownBlock = some k ∨ w.heap.size ≤ k) → wpList Tryd.prog ops Q rest (a.put o.dst v') w') : wpList Tryd.prog ops Q (o :: rest) a w := by
  obtain ⟨v', w', hr, h2, h3, h4⟩ := run_append_src w base hbase t e z size bytes ht hinf hz1 hsz hb8 o.type v n xs hown ad m c us hsrc hl
  refine wpList_plain hg fun K hK => ?_
  unfold Oper.wp
  rw [run_exec_append s x t ho hs hx hr]
  exact hK _ _ (h v' w' h2 h3 h4)
theorem Src.ints {w : World} {a : Option Addr} {m : Nat} {vs : List Int} (h : Ints w a m vs) : Src w a m 1 (icells vs) := by
  refine ⟨by simp [icells, h.ln], h.sm, fun x hx j u hu => ?_, icells_one⟩
  simp only [icells, List.getElem?_map] at hu
  have hj : j < vs.length := by
    rcases Nat.lt_or_ge j vs.length with h1 | h1
    · exact h1
    · rw [List.getElem?_eq_none h1] at hu; cases hu
  rw [h.cl x hx j (by have := h.ln; omega), List.getD_eq_getElem?_getD, List.getElem?_eq_getElem hj]
  rw [List.getElem?_eq_getElem hj] at hu
  exact hu
theorem FV.one {w : World} {n0 : Nat} {t : Option Nat} {fs : List FV} (h : ∀ x ∈ fs, x.At w n0 t) : ∀ u ∈ fs.flatMap FV.cells, u.oneCell' = true := by
  intro u hu
  obtain ⟨x, hx, hu⟩ := List.mem_flatMap.1 hu
  obtain ⟨a, c, _, hv, _⟩ := (h x hx).form
  simp only [FV.cells, hv, List.mem_cons, List.not_mem_nil, or_false] at hu
  rcases hu with rfl | rfl | rfl | rfl | rfl <;> rfl
/-- A part of a row of frames. -/
theorem Src.part {w : World} {n0 : Nat} {t : Option Nat} {base g n cap : Nat} {e : TypeId} {fs : List FV} (h : FRow w n0 t base e (.slice (some ⟨g, 0, none⟩) n cap) fs) (hn : fs.length = n) (i m : Nat) (him : i + m ≤ n) : Src w (some ⟨g, i * 5, none⟩) m 5 (((fs.drop i).take m).flatMap FV.cells) := by
  have hr := h.row
  rw [hn] at hr
  refine ⟨?_, fun _ => ⟨_, rfl⟩, fun x hx j u hu => ?_, FV.one (w := w) (n0 := n0) (t := t) fun x hx => h.nums x (List.mem_of_mem_drop (List.mem_of_mem_take hx))⟩
  · rw [fm_len FV.cells 5 FV.cells_len]
    simp
    omega
  · obtain rfl := Option.some.inj hx
    rw [show (⟨g, i * 5, none⟩ : Addr).add j = ⟨g, i * 5 + j, none⟩ from by by_cases h0 : j = 0 <;> simp [Addr.add, h0]]
    refine own_get hr _ ?_
    rw [← fm_take FV.cells 5 FV.cells_len, ← fm_drop FV.cells 5 FV.cells_len, List.getElem?_take, List.getElem?_drop] at hu
    split at hu
    · exact hu
    · cases hu
theorem Src.head {w : World} {n0 : Nat} {t : Option Nat} {base g n cap : Nat} {e : TypeId} {fs : List FV} (h : FRow w n0 t base e (.slice (some ⟨g, 0, none⟩) n cap) fs) (hn : fs.length = n) (k : Nat) (hk : k ≤ n) : Src w (some ⟨g, 0, none⟩) k 5 ((fs.take k).flatMap FV.cells) := by
  have := Src.part h hn 0 k (by omega)
  rwa [List.drop_zero, Nat.zero_mul] at this
theorem Src.tail {w : World} {n0 : Nat} {t : Option Nat} {base g n cap : Nat} {e : TypeId} {fs : List FV} (h : FRow w n0 t base e (.slice (some ⟨g, 0, none⟩) n cap) fs) (hn : fs.length = n) (k : Nat) (hk : k ≤ n) : Src w (some ⟨g, k * 5, none⟩) (n - k) 5 ((fs.drop k).flatMap FV.cells) := by
  have := Src.part h hn k (n - k) (by omega)
  rwa [List.take_of_length_le (by simp; omega)] at this
theorem Src.zero (w : World) (ad : Addr) (nets : List FV) (kk : Nat) (h : nets.length ≤ kk + 1) : Src w (some ad) (nets.length - (kk + 1)) 5 ((nets.drop (kk + 1)).flatMap FV.cells) := by
  have h1 : nets.drop (kk + 1) = [] := List.drop_of_length_le h
  rw [h1]
  exact ⟨by simp; omega, fun _ => ⟨_, rfl⟩, fun x _ j u hu => by simp at hu, fun u hu => by simp at hu⟩
theorem Src.all {w : World} {n0 : Nat} {t : Option Nat} {base n cap : Nat} {a : Option Addr} {e : TypeId} {fs : List FV} (h : FRow w n0 t base e (.slice a n cap) fs) (hn : fs.length = n) : Src w a n 5 (fs.flatMap FV.cells) := by
  rcases Nat.eq_zero_or_pos n with h0 | h0
  · subst h0
    obtain rfl := List.eq_nil_of_length_eq_zero hn
    exact ⟨rfl, fun h => by omega, fun x _ j u hu => by simp at hu, fun u hu => by simp at hu⟩
  · have hr := h.row
    obtain ⟨g, cp, he⟩ := own_some hr (by omega)
    simp only [Value.slice.injEq] at he
    obtain ⟨rfl, _, rfl⟩ := he
    have := Src.part h hn 0 n (by omega)
    rw [List.drop_zero, List.take_of_length_le (by omega), Nat.zero_mul] at this
    exact this

theorem FRow.getp {w : World} {n0 : Nat} {t : Option Nat} {base g n cap : Nat} {e : TypeId} {fs : List FV} (h : FRow w n0 t base e (.slice (some ⟨g, 0, none⟩) n cap) fs) (hn : fs.length = n) {j : Nat} {x : FV} (hx : fs[j]? = some x) :
    w.cell? ⟨g, j * 5, none⟩ = some (.int .u8 (x.f.kind.toNat : Int)) ∧ w.cell? ⟨g, j * 5 + 1, none⟩ = some (.int .i64 x.f.fr) ∧ w.cell? ⟨g, j * 5 + 2, none⟩ = some (.int .i64 x.f.to) ∧ w.cell? ⟨g, j * 5 + 3, none⟩ = some (.int .i64 x.f.seq) ∧ w.cell? ⟨g, j * 5 + 4, none⟩ = some x.v := by
  have hr := h.row
  rw [hn] at hr
  have c : ∀ i v, (FV.cells x)[i]? = some v → i < 5 → w.cell? ⟨g, j * 5 + i, none⟩ = some v := fun i v hv hi => own_get hr _ ((fm_get FV.cells 5 FV.cells_len fs j i x hx hi).trans hv)
  exact ⟨c 0 _ rfl (by omega), c 1 _ rfl (by omega), c 2 _ rfl (by omega), c 3 _ rfl (by omega), c 4 _ rfl (by omega)⟩
/-- Told turns: all else stays. -/
theorem Wr.told {w : World} {n0 : Nat} {t : Option Nat} (h : ∀ b, t = some b → n0 ≤ b) : Wr w n0 t fun b => t = some b := fun b hb _ => ⟨h b hb, fun _ => hb⟩
structure Told (w w' : World) (n0 : Nat) (t t' : Option Nat) : Prop where
  keep : Keep (fun b => t = some b) w w'
  lo : ∀ b, t = some b → n0 ≤ b
  int : ∀ b, t = some b → IsInt w b
  new : ∀ b, t' = some b → t = some b ∨ w.heap.size ≤ b
theorem NumsAt.told {w w' : World} {n0 : Nat} {t t' : Option Nat} {v : Value} {l : List Int} (h : NumsAt w n0 t v l) (k : Told w w' n0 t t') : NumsAt w' n0 t' v l := by
  obtain ⟨a, cap, rfl, hi, hb⟩ := h
  have hne : ∀ x, a = some x → 0 < l.length → ¬ t = some x.block := fun x hx hl e => by
    rcases hb x hx hl with h1 | h1
    · have := k.lo _ e; omega
    · exact h1.2 e
  refine ⟨a, cap, rfl, hi.keep k.keep hne, fun x hx hl => (hb x hx hl).imp id fun h1 => ⟨h1.1.keep k.keep (hne x hx hl), fun e => ?_⟩⟩
  rcases k.new _ e with h2 | h2
  · exact h1.2 h2
  · have := hi.blt hx hl; omega
theorem Told.ne {w w' : World} {n0 : Nat} {t t' : Option Nat} (k : Told w w' n0 t t') {b : Nat} {c : Array Value} {e : TypeId} (hb : Blk w b c e) (hne : e ≠ 3) : ¬ t = some b := fun h => IsInt.not hb hne (k.int b h)
theorem SndAt.told {w w' : World} {n0 : Nat} {t t' : Option Nat} {p : Nat} {s : Snd} {lv : Value} {ks : List (FV × Int)} (h : SndAt w n0 t p s lv ks) (k : Told w w' n0 t t') : SndAt w' n0 t' p s lv ks :=
  ⟨h.hp.keep k.keep (k.ne h.hp (by decide)), row_keep h.hl k.keep (fun b hb => by
    obtain ⟨c, hc⟩ := own_ty h.hl hb
    exact k.ne hc (by decide)), fun x hx => NumsAt.told (h.hn x hx) k, h.eq, h.lo⟩
theorem RcvAt.told {w w' : World} {n0 : Nat} {t t' : Option Nat} {q b : Nat} {r : Rcv} {ms : List FV} (h : RcvAt w n0 t q b r ms) (k : Told w w' n0 t t') : RcvAt w' n0 t' q b r ms :=
  ⟨h.hp.keep k.keep (k.ne h.hp (by decide)), h.hm.keep k.keep (fun e => by
    obtain ⟨es, c, hb, _⟩ := h.hm
    obtain ⟨c', z, hi⟩ := k.int b e
    rw [hb] at hi
    cases hi), fun x hx => NumsAt.told (h.hn x hx) k, h.eq, h.lo⟩
theorem FRow.told {w w' : World} {n0 : Nat} {t t' : Option Nat} {base : Nat} {e : TypeId} {v : Value} {fs : List FV} (h : FRow w n0 t base e v fs) (k : Told w w' n0 t t') (he : e ≠ 3) : FRow w' n0 t' base e v fs :=
  ⟨row_keep h.row k.keep (fun b hb => by
    obtain ⟨c, hc⟩ := own_ty h.row hb
    exact k.ne hc he), fun x hx => NumsAt.told (h.nums x hx) k⟩

/-- What lies where, while the law goes on: d are told, e are due. -/
structure LOn (w0 : World) (N : List Int) (n p q b a d e : Nat) (now c : Int) (r : Rcv) (nv tv : Value) (nets : List FV) (wr : World) : Prop where
  ext : Ext w0 wr
  snd : ∃ lv ks, SndAt wr w0.heap.size tv.ownBlock p (osn N n a now c) lv ks
  rcv : ∃ ms, RcvAt wr w0.heap.size tv.ownBlock q b r ms
  net : FRow wr w0.heap.size tv.ownBlock w0.heap.size 48 nv nets
  told : IRow w0.heap.size wr tv (N.take d)
  orc : ORcv N n e r
  st : Rcv.find r.wait r.due = none
  all : ∀ x ∈ nets, ∃ j, j < n ∧ x.f = ofr N j
  ae : a ≤ e
  de : d ≤ e
  c0 : 0 ≤ c
  c1 : c ≤ now
  c2 : now ≤ c + 2
section
variable {w0 : World} {N : List Int} {n p q b a d e : Nat} {now c : Int} {r : Rcv} {nv tv : Value} {nets : List FV} {wr : World}
theorem LOn.on (h : LOn w0 N n p q b a d e now c r nv tv nets wr) {w' : World} (x : Ext wr w') : LOn w0 N n p q b a d e now c r nv tv nets w' := by
  obtain ⟨lv, ks, hs⟩ := h.snd
  obtain ⟨ms, hr⟩ := h.rcv
  exact ⟨h.ext.trans x, ⟨lv, ks, hs.ext x⟩, ⟨ms, hr.ext x⟩, h.net.ext x, h.told.ext x, h.orc, h.st, h.all, h.ae, h.de, h.c0, h.c1, h.c2⟩
theorem LOn.tlt (h : LOn w0 N n p q b a d e now c r nv tv nets wr) : ∀ k, tv.ownBlock = some k → w0.heap.size ≤ k ∧ k < wr.heap.size := fun _ hk => h.told.lt hk
theorem LOn.tint (h : LOn w0 N n p q b a d e now c r nv tv nets wr) : ∀ k, tv.ownBlock = some k → ∃ c, Blk wr k c 3 := fun _ hk => own_ty (show wr.ownsRow w0.heap.size 3 1 tv _ (icells (N.take d)) from h.told) hk
/-- What is written of the sender does no harm. -/
theorem LOn.by_snd (h : LOn w0 N n p q b a d e now c r nv tv nets wr) {w' : World} {lv lv' : Value} {ks ks' : List (FV × Int)} (hs : SndAt wr w0.heap.size tv.ownBlock p (osn N n a now c) lv ks) (k : Keep (fun g => g = p ∨ lv.ownBlock = some g) wr w') {a' : Nat} {now' c' : Int} (hs' : SndAt w' w0.heap.size tv.ownBlock p (osn N n a' now' c') lv' ks')
    (hae : a' ≤ e) (h0 : 0 ≤ c') (h1 : c' ≤ now') (h2 : now' ≤ c' + 2) : LOn w0 N n p q b a' d e now' c' r nv tv nets w' := by
  obtain ⟨ms, hr⟩ := h.rcv
  have hwr : Wr wr w0.heap.size tv.ownBlock fun g => g = p ∨ lv.ownBlock = some g := (Wr.blk hs.hp (by decide) hs.lo).or (Wr.row hs.hl (by decide))
  have hX : ∀ (g : Nat) (c : Array Value) (ty : TypeId), Blk wr g c ty → ty ≠ 88 → ty ≠ 97 → ¬ (g = p ∨ lv.ownBlock = some g) := fun g c ty hb h1 h2 e => by
    rcases e with e | e
    · subst e; exact h1 (hb.inj hs.hp).2
    · obtain ⟨c', hc'⟩ := own_ty hs.hl e
      exact h2 (hb.inj hc').2
  refine ⟨hs.ext_of h.ext k, ⟨lv', ks', hs'⟩, ⟨ms, RcvAt.beside hs hr k⟩, h.net.keep k hwr fun g hg => ?_, h.told.keep k fun g hg => ?_, h.orc, h.st, h.all, hae, h.de, h0, h1, h2⟩
  · obtain ⟨cc, hc⟩ := own_ty h.net.row hg
    exact hX g cc _ hc (by decide) (by decide)
  · obtain ⟨cc, hc⟩ := h.tint g hg
    exact hX g cc _ hc (by decide) (by decide)
theorem LOn.tick (h : LOn w0 N n p q b a d e now c r nv tv nets wr) (hn : n ≤ 40) (hw : now ≤ 900) :
    Calls Tryd.prog 18 #[.pointer (some ⟨p, 0, none⟩)] wr fun ee w' => ∃ ov outs, ee = .returned ov ∧ LOn w0 N n p q b a d e (now + 1) (if now + 1 - c = 3 then now + 1 else c) r nv tv nets w' ∧ FRow w' w0.heap.size tv.ownBlock wr.heap.size 48 ov outs ∧ outs.map FV.f = if now + 1 - c = 3 then (List.range' a (n - a)).map (ofr N) else [] := by
  obtain ⟨lv, ks, hs⟩ := h.snd
  have h0 := h.c0
  have h1 := h.c1
  have h2 := h.c2
  refine (tick_any (osn N n a now c) 1000 (osn_ok N n a now c hn h0 h1 (by omega)) (by omega) wr w0.heap.size tv.ownBlock p lv ks hs h.ext.size (fun k hk => (h.tlt k hk).2) (fun x hx => osn_nums N n a now c (x.1.f, x.2) (by rw [hs.eq]; exact List.mem_map.2 ⟨x, hx, rfl⟩))).mono fun ee w' hx => ?_
  obtain ⟨ov, outs, ks', e1, e2, e3, e4, e5⟩ := hx
  rw [osn_tick] at e2
  rw [osn_again] at e4
  refine ⟨ov, outs, e1, h.by_snd hs e5 e2 h.ae ?_ ?_ ?_, e3, e4⟩
  · split <;> omega
  · split <;> omega
  · split <;> omega
theorem LOn.acked (h : LOn w0 N n p q b a d e now c r nv tv nets wr) (hn : n ≤ 40) (han : a ≤ n) :
    Calls Tryd.prog 20 #[.pointer (some ⟨p, 0, none⟩), .int .i64 (e : Int)] wr fun ee w' => ee = .returned (.tuple #[]) ∧ LOn w0 N n p q b e d e now c r nv tv nets w' := by
  obtain ⟨lv, ks, hs⟩ := h.snd
  have hl : (osn N n a now c).l.length ≤ 200 := by simp [osn]; omega
  refine (acked_any (osn N n a now c) (e : Int) wr w0.heap.size tv.ownBlock p lv ks hs hl).mono fun ee w' hx => ?_
  obtain ⟨e1, lv', ks', e2, e3⟩ := hx
  rw [osn_acked N n a e now c h.ae han h.orc.le] at e2
  exact ⟨e1, h.by_snd hs e3 e2 (Nat.le_refl _) h.c0 h.c1 h.c2⟩
theorem LOn.due (h : LOn w0 N n p q b a d e now c r nv tv nets wr) : Calls Tryd.prog 26 #[.pointer (some ⟨q, 0, none⟩)] wr fun ee w' => ee = .returned (.int .i64 (e : Int)) ∧ wr = w' := by
  obtain ⟨ms, hr⟩ := h.rcv
  have := due_any wr _ _ _ _ _ _ hr
  rwa [h.orc.due] at this
theorem LOn.take (h : LOn w0 N n p q b a d e now c r nv tv nets wr) (hn : n ≤ 40) (hv : ∀ k, k < n → 0 ≤ N.getD k 0 ∧ N.getD k 0 ≤ 2147483648) (x : FV) (hx : x.At wr w0.heap.size tv.ownBlock) (j : Nat) (hj : j < n) (hxj : x.f = ofr N j) (ev : Nat → Value) (he : ErrsC w0 ev) (hev : ∀ c, c ≠ 0 → ∃ t v, ev c = .iface t v) :
    Calls Tryd.prog 22 #[.pointer (some ⟨q, 0, none⟩), x.val] wr fun ee w' => ∃ ov outs e' r', ee = .returned (.tuple #[ov, .nilIface]) ∧ LOn w0 N n p q b a d e' now c r' nv tv nets w' ∧ FRow w' w0.heap.size tv.ownBlock wr.heap.size 48 ov outs ∧ outs.map FV.f = (List.range' e (e' - e)).map (ofr N) ∧ e ≤ e' ∧ (j ≤ e → j + 1 ≤ e') ∧ ∀ base v fs, FRow wr w0.heap.size tv.ownBlock base 48 v fs → FRow w' w0.heap.size tv.ownBlock base 48 v fs := by
  obtain ⟨ms, hr⟩ := h.rcv
  obtain ⟨lv, ks, hs⟩ := h.snd
  obtain ⟨ax, cx, hval, hxv, hxi⟩ := hx.form
  obtain ⟨hr0, hrt⟩ := took_take h.orc hj (by omega) hv
  obtain ⟨e', r', g1, g2, g3, g4, g5⟩ := took_of h.orc h.st hj
  have hdu := h.orc.due
  have hle := h.orc.le
  rw [hval]
  refine (take_any r x.f ax cx wr w0.heap.size tv.ownBlock q b ms hr hxi (by rw [hxj]; simp [ofr]) ev (he.ext h.ext) hev (by omega) (by omega) h.ext.size (fun k hk => (h.tlt k hk).2) h.orc.len (fun g hg => by
    obtain ⟨i, _, rfl⟩ := h.orc.wait g hg
    simp [ofr])).mono fun ee w' hy => ?_
  obtain ⟨ov, outs, ms', e1, e2, e3, e4, e5⟩ := hy
  rw [hxj, hr0] at e1
  rw [hxj, hrt, g1] at e2 e4
  have hwr : Wr wr w0.heap.size tv.ownBlock fun g => g = q ∨ g = b := (Wr.blk hr.hp (by decide) hr.lo.1).or (Wr.map hr.hm hr.lo.2)
  have hX : ∀ (g : Nat) (c : Array Value) (ty : TypeId), Blk wr g c ty → ty ≠ 91 → ¬ (g = q ∨ g = b) := fun g c ty hb h1 ee => by
    rcases ee with ee | ee
    · subst ee; exact h1 (hb.inj hr.hp).2
    · exact hr.hm.qne hb ee
  refine ⟨ov, outs, e', r', e1, ⟨hr.ext_of h.ext e5, ⟨lv, ks, SndAt.beside hs hr e5⟩, ⟨ms', e2⟩, h.net.keep e5 hwr fun g hg => ?_, h.told.keep e5 fun g hg => ?_, g2, g5, h.all, Nat.le_trans h.ae g3, Nat.le_trans h.de g3, h.c0, h.c1, h.c2⟩, e3, e4, g3, g4, fun base v fs hF => hF.keep e5 hwr fun g hg => ?_⟩
  · obtain ⟨cc, hc⟩ := own_ty h.net.row hg
    exact hX g cc _ hc (by decide)
  · obtain ⟨cc, hc⟩ := h.tint g hg
    exact hX g cc _ hc (by decide)
  · obtain ⟨cc, hc⟩ := own_ty hF.row hg
    exact hX g cc _ hc (by decide)
/-- One more is told. -/
theorem LOn.toldK (h : LOn w0 N n p q b a d e now c r nv tv nets wr) {w' : World} {tv' : Value} (k : Keep (fun g => tv.ownBlock = some g) wr w') (hn : ∀ g, tv'.ownBlock = some g → tv.ownBlock = some g ∨ wr.heap.size ≤ g) : Told wr w' w0.heap.size tv.ownBlock tv'.ownBlock :=
  ⟨k, fun g hg => (h.tlt g hg).1, fun g hg => by
    obtain ⟨cc, hc⟩ := h.tint g hg
    exact ⟨cc, _, hc⟩, hn⟩
theorem LOn.say (h : LOn w0 N n p q b a d e now c r nv tv nets wr) {w' : World} {tv' : Value} (k : Told wr w' w0.heap.size tv.ownBlock tv'.ownBlock) {d' : Nat} (ht : IRow w0.heap.size w' tv' (N.take d')) (hd : d' ≤ e) : LOn w0 N n p q b a d' e now c r nv tv' nets w' := by
  obtain ⟨lv, ks, hs⟩ := h.snd
  obtain ⟨ms, hr⟩ := h.rcv
  exact ⟨Keep.new h.ext k.keep fun g hg => k.lo g hg, ⟨lv, ks, hs.told k⟩, ⟨ms, hr.told k⟩, h.net.told k (by decide), ht, h.orc, h.st, h.all, h.ae, hd, h.c0, h.c1, h.c2⟩
/-- The frames that are under way turn. -/
theorem LOn.renet (h : LOn w0 N n p q b a d e now c r nv tv nets wr) {w' : World} {rv : Value} {m base : Nat} {xs : List Value} (hrv : wr.ownsRow base 48 5 rv m xs) (hb : w0.heap.size ≤ base) (k : Keep (fun g => rv.ownBlock = some g) wr w') {nv' : Value} {nets' : List FV} (hn : w'.ownsRow w0.heap.size 48 5 nv' nets'.length (nets'.flatMap FV.cells))
    (hnum : ∀ x ∈ nets', x.At wr w0.heap.size tv.ownBlock) (hall : ∀ x ∈ nets', ∃ j, j < n ∧ x.f = ofr N j) : LOn w0 N n p q b a d e now c r nv' tv nets' w' := by
  obtain ⟨lv, ks, hs⟩ := h.snd
  obtain ⟨ms, hr⟩ := h.rcv
  have hwr : Wr wr w0.heap.size tv.ownBlock fun g => rv.ownBlock = some g := Wr.row (own_base hrv hb) (by decide)
  have hX : ∀ (g : Nat) (c : Array Value) (ty : TypeId), Blk wr g c ty → ty ≠ 48 → ¬ rv.ownBlock = some g := fun g c ty hb h1 e => by
    obtain ⟨c', hc'⟩ := own_ty hrv e
    exact h1 (hb.inj hc').2
  refine ⟨Keep.new h.ext k fun g hg => Nat.le_trans hb (World.ownsRow.lt hrv g hg).1, ⟨lv, ks, hs.keep k hwr (hX _ _ _ hs.hp (by decide)) fun g hg => ?_⟩, ⟨ms, hr.keep k hwr (hX _ _ _ hr.hp (by decide)) fun e => ?_⟩, ⟨hn, fun x hx => NumsAt.keep (hnum x hx) k hwr⟩, h.told.keep k fun g hg => ?_, h.orc, h.st, hall, h.ae, h.de, h.c0, h.c1, h.c2⟩
  · obtain ⟨cc, hc⟩ := own_ty hs.hl hg
    exact hX g cc _ hc (by decide)
  · obtain ⟨c', hc'⟩ := own_ty hrv e
    exact hr.hm.qne hc' rfl
  · obtain ⟨cc, hc⟩ := h.tint g hg
    exact hX g cc _ hc (by decide)
end
theorem AllOf.mono {N : List Int} {n m : Nat} {l : List Fr} (h : AllOf N n l) (hn : n ≤ m) : AllOf N m l := fun f hf => by
  obtain ⟨j, hj, e⟩ := h f hf
  exact ⟨j, by omega, e⟩
/-- At the start: nothing was told yet, and the sender has sent i. -/
theorem LOn.sent {w0 : World} {N : List Int} {i p q b : Nat} {nv : Value} {nets : List FV} {wr w' : World} {r : Rcv} (h : LOn w0 N i p q b 0 0 0 0 0 r nv (.slice none 0 0) nets wr) {lv lv' : Value} {ks ks' : List (FV × Int)} (hs : SndAt wr w0.heap.size none p (oks N i) lv ks) (k : Keep (fun g => g = p ∨ lv.ownBlock = some g) wr w') (hs' : SndAt w' w0.heap.size none p (oks N (i + 1)) lv' ks') :
    LOn w0 N (i + 1) p q b 0 0 0 0 0 r nv (.slice none 0 0) nets w' := by
  rw [oks_osn] at hs hs'
  have h1 : LOn w0 N (i + 1) p q b 0 0 0 0 0 r nv (.slice none 0 0) nets wr → True := fun _ => trivial
  obtain ⟨ms, hr⟩ := h.rcv
  have hwr : Wr wr w0.heap.size none fun g => g = p ∨ lv.ownBlock = some g := (Wr.blk hs.hp (by decide) hs.lo).or (Wr.row hs.hl (by decide))
  refine ⟨hs.ext_of h.ext k, ⟨lv', ks', hs'⟩, ⟨ms, RcvAt.beside hs hr k⟩, h.net.keep k hwr fun g hg => ?_, h.told.keep k fun g hg => (by cases hg), ⟨h.orc.fr, h.orc.to, h.orc.due, by have := h.orc.le; omega, h.orc.wait.mono (by omega), h.orc.len⟩, h.st, fun x hx => ?_, Nat.le_refl _, Nat.le_refl _, by omega, by omega, by omega⟩
  · obtain ⟨cc, hc⟩ := own_ty h.net.row hg
    intro e
    rcases e with e | e
    · exact hc.ty_ne hs.hp (by decide) e
    · obtain ⟨c', hc'⟩ := own_ty hs.hl e
      exact hc.ty_ne hc' (by decide) rfl
  · obtain ⟨j, hj, e⟩ := h.all x hx
    exact ⟨j, by omega, e⟩
end Go.Proofs.YtkabgmohgjljkaaDoor


/- Programs that are copied: numbers, names. -/
namespace Go.Proofs.YtkabgmohgjljkaaDoor
set_option linter.unusedSimpArgs false
set_option linter.unusedVariables false
open Go Go.RowKit

theorem add_add (a : Addr) (i j : Nat) : (a.add i).add j = a.add (i + j) := by
  by_cases hi : i = 0
  · subst hi; simp [Addr.add]
  · by_cases hj : j = 0
    · subst hj; simp [Addr.add]
    · simp only [add_posU _ _ hi, add_posU _ _ hj, add_posU _ _ (show i + j ≠ 0 by omega)]
      congr 1
      omega
theorem IntsR.src {w : World} {n0 : Nat} {a : Option Addr} {n cap : Nat} {l : List Int} (h : IntsR w n0 (.slice a n cap) l) : Src w a n 1 (icells l) := by
  obtain ⟨a', cap', h1, h2, h3, h4, h5⟩ := h
  obtain ⟨rfl, rfl, rfl⟩ : a = a' ∧ n = l.length ∧ cap = cap' := by simpa using h1
  refine ⟨by simp [icells], h4, fun x hx j u hu => ?_, icells_one⟩
  have hj : j < l.length := by
    rcases Nat.lt_or_ge j l.length with h | h
    · exact h
    · rw [List.getElem?_eq_none (by simpa [icells] using h)] at hu; cases hu
  unfold icells at hu
  rw [List.getElem?_map, List.getElem?_eq_getElem hj] at hu
  obtain rfl := Option.some.inj hu
  exact (h5 x hx (by omega)).2 j hj _ (List.getElem?_eq_getElem hj)
theorem StrsR.src {w : World} {n0 : Nat} {a : Option Addr} {n cap : Nat} {l : List ByteArray} (h : StrsR w n0 (.slice a n cap) l) : Src w a n 1 (l.map .string) := by
  obtain ⟨a', cap', h1, h2, h3, h4, h5⟩ := h
  obtain ⟨rfl, rfl, rfl⟩ : a = a' ∧ n = l.length ∧ cap = cap' := by simpa using h1
  refine ⟨by simp, h4, fun x hx j u hu => ?_, fun u hu => ?_⟩
  · have hj : j < l.length := by
      rcases Nat.lt_or_ge j l.length with h | h
      · exact h
      · rw [List.getElem?_eq_none (by simpa using h)] at hu; cases hu
    rw [List.getElem?_map, List.getElem?_eq_getElem hj] at hu
    obtain rfl := Option.some.inj hu
    exact (h5 x hx (by omega)).2 j hj _ (List.getElem?_eq_getElem hj)
  · obtain ⟨s, _, rfl⟩ := List.mem_map.1 hu
    rfl
set_option maxRecDepth 100000 in
set_option maxHeartbeats 800000 in
theorem ownintsR_any (v : Value) (l : List Int) (w : World) (n0 : Nat) (h : IntsR w n0 v l) (hl : l.length ≤ 1000) :
    Calls Tryd.prog 12 #[v] w fun e w' => ∃ v', e = .returned v' ∧ Ext w w' ∧ w'.ownsRow w.heap.size 3 1 v' l.length (icells l) := by
  obtain ⟨a, cap, rfl, h'⟩ := id h
  have Hs := hid h.src
  have hl2 : 0 + l.length ≤ 1000000 := by omega
  clear h h'
  go_enter Tryd.func12, Tryd.ntmps12
  go_wp2_with (at_builtin; refine wpList_append_src w.heap.size (Nat.le_refl _) 43 3 (.int .i64 0) 1 8 Tryd.underlying43 ints_info rfl (by omega) (by omega) rfl _ _ rfl (.slice none 0 0) 0 [] rfl (World.ownsRow_nil _ _ _ _) a l.length cap (icells l) rfl Hs.out hl2 ?_; intro v' w' h1 h2 h4; have h3 := Keep.new (Ext.refl w) h2 (fun k hk => by cases hk))
  go_ret
  exact ⟨_, rfl, h3, by simpa using h1⟩

/-- Numbers in a block of numbers, wherever it is. -/
def IntsT (w : World) (v : Value) (l : List Int) : Prop := IntsR w w.heap.size v l ∧ ∀ b, v.ownBlock = some b → IsInt w b
theorem IntsT.of_row {w : World} {base : Nat} {v : Value} {l : List Int} (h : w.ownsRow base 3 1 v l.length (icells l)) : IntsT w v l :=
  ⟨IntsR.own h (Nat.le_refl _), fun b hb => by
    obtain ⟨c, hc⟩ := own_ty h hb
    exact ⟨c, _, hc⟩⟩
theorem IntsT.keep {X : Nat → Prop} {w w' : World} {v : Value} {l : List Int} (h : IntsT w v l) (k : Keep X w w') (hX : ∀ b, X b → ¬ IsInt w b) : IntsT w' v l := by
  obtain ⟨⟨a, cap, h1, h2, h3, h4, h5⟩, hi⟩ := h
  subst h1
  refine ⟨⟨a, cap, rfl, h2, h3, h4, fun y hy h0 => ⟨Nat.lt_of_lt_of_le (h5 y hy h0).1 k.size, fun i hl s hs => ?_⟩⟩, fun b hb => (hi b hb).keep k fun hx => hX b hx (hi b hb)⟩
  subst hy
  exact k.cellx ((h5 y rfl h0).2 i hl s hs) fun hx => hX _ hx (by rw [add_block]; exact hi y.block rfl)
theorem IntsT.ext {w w' : World} {v : Value} {l : List Int} (h : IntsT w v l) (x : Ext w w') : IntsT w' v l := h.keep (x.keep fun _ => False) fun _ h => h.elim
theorem IntsT.form {w : World} {v : Value} {l : List Int} (h : IntsT w v l) : ∃ a c, v = .slice a l.length c := by
  obtain ⟨⟨a, cap, h1, _⟩, _⟩ := h
  exact ⟨a, cap, h1⟩
/-- A function, a statement, with the slice in which its numbers lie. -/
structure F2 where
  f : PF
  v : Value
def F2.cells (x : F2) : List Value := [.string x.f.name, x.v, .int .i64 x.f.ret]
theorem F2.cells_len (x : F2) : x.cells.length = 3 := rfl
structure S2 where
  s : PS
  v : Value
def S2.cells (x : S2) : List Value := [.string x.s.kind, .int .i64 x.s.x, .int .i64 x.s.y, x.v]
theorem S2.cells_len (x : S2) : x.cells.length = 4 := rfl
theorem FunsR.own {w : World} {base : Nat} {v : Value} {fs : List F2} {l : List PF} (h : w.ownsRow base 110 3 v fs.length (fs.flatMap F2.cells)) (hl : fs.map F2.f = l) (hn : ∀ x ∈ fs, IntsT w x.v x.f.params) : FunsR w w.heap.size v l := by
  have hll : l.length = fs.length := by rw [← hl, List.length_map]
  unfold FunsR
  rw [hll]
  refine ElR.own h (Nat.le_refl _) fun g hc i hi f hf => ?_
  rw [← hl, List.getElem?_map] at hf
  obtain ⟨x, hx, rfl⟩ := Option.map_eq_some_iff.1 hf
  have c : ∀ j u, x.cells[j]? = some u → j < 3 → w.cell? (((⟨g, 0, none⟩ : Addr).add (i * 3)).add j) = some u := fun j u hu hj => by
    rw [add_add]
    exact hc _ _ ((fm_get F2.cells 3 F2.cells_len fs i j x hx hj).trans hu)
  exact ⟨x.v, by simpa [Addr.add] using c 0 _ rfl (by omega), c 1 _ rfl (by omega), c 2 _ rfl (by omega), (hn x (List.mem_of_getElem? hx)).1⟩
theorem StmtsR.own {w : World} {base : Nat} {v : Value} {ss : List S2} {l : List PS} (h : w.ownsRow base 83 4 v ss.length (ss.flatMap S2.cells)) (hl : ss.map S2.s = l) (hn : ∀ x ∈ ss, IntsT w x.v x.s.args) : StmtsR w w.heap.size v l := by
  have hll : l.length = ss.length := by rw [← hl, List.length_map]
  unfold StmtsR
  rw [hll]
  refine ElR.own h (Nat.le_refl _) fun g hc i hi f hf => ?_
  rw [← hl, List.getElem?_map] at hf
  obtain ⟨x, hx, rfl⟩ := Option.map_eq_some_iff.1 hf
  have c : ∀ j u, x.cells[j]? = some u → j < 4 → w.cell? (((⟨g, 0, none⟩ : Addr).add (i * 4)).add j) = some u := fun j u hu hj => by
    rw [add_add]
    exact hc _ _ ((fm_get S2.cells 4 S2.cells_len ss i j x hx hj).trans hu)
  exact ⟨x.v, by simpa [Addr.add] using c 0 _ rfl (by omega), c 1 _ rfl (by omega), c 2 _ rfl (by omega), c 3 _ rfl (by omega), (hn x (List.mem_of_getElem? hx)).1⟩
theorem fun_info : (Tryd.prog.info? 110).map (fun i => (i.zero, i.size, i.bytes)) = some (some (.agg #[.string ⟨#[]⟩, .slice none 0 0, .int .i64 0]), 3, 48) := by kernel_rfl
theorem stmt_info : (Tryd.prog.info? 83).map (fun i => (i.zero, i.size, i.bytes)) = some (some (.agg #[.string ⟨#[]⟩, .int .i64 0, .int .i64 0, .slice none 0 0]), 4, 56) := by kernel_rfl
end Go.Proofs.YtkabgmohgjljkaaDoor


/- Runs: the law's own small run. -/
namespace Go.Proofs.YtkabgmohgjljkaaDoor
set_option linter.unusedSimpArgs false
set_option linter.unusedVariables false
open Go Go.RowKit

def ranP : PP := ⟨[⟨#[97]⟩, ⟨#[98]⟩], [], [⟨⟨#[97, 100, 100, 114]⟩, 0, 1, []⟩, ⟨⟨#[115, 116, 111, 114, 101]⟩, 0, 0, []⟩]⟩
theorem ran_runs : ranP.Runs [0, 1] := by
  refine ⟨by decide +kernel, fun j t hj ht => ?_, by decide, fun x hx => ?_⟩
  · have hj2 : j < 2 := hj
    rcases (by omega : j = 0 ∨ j = 1) with rfl | rfl
    · obtain rfl := Option.some.inj ht
      decide +kernel
    · obtain rfl := Option.some.inj ht
      decide +kernel
  · rcases (by simpa using hx : x = 0 ∨ x = 1) with rfl | rfl <;> decide
theorem ran_end : (Rn.run ranP ([0, 1].map Int.toNat)).vars = [.var 1, .var 1] := by
  have e : [(0 : Int), 1].map Int.toNat = [0, 1] := rfl
  rw [e]
  unfold Rn.run Rn.begin
  simp only [List.foldl_cons, List.foldl_nil, Rn.step, ranP, List.getElem?_cons_zero, List.getElem?_cons_succ, Rn.stmt]
  have k1 : PS.isK ⟨⟨#[97, 100, 100, 114]⟩, 0, 1, []⟩ kAddr = true := by decide +kernel
  have k2 : PS.isK ⟨⟨#[115, 116, 111, 114, 101]⟩, 0, 0, []⟩ kAddr = false := by decide +kernel
  have k3 : PS.isK ⟨⟨#[115, 116, 111, 114, 101]⟩, 0, 0, []⟩ kCopy = false := by decide +kernel
  have k4 : PS.isK ⟨⟨#[115, 116, 111, 114, 101]⟩, 0, 0, []⟩ kLoad = false := by decide +kernel
  have k5 : PS.isK ⟨⟨#[115, 116, 111, 114, 101]⟩, 0, 0, []⟩ kStore = true := by decide +kernel
  rw [k1, k2, k3, k4, k5]
  rfl
def ranS : Array Value := #[.string ⟨#[97, 100, 100, 114]⟩, .int .i64 0, .int .i64 1, .slice none 0 0, .string ⟨#[115, 116, 111, 114, 101]⟩, .int .i64 0, .int .i64 0, .slice none 0 0]
theorem ran_prog {w : World} {a b n0 : Nat} (ha : Blk w a #[.string ⟨#[97]⟩, .string ⟨#[98]⟩] 9) (hb : Blk w b ranS 83) (h1 : a < n0) (h2 : b < n0) : ProgR w n0 (.slice (some ⟨a, 0, none⟩) 2 2) (.slice none 0 0) (.slice (some ⟨b, 0, none⟩) 2 2) ranP := by
  refine ⟨⟨_, 2, rfl, by decide, by decide, fun _ => ⟨_, rfl⟩, fun y hy _ => ?_⟩, ⟨_, 0, rfl, by decide, by decide, fun h => absurd h (by decide), fun y hy => by cases hy⟩, ⟨_, 2, rfl, by decide, by decide, fun _ => ⟨_, rfl⟩, fun y hy _ => ?_⟩⟩
  · obtain rfl := Option.some.inj hy
    refine ⟨h1, fun i hi s hs => ?_⟩
    have hi2 : i < 2 := hi
    rcases (by omega : i = 0 ∨ i = 1) with rfl | rfl
    · obtain rfl := Option.some.inj hs
      exact ha.av 0 rfl
    · obtain rfl := Option.some.inj hs
      exact ha.av 1 rfl
  · obtain rfl := Option.some.inj hy
    refine ⟨h2, fun i hi s hs => ?_⟩
    have hi2 : i < 2 := hi
    have hn : IntsR w n0 (.slice none 0 0) [] := ⟨none, 0, rfl, by decide, by decide, fun h => absurd h (by decide), fun y hy => by cases hy⟩
    rcases (by omega : i = 0 ∨ i = 1) with rfl | rfl
    · obtain rfl := Option.some.inj hs
      exact ⟨.slice none 0 0, hb.av 0 rfl, hb.av 1 rfl, hb.av 2 rfl, hb.av 3 rfl, hn⟩
    · obtain rfl := Option.some.inj hs
      exact ⟨.slice none 0 0, hb.av 4 rfl, hb.av 5 rfl, hb.av 6 rfl, hb.av 7 rfl, hn⟩

set_option maxRecDepth 100000 in
set_option maxHeartbeats 3200000 in
theorem ran_any (w : World) (ad : Nat → Addr) (hE : ErrsP w ad) : Calls Tryd.prog 27 #[] w fun e w' => e = .returned (.bool true) ∧ Ext w w' := by
  obtain ⟨W1, hW1⟩ : ∃ W1, W1 = w.alloc (.cells #[.string ⟨#[97]⟩, .string ⟨#[98]⟩] 9) := ⟨_, rfl⟩
  obtain ⟨W2, hW2⟩ : ∃ W2, W2 = W1.alloc (.cells ranS 83) := ⟨_, rfl⟩
  obtain ⟨W3, hW3⟩ : ∃ W3, W3 = W2.alloc (.cells #[.slice (some ⟨w.heap.size, 0, none⟩) 2 2, .slice none 0 0, .slice (some ⟨w.heap.size + 1, 0, none⟩) 2 2] 73) := ⟨_, rfl⟩
  obtain ⟨W4, hW4⟩ : ∃ W4, W4 = W3.alloc (.cells #[.int .i64 0, .int .i64 1] 3) := ⟨_, rfl⟩
  have x1 : Ext w W1 := by rw [hW1]; exact (Ext.refl _).alloc _
  have x2 : Ext W1 W2 := by rw [hW2]; exact (Ext.refl _).alloc _
  have x3 : Ext W2 W3 := by rw [hW3]; exact (Ext.refl _).alloc _
  have x4 : Ext W3 W4 := by rw [hW4]; exact (Ext.refl _).alloc _
  have s1 : W1.heap.size = w.heap.size + 1 := by rw [hW1, heap_size_alloc]
  have s2 : W2.heap.size = w.heap.size + 2 := by rw [hW2, heap_size_alloc, s1]
  have s3 : W3.heap.size = w.heap.size + 3 := by rw [hW3, heap_size_alloc, s2]
  have s4 : W4.heap.size = w.heap.size + 4 := by rw [hW4, heap_size_alloc, s3]
  have bA : Blk W1 w.heap.size #[.string ⟨#[97]⟩, .string ⟨#[98]⟩] 9 := by rw [hW1]; exact Blk.new _ _ _
  have bB : Blk W2 (w.heap.size + 1) ranS 83 := by rw [hW2, ← s1]; exact Blk.new _ _ _
  have bD : Blk W4 (w.heap.size + 3) #[.int .i64 0, .int .i64 1] 3 := by rw [hW4, ← s3]; exact Blk.new _ _ _
  have hP := ran_prog (n0 := W4.heap.size) (bA.ext (x2.trans (x3.trans x4))) (bB.ext (x3.trans x4)) (by omega) (by omega)
  have hI : IntsR W4 W4.heap.size (.slice (some ⟨w.heap.size + 3, 0, none⟩) 2 2) [0, 1] := IntsR.blk (l := [0, 1]) bD rfl (by decide)
  have xx : Ext w W4 := x1.trans (x2.trans (x3.trans x4))
  have HD := hid (rundo_ok _ _ _ 2 0 2 ranP _ [0, 1] W4 ad (hE.ext xx) hP hI (fun s hs => by rcases (by simpa [ranP] using hs : s = ⟨#[97]⟩ ∨ s = ⟨#[98]⟩) with rfl | rfl <;> decide) (fun s hs => by simp [PP.names, ranP] at hs) ran_runs)
  have HX := hid xx
  have HW4 : Hid (W4 = (((w.alloc (.cells #[.string ⟨#[97]⟩, .string ⟨#[98]⟩] 9)).alloc (.cells #[.string ⟨#[97, 100, 100, 114]⟩, .int .i64 0, .int .i64 1, .slice none 0 0, .string ⟨#[115, 116, 111, 114, 101]⟩, .int .i64 0, .int .i64 0, .slice none 0 0] 83)).alloc (.cells #[.slice (some ⟨w.heap.size, 0, none⟩) 2 2, .slice none 0 0, .slice (some ⟨w.heap.size + 1, 0, none⟩) 2 2] 73)).alloc (.cells #[.int .i64 0, .int .i64 1] 3)) := hid (by rw [hW4, hW3, hW2, hW1]; rfl)
  unfold pval at HD
  clear hE hW1 hW2 hW3 hW4 x1 x2 x3 x4 s1 s2 s3 s4 bA bB bD hP hI xx
  go_enter Tryd.func27, Tryd.ntmps27
  go_wp2_with fail
  rw [← HW4.out]
  refine HD.out.mono ?_
  intro e w5 hx
  obtain ⟨hx5, vv, tv, pv, rfl, hR⟩ := hx
  have hv := hR.vars
  rw [ran_end] at hv
  obtain ⟨b2, e2, rfl⟩ := row_form hR.things
  obtain ⟨b3, e3, rfl⟩ := row_form hR.places
  obtain ⟨g, cap, rfl⟩ := own_some hv (by decide)
  obtain ⟨q0, q1⟩ := own_v hv (i := 1) (x := .var 1) rfl
  have HX5 := hid (HX.out.trans hx5)
  have q0' : w5.cell? ⟨g, 2, none⟩ = some (.string ⟨#[118, 97, 114]⟩) := q0
  have q1' : w5.cell? ⟨g, 3, none⟩ = some (.int .i64 1) := q1
  clear HD hx5 hR hv q0 q1
  generalize (Rn.run ranP ([0, 1].map Int.toNat)).things.length = n2 at *
  generalize (Rn.run ranP ([0, 1].map Int.toNat)).places.length = n3 at *
  have r0 : (w5.alloc (.cells #[.slice (some ⟨g, 0, none⟩) 2 cap, .slice b2 n2 e2, .slice b3 n3 e3] 78)).cell? ⟨g, 2, none⟩ = some (.string ⟨#[118, 97, 114]⟩) := ((Ext.refl _).alloc _).cellx q0'
  have r1 : (w5.alloc (.cells #[.slice (some ⟨g, 0, none⟩) 2 cap, .slice b2 n2 e2, .slice b3 n3 e3] 78)).cell? ⟨g, 3, none⟩ = some (.int .i64 1) := ((Ext.refl _).alloc _).cellx q1'
  clear q0' q1'
  simp only [List.length_cons, List.length_nil, Nat.zero_add]
  go_wp2
  go_ret
  exact ⟨rfl, HX5.out.trans ((Ext.refl _).alloc _)⟩
end Go.Proofs.YtkabgmohgjljkaaDoor


/- Runs: what the law needs, plainly. -/
namespace Go.Proofs.YtkabgmohgjljkaaDoor
set_option linter.unusedSimpArgs false
set_option linter.unusedVariables false
open Go Go.RowKit

def PP.isNew (P : PP) (k : Nat) : Bool := match P.stmts[k]? with
  | some x => x.isK kNew
  | none => false
theorem Rn.step_places (P : PP) (s : Rn) (k : Nat) : (s.step P k).places = s.places ++ [k].filter P.isNew := by
  unfold Rn.step PP.isNew
  cases hx : P.stmts[k]? with
  | none => simp [hx]
  | some x =>
    simp only [Rn.stmt_places, List.filter_cons, List.filter_nil, hx]
theorem Rn.foldl_places (P : PP) : ∀ (l : List Nat) (s : Rn), (l.foldl (Rn.step P) s).places = s.places ++ l.filter P.isNew
  | [], s => by simp
  | k :: l, s => by
    rw [List.foldl_cons, Rn.foldl_places P l, Rn.step_places, List.append_assoc, ← List.filter_append]
    rfl
theorem Rn.run_places (P : PP) (l : List Nat) : (Rn.run P l).places = l.filter P.isNew := by
  unfold Rn.run
  rw [Rn.foldl_places]
  simp [Rn.begin]
theorem PP.Runs.take {P : PP} {l : List Int} (h : P.Runs l) (k : Nat) : P.Runs (l.take k) :=
  ⟨h.1, h.2.1, by have := h.2.2.1; rw [List.length_take]; omega, fun x hx => h.2.2.2 x (List.mem_of_mem_take hx)⟩
theorem PP.Runs.lt {P : PP} {l : List Int} (h : P.Runs l) {q : Int} (hq : q ∈ l) : 0 ≤ q ∧ q < P.stmts.length := by
  have hb := h.2.2.2 q hq
  unfold PP.badk at hb
  simp at hb
  omega
theorem PP.Runs.stmts {P : PP} {l : List Int} (h : P.Runs l) : P.stmts.length ≤ 80 := by
  have h1 := h.1
  unfold PP.err1 at h1
  cases hb : P.big with
  | true => rw [hb] at h1; simp at h1
  | false => unfold PP.big at hb; simp at hb; omega
/-- The places of a script's run, as numbers. -/
def newOf (P : PP) (l : List Int) : List Int := ((l.map Int.toNat).filter P.isNew).map Int.ofNat
theorem Rn.run_pl (P : PP) (l : List Int) : (Rn.run P (l.map Int.toNat)).pl = newOf P l := by unfold Rn.pl newOf; rw [Rn.run_places]
theorem newOf_append (P : PP) (l m : List Int) : newOf P (l ++ m) = newOf P l ++ newOf P m := by simp [newOf]
theorem newOf_take (P : PP) (l : List Int) (k : Nat) : newOf P (l.take k) = (newOf P l).take (newOf P (l.take k)).length := by
  have h : newOf P l = newOf P (l.take k) ++ newOf P (l.drop k) := by rw [← newOf_append, List.take_append_drop]
  rw [h]
  simp
theorem newOf_le (P : PP) (l : List Int) (k : Nat) : (newOf P (l.take k)).length ≤ (newOf P l).length := by
  have h : newOf P l = newOf P (l.take k) ++ newOf P (l.drop k) := by rw [← newOf_append, List.take_append_drop]
  rw [h, List.length_append]
  omega
theorem newOf_one (P : PP) (K : Nat) : newOf P [(K : Int)] = if P.isNew K then [(K : Int)] else [] := by
  unfold newOf
  by_cases h : P.isNew K <;> simp [h]
theorem newOf_yes {P : PP} {l : List Int} {i K : Nat} (hi : l[i]? = some (K : Int)) (hn : P.isNew K = true) : newOf P (l.take (i + 1)) = newOf P (l.take i) ++ [(K : Int)] := by
  rw [List.take_add_one, hi, newOf_append]
  simp only [Option.toList]
  rw [newOf_one, if_pos hn]
theorem newOf_no {P : PP} {l : List Int} {i K : Nat} (hi : l[i]? = some (K : Int)) (hn : P.isNew K = false) : newOf P (l.take (i + 1)) = newOf P (l.take i) := by
  rw [List.take_add_one, hi, newOf_append]
  simp only [Option.toList]
  rw [newOf_one, hn]
  simp
theorem newOf_at {P : PP} {l : List Int} {i K : Nat} (hi : l[i]? = some (K : Int)) (hn : P.isNew K = true) : (newOf P l)[(newOf P (l.take i)).length]? = some (K : Int) := by
  have h : newOf P l = newOf P (l.take (i + 1)) ++ newOf P (l.drop (i + 1)) := by rw [← newOf_append, List.take_append_drop]
  rw [h, newOf_yes hi hn]
  simp
theorem newOf_hi {P : PP} {l : List Int} (h : P.Runs l) (i : Nat) : (newOf P l).getD i 0 ≤ 9223372036854775807 := by
  rw [List.getD_eq_getElem?_getD]
  cases hx : (newOf P l)[i]? with
  | none => simp
  | some q =>
    have hm := List.mem_of_getElem? hx
    unfold newOf at hm
    obtain ⟨K, hK, rfl⟩ := List.mem_map.1 hm
    obtain ⟨q, hq, rfl⟩ := List.mem_map.1 (List.mem_filter.1 hK).1
    have := (h.lt hq).2
    have := h.stmts
    simp only [Option.getD_some, Int.ofNat_eq_natCast]
    omega

/-- What run.Do answers, in one. -/
def RunOut (P : PP) (l : List Int) (n0 : Nat) (w : World) (sv ev : Value) : Prop :=
  (P.Runs l ∧ ev = .nilIface ∧ ∃ a1 a2 a3 c1 c2 c3, sv = .agg #[.slice a1 (Rn.run P (l.map Int.toNat)).vars.length c1, .slice a2 (newOf P l).length c2, .slice a3 (newOf P l).length c3] ∧
    w.ownsRow n0 3 1 (.slice a3 (newOf P l).length c3) (newOf P l).length (icells (newOf P l))) ∨
  (¬ P.Runs l ∧ sv = zeroS ∧ ∃ t x, ev = .iface t (.pointer (some x)))
theorem RunOut.ext {P : PP} {l : List Int} {n0 : Nat} {w w' : World} {sv ev : Value} (h : RunOut P l n0 w sv ev) (x : Ext w w') : RunOut P l n0 w' sv ev := by
  rcases h with ⟨h1, h2, a1, a2, a3, c1, c2, c3, h3, h4⟩ | h
  · exact .inl ⟨h1, h2, a1, a2, a3, c1, c2, c3, h3, own_ext h4 x⟩
  · exact .inr h
theorem RunOut.low {P : PP} {l : List Int} {n0 n1 : Nat} {w : World} {sv ev : Value} (h : RunOut P l n0 w sv ev) (hn : n1 ≤ n0) : RunOut P l n1 w sv ev := by
  rcases h with ⟨h1, h2, a1, a2, a3, c1, c2, c3, h3, h4⟩ | h
  · exact .inl ⟨h1, h2, a1, a2, a3, c1, c2, c3, h3, own_low h4 hn⟩
  · exact .inr h
theorem RunOut.form {P : PP} {l : List Int} {n0 : Nat} {w : World} {sv ev : Value} (h : RunOut P l n0 w sv ev) : ∃ a1 n1 c1 a2 n2 c2 a3 n3 c3, sv = .agg #[.slice a1 n1 c1, .slice a2 n2 c2, .slice a3 n3 c3] := by
  rcases h with ⟨h1, h2, a1, a2, a3, c1, c2, c3, h3, h4⟩ | ⟨_, h, _⟩
  · exact ⟨_, _, _, _, _, _, _, _, _, h3⟩
  · exact ⟨_, _, _, _, _, _, _, _, _, h⟩
theorem RunOut.keep {X : Nat → Prop} {P : PP} {l : List Int} {n0 : Nat} {w w' : World} {sv ev : Value} (h : RunOut P l n0 w sv ev) (k : Keep X w w') (hX : ∀ b, X b → ∃ c, Blk w b c 78) : RunOut P l n0 w' sv ev := by
  rcases h with ⟨h1, h2, a1, a2, a3, c1, c2, c3, h3, h4⟩ | h
  · exact .inl ⟨h1, h2, a1, a2, a3, c1, c2, c3, h3, row_keep h4 k fun i hi e => by
      obtain ⟨c, hc⟩ := own_ty h4 hi
      obtain ⟨d, hd⟩ := hX i e
      exact Blk.ty_ne hc hd (by decide) rfl⟩
  · exact .inr h
theorem rundo_out (a1 a2 a3 : Option Addr) (c1 c2 c3 : Nat) (P : PP) (va : Value) (l : List Int) (w : World) (ad : Nat → Addr) (hE : ErrsP w ad) (hP : ProgR w w.heap.size (.slice a1 P.vars.length c1) (.slice a2 P.funs.length c2) (.slice a3 P.stmts.length c3) P) (hI : IntsR w w.heap.size va l)
    (hz1 : ∀ s ∈ P.vars, s.size ≤ 1000000) (hz2 : ∀ s ∈ P.names, s.size ≤ 1000000) :
    Calls Tryd.prog 30 #[pval a1 a2 a3 c1 c2 c3 P, va] w fun e w' => Ext w w' ∧ ∃ sv ev, e = .returned (.tuple #[sv, ev]) ∧ RunOut P l w.heap.size w' sv ev := by
  have no : ¬ P.Runs l → (Calls Tryd.prog 30 #[pval a1 a2 a3 c1 c2 c3 P, va] w fun e w' => Ext w w' ∧ ∃ v, e = .returned (.tuple #[zeroS, v]) ∧ RunNo ad P l w' v) → Calls Tryd.prog 30 #[pval a1 a2 a3 c1 c2 c3 P, va] w fun e w' => Ext w w' ∧ ∃ sv ev, e = .returned (.tuple #[sv, ev]) ∧ RunOut P l w.heap.size w' sv ev := fun hn h => h.mono fun e w' ⟨hx, v, he, hr⟩ => by
    refine ⟨hx, _, _, he, .inr ⟨hn, rfl, ?_⟩⟩
    rcases hr with ⟨hb, hr⟩ | ⟨_, _, _, rfl⟩ | ⟨_, _, _, i, b, _, rfl, _⟩
    · rcases hr.form with ⟨_, h1⟩ | ⟨h1, _⟩
      · exact absurd h1 hb
      · exact h1
    · exact ⟨_, _, rfl⟩
    · exact ⟨_, _, rfl⟩
  by_cases h1 : P.err1 = 0 ∧ P.allWell
  · by_cases h2 : 2000 < l.length
    · exact no (fun h => by have := h.2.2.1; omega) (rundo_full a1 a2 a3 c1 c2 c3 P va l w ad hE hP hI hz1 hz2 h1 h2)
    · by_cases h3 : ∃ x ∈ l, P.badk x = true
      · exact no (fun h => by obtain ⟨x, hx, h4⟩ := h3; rw [h.2.2.2 x hx] at h4; cases h4) (rundo_bound a1 a2 a3 c1 c2 c3 P va l w ad hE hP hI hz1 hz2 h1 (by omega) h3)
      · have hr : P.Runs l := ⟨h1.1, h1.2, by omega, fun x hx => by
          cases hb : P.badk x with
          | false => rfl
          | true => exact absurd ⟨x, hx, hb⟩ h3⟩
        refine (rundo_ok a1 a2 a3 c1 c2 c3 P va l w ad hE hP hI hz1 hz2 hr).mono fun e w' ⟨hx, vv, tv, pv, he, hR⟩ => ⟨hx, _, _, he, .inl ⟨hr, rfl, ?_⟩⟩
        obtain ⟨b1, e1, rfl⟩ := row_form hR.vars
        obtain ⟨b2, e2, rfl⟩ := row_form hR.things
        obtain ⟨b3, e3, rfl⟩ := row_form hR.places
        have hpl : (Rn.run P (l.map Int.toNat)).places.length = (newOf P l).length := by rw [← Rn.run_pl]; simp [Rn.pl]
        have htl : (Rn.run P (l.map Int.toNat)).things.length = (newOf P l).length := by rw [← (Rn.Ok.run h1.2 _).lp, hpl]
        have hp := hR.places
        rw [Rn.run_pl, hpl] at hp
        rw [hpl, htl]
        exact ⟨_, _, _, _, _, _, rfl, hp⟩
  · exact no (fun h => h1 ⟨h.1, h.2.1⟩) (rundo_bad a1 a2 a3 c1 c2 c3 P va l w ad hE hP hI hz1 hz2 h1)
end Go.Proofs.YtkabgmohgjljkaaDoor
