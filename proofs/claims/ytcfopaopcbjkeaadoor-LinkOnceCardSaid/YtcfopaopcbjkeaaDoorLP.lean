
/- Links: what lies where in LinkOnce. -/
import Derived.Test.YtcfopaopcbjkeaaDoorLE
import Derived.Test.YtcfopaopcbjkeaaDoorLO
namespace Go.Proofs.YtcfopaopcbjkeaaDoor
set_option linter.unusedSimpArgs false
set_option linter.unusedVariables false
open Go Go.RowKit

theorem own_nilSrc {w : World} {base : Nat} {t e : TypeId} {i : TypeInfo} {size n : Nat} {v : Value} {xs : List Value} (ht : Tryd.prog.underlying t = some (.slice e)) (hi : Tryd.prog.info? e = some i) (h : w.ownsRow base e size v n xs) (ty : TypeId) (c : Nat) : (Builtin.append_ #[t, t] ty #[v, .slice none 0 c]).run Tryd.prog w = .ok v w := by
  rcases h.2 with ⟨h2, h3⟩ | ⟨g, cap, cur, h2, _, _, hnc, _⟩
  · subst h2
    simp [Builtin.append_, run_underlying ht, sizeOf, typeInfo, hi, Builtin.lenOf, Builtin.firstCells]
  · subst h2
    simp [Builtin.append_, run_underlying ht, sizeOf, typeInfo, hi, Builtin.lenOf, Builtin.firstCells, hnc, storeCells]
/-- Cells that lie at an address. -/
structure Src (w : World) (a : Option Addr) (m : Nat) (size : Nat) (us : List Value) : Prop where
  len : us.length = m * size
  sm : 0 < m → ∃ x, a = some x
  cl : ∀ x, a = some x → ∀ j u, us[j]? = some u → w.cell? (x.add j) = some u
  one : ∀ u ∈ us, u.oneCell' = true
theorem run_append_src (w : World) (base : Nat) (hbase : base ≤ w.heap.size) (t e : TypeId) (z : Value) (size bytes : Nat) (ht : Tryd.prog.underlying t = some (.slice e)) (hinf : (Tryd.prog.info? e).map (fun i => (i.zero, i.size, i.bytes)) = some (some z, size, bytes)) (hz1 : z.cells.size = size) (hsz : 0 < size) (hb8 : bytes ≤ 64) (ty : TypeId)
    (v : Value) (n : Nat) (xs : List Value) (hown : w.ownsRow base e size v n xs) (a : Option Addr) (m c : Nat) (us : List Value) (hs : Src w a m size us) (hl : n + m ≤ 1000000) :
    ∃ v' w', (Builtin.append_ #[t, t] ty #[v, .slice a m c]).run Tryd.prog w = .ok v' w' ∧ w'.ownsRow base e size v' (n + m) (xs ++ us) ∧ Keep (fun k => v.ownBlock = some k) w w' ∧ ∀ k, v'.ownBlock = some k → v.ownBlock = some k ∨ w.heap.size ≤ k := by
  obtain ⟨ti, hi, hz0, hz, hz2⟩ := info_parts hinf
  rcases a with _ | ad
  · have hm : m = 0 := by
      rcases Nat.eq_zero_or_pos m with h0 | h0
      · exact h0
      · obtain ⟨x, hx⟩ := hs.sm h0; cases hx
    subst hm
    obtain rfl : us = [] := List.eq_nil_of_length_eq_zero (by have := hs.len; omega)
    exact ⟨v, w, own_nilSrc ht hi hown ty c, by simpa using hown, Keep.refl _ _, fun k hk => .inl hk⟩
  · obtain ⟨v', w', hr, h2, h3, _, h4⟩ := run_append_own_at (P := Tryd.prog) w base t ty e ti z size bytes ht hi hz0 hz hz2 hz1 hsz v n xs hown ad m c us hs.len (hs.cl ad rfl) hs.one (by simp only [maxLen]; omega) (by
      have : (n + m) * bytes ≤ (n + m) * 64 := Nat.mul_le_mul_left _ hb8
      omega) hbase
    refine ⟨v', w', hr, h2, grown_keep h3, fun k hk => ?_⟩
    rcases h4 with h4 | h4
    · exact .inl (h4 ▸ hk)
    · rw [h4] at hk
      have := Option.some.inj hk
      exact .inr (by omega)
theorem wpList_append_src {ops : Array Oper} {Q : Exit → Act → World → Prop} {rest : List Oper} {o : Oper} {a : Act} {w : World} (base : Nat) (hbase : base ≤ w.heap.size) (t e : TypeId) (z : Value) (size bytes : Nat) (ht : Tryd.prog.underlying t = some (.slice e)) (hinf : (Tryd.prog.info? e).map (fun i => (i.zero, i.size, i.bytes)) = some (some z, size, bytes)) (hz1 : z.cells.size = size) (hsz : 0 < size)
    (hb8 : bytes ≤ 64) (hg : o.guard = none) (s x : Operand) (ho : o.op = .call { callee := .builtin .append, args := #[s, x], argTypes := #[t, t] })
    (v : Value) (n : Nat) (xs : List Value) (hs : a.eval s = v) (hown : w.ownsRow base e size v n xs) (ad : Option Addr) (m c : Nat) (us : List Value) (hx : a.eval x = .slice ad m c) (hsrc : Src w ad m size us) (hl : n + m ≤ 1000000)
    (h : ∀ v' w', w'.ownsRow base e size v' (n + m) (xs ++ us) → Keep (fun k => v.ownBlock = some k) w w' → (∀ k, v'.ownBlock = some k → v.ownBlock = some k ∨ w.heap.size ≤ k) → wpList Tryd.prog ops Q rest (a.put o.dst v') w') : wpList Tryd.prog ops Q (o :: rest) a w := by
  obtain ⟨v', w', hr, h2, h3, h4⟩ := run_append_src w base hbase t e z size bytes ht hinf hz1 hsz hb8 o.type v n xs hown ad m c us hsrc hl
  refine wpList_plain hg fun K hK => ?_
  unfold Oper.wp
  rw [run_exec_append s x t ho hs hx hr]
  exact hK _ _ (h v' w' h2 h3 h4)
theorem Src.ints {w : World} {a : Option Addr} {m : Nat} {vs : List Int} (h : Ints w a m vs) : Src w a m 1 (icells vs) := by
  refine ⟨by simp [icells, h.ln], h.sm, fun x hx j u hu => ?_, icells_one⟩
  simp only [icells, List.getElem?_map] at hu
  have hj : j < vs.length := by
    rcases Nat.lt_or_ge j vs.length with h1 | h1
    · exact h1
    · rw [List.getElem?_eq_none h1] at hu; cases hu
  rw [h.cl x hx j (by have := h.ln; omega), List.getD_eq_getElem?_getD, List.getElem?_eq_getElem hj]
  rw [List.getElem?_eq_getElem hj] at hu
  exact hu
theorem FV.one {w : World} {n0 : Nat} {t : Option Nat} {fs : List FV} (h : ∀ x ∈ fs, x.At w n0 t) : ∀ u ∈ fs.flatMap FV.cells, u.oneCell' = true := by
  intro u hu
  obtain ⟨x, hx, hu⟩ := List.mem_flatMap.1 hu
  obtain ⟨a, c, _, hv, _⟩ := (h x hx).form
  simp only [FV.cells, hv, List.mem_cons, List.not_mem_nil, or_false] at hu
  rcases hu with rfl | rfl | rfl | rfl | rfl <;> rfl
/-- A part of a row of frames. -/
theorem Src.part {w : World} {n0 : Nat} {t : Option Nat} {base g n cap : Nat} {e : TypeId} {fs : List FV} (h : FRow w n0 t base e (.slice (some ⟨g, 0, none⟩) n cap) fs) (hn : fs.length = n) (i m : Nat) (him : i + m ≤ n) : Src w (some ⟨g, i * 5, none⟩) m 5 (((fs.drop i).take m).flatMap FV.cells) := by
  have hr := h.row
  rw [hn] at hr
  refine ⟨?_, fun _ => ⟨_, rfl⟩, fun x hx j u hu => ?_, FV.one (w := w) (n0 := n0) (t := t) fun x hx => h.nums x (List.mem_of_mem_drop (List.mem_of_mem_take hx))⟩
  · rw [fm_len FV.cells 5 FV.cells_len]
    simp
    omega
  · obtain rfl := Option.some.inj hx
    rw [show (⟨g, i * 5, none⟩ : Addr).add j = ⟨g, i * 5 + j, none⟩ from by by_cases h0 : j = 0 <;> simp [Addr.add, h0]]
    refine own_get hr _ ?_
    rw [← fm_take FV.cells 5 FV.cells_len, ← fm_drop FV.cells 5 FV.cells_len, List.getElem?_take, List.getElem?_drop] at hu
    split at hu
    · exact hu
    · cases hu
theorem Src.all {w : World} {n0 : Nat} {t : Option Nat} {base n cap : Nat} {a : Option Addr} {e : TypeId} {fs : List FV} (h : FRow w n0 t base e (.slice a n cap) fs) (hn : fs.length = n) : Src w a n 5 (fs.flatMap FV.cells) := by
  rcases Nat.eq_zero_or_pos n with h0 | h0
  · subst h0
    obtain rfl := List.eq_nil_of_length_eq_zero hn
    exact ⟨rfl, fun h => by omega, fun x _ j u hu => by simp at hu, fun u hu => by simp at hu⟩
  · have hr := h.row
    obtain ⟨g, cp, he⟩ := own_some hr (by omega)
    simp only [Value.slice.injEq] at he
    obtain ⟨rfl, _, rfl⟩ := he
    have := Src.part h hn 0 n (by omega)
    rw [List.drop_zero, List.take_of_length_le (by omega), Nat.zero_mul] at this
    exact this

theorem FRow.getp {w : World} {n0 : Nat} {t : Option Nat} {base g n cap : Nat} {e : TypeId} {fs : List FV} (h : FRow w n0 t base e (.slice (some ⟨g, 0, none⟩) n cap) fs) (hn : fs.length = n) {j : Nat} {x : FV} (hx : fs[j]? = some x) :
    w.cell? ⟨g, j * 5, none⟩ = some (.int .u8 (x.f.kind.toNat : Int)) ∧ w.cell? ⟨g, j * 5 + 1, none⟩ = some (.int .i64 x.f.fr) ∧ w.cell? ⟨g, j * 5 + 2, none⟩ = some (.int .i64 x.f.to) ∧ w.cell? ⟨g, j * 5 + 3, none⟩ = some (.int .i64 x.f.seq) ∧ w.cell? ⟨g, j * 5 + 4, none⟩ = some x.v := by
  have hr := h.row
  rw [hn] at hr
  have c : ∀ i v, (FV.cells x)[i]? = some v → i < 5 → w.cell? ⟨g, j * 5 + i, none⟩ = some v := fun i v hv hi => own_get hr _ ((fm_get FV.cells 5 FV.cells_len fs j i x hx hi).trans hv)
  exact ⟨c 0 _ rfl (by omega), c 1 _ rfl (by omega), c 2 _ rfl (by omega), c 3 _ rfl (by omega), c 4 _ rfl (by omega)⟩
/-- Told turns: all else stays. -/
theorem Wr.told {w : World} {n0 : Nat} {t : Option Nat} (h : ∀ b, t = some b → n0 ≤ b) : Wr w n0 t fun b => t = some b := fun b hb _ => ⟨h b hb, fun _ => hb⟩
structure Told (w w' : World) (n0 : Nat) (t t' : Option Nat) : Prop where
  keep : Keep (fun b => t = some b) w w'
  lo : ∀ b, t = some b → n0 ≤ b
  int : ∀ b, t = some b → IsInt w b
  new : ∀ b, t' = some b → t = some b ∨ w.heap.size ≤ b
theorem NumsAt.told {w w' : World} {n0 : Nat} {t t' : Option Nat} {v : Value} {l : List Int} (h : NumsAt w n0 t v l) (k : Told w w' n0 t t') : NumsAt w' n0 t' v l := by
  obtain ⟨a, cap, rfl, hi, hb⟩ := h
  have hne : ∀ x, a = some x → 0 < l.length → ¬ t = some x.block := fun x hx hl e => by
    rcases hb x hx hl with h1 | h1
    · have := k.lo _ e; omega
    · exact h1.2 e
  refine ⟨a, cap, rfl, hi.keep k.keep hne, fun x hx hl => (hb x hx hl).imp id fun h1 => ⟨h1.1.keep k.keep (hne x hx hl), fun e => ?_⟩⟩
  rcases k.new _ e with h2 | h2
  · exact h1.2 h2
  · have := hi.blt hx hl; omega
theorem Told.ne {w w' : World} {n0 : Nat} {t t' : Option Nat} (k : Told w w' n0 t t') {b : Nat} {c : Array Value} {e : TypeId} (hb : Blk w b c e) (hne : e ≠ 3) : ¬ t = some b := fun h => IsInt.not hb hne (k.int b h)
theorem SndAt.told {w w' : World} {n0 : Nat} {t t' : Option Nat} {p : Nat} {s : Snd} {lv : Value} {ks : List (FV × Int)} (h : SndAt w n0 t p s lv ks) (k : Told w w' n0 t t') : SndAt w' n0 t' p s lv ks :=
  ⟨h.hp.keep k.keep (k.ne h.hp (by decide)), row_keep h.hl k.keep (fun b hb => by
    obtain ⟨c, hc⟩ := own_ty h.hl hb
    exact k.ne hc (by decide)), fun x hx => NumsAt.told (h.hn x hx) k, h.eq, h.lo⟩
theorem RcvAt.told {w w' : World} {n0 : Nat} {t t' : Option Nat} {q b : Nat} {r : Rcv} {ms : List FV} (h : RcvAt w n0 t q b r ms) (k : Told w w' n0 t t') : RcvAt w' n0 t' q b r ms :=
  ⟨h.hp.keep k.keep (k.ne h.hp (by decide)), h.hm.keep k.keep (fun e => by
    obtain ⟨es, c, hb, _⟩ := h.hm
    obtain ⟨c', z, hi⟩ := k.int b e
    rw [hb] at hi
    cases hi), fun x hx => NumsAt.told (h.hn x hx) k, h.eq, h.lo⟩
theorem FRow.told {w w' : World} {n0 : Nat} {t t' : Option Nat} {base : Nat} {e : TypeId} {v : Value} {fs : List FV} (h : FRow w n0 t base e v fs) (k : Told w w' n0 t t') (he : e ≠ 3) : FRow w' n0 t' base e v fs :=
  ⟨row_keep h.row k.keep (fun b hb => by
    obtain ⟨c, hc⟩ := own_ty h.row hb
    exact k.ne hc he), fun x hx => NumsAt.told (h.nums x hx) k⟩

/-- What lies where, while the law goes on: d are told, e are due. -/
structure LOn (w0 : World) (N : List Int) (n p q b a d e : Nat) (now c : Int) (r : Rcv) (nv tv : Value) (nets : List FV) (wr : World) : Prop where
  ext : Ext w0 wr
  snd : ∃ lv ks, SndAt wr w0.heap.size tv.ownBlock p (osn N n a now c) lv ks
  rcv : ∃ ms, RcvAt wr w0.heap.size tv.ownBlock q b r ms
  net : FRow wr w0.heap.size tv.ownBlock w0.heap.size 34 nv nets
  told : IRow w0.heap.size wr tv (N.take d)
  orc : ORcv N n e r
  st : Rcv.find r.wait r.due = none
  all : ∀ x ∈ nets, ∃ j, j < n ∧ x.f = ofr N j
  ae : a ≤ e
  de : d ≤ e
  c0 : 0 ≤ c
  c1 : c ≤ now
  c2 : now ≤ c + 2
section
variable {w0 : World} {N : List Int} {n p q b a d e : Nat} {now c : Int} {r : Rcv} {nv tv : Value} {nets : List FV} {wr : World}
theorem LOn.on (h : LOn w0 N n p q b a d e now c r nv tv nets wr) {w' : World} (x : Ext wr w') : LOn w0 N n p q b a d e now c r nv tv nets w' := by
  obtain ⟨lv, ks, hs⟩ := h.snd
  obtain ⟨ms, hr⟩ := h.rcv
  exact ⟨h.ext.trans x, ⟨lv, ks, hs.ext x⟩, ⟨ms, hr.ext x⟩, h.net.ext x, h.told.ext x, h.orc, h.st, h.all, h.ae, h.de, h.c0, h.c1, h.c2⟩
theorem LOn.tlt (h : LOn w0 N n p q b a d e now c r nv tv nets wr) : ∀ k, tv.ownBlock = some k → w0.heap.size ≤ k ∧ k < wr.heap.size := fun _ hk => h.told.lt hk
theorem LOn.tint (h : LOn w0 N n p q b a d e now c r nv tv nets wr) : ∀ k, tv.ownBlock = some k → ∃ c, Blk wr k c 3 := fun _ hk => own_ty (show wr.ownsRow w0.heap.size 3 1 tv _ (icells (N.take d)) from h.told) hk
/-- What is written of the sender does no harm. -/
theorem LOn.by_snd (h : LOn w0 N n p q b a d e now c r nv tv nets wr) {w' : World} {lv lv' : Value} {ks ks' : List (FV × Int)} (hs : SndAt wr w0.heap.size tv.ownBlock p (osn N n a now c) lv ks) (k : Keep (fun g => g = p ∨ lv.ownBlock = some g) wr w') {a' : Nat} {now' c' : Int} (hs' : SndAt w' w0.heap.size tv.ownBlock p (osn N n a' now' c') lv' ks')
    (hae : a' ≤ e) (h0 : 0 ≤ c') (h1 : c' ≤ now') (h2 : now' ≤ c' + 2) : LOn w0 N n p q b a' d e now' c' r nv tv nets w' := by
  obtain ⟨ms, hr⟩ := h.rcv
  have hwr : Wr wr w0.heap.size tv.ownBlock fun g => g = p ∨ lv.ownBlock = some g := (Wr.blk hs.hp (by decide) hs.lo).or (Wr.row hs.hl (by decide))
  have hX : ∀ (g : Nat) (c : Array Value) (ty : TypeId), Blk wr g c ty → ty ≠ 106 → ty ≠ 113 → ¬ (g = p ∨ lv.ownBlock = some g) := fun g c ty hb h1 h2 e => by
    rcases e with e | e
    · subst e; exact h1 (hb.inj hs.hp).2
    · obtain ⟨c', hc'⟩ := own_ty hs.hl e
      exact h2 (hb.inj hc').2
  refine ⟨hs.ext_of h.ext k, ⟨lv', ks', hs'⟩, ⟨ms, RcvAt.beside hs hr k⟩, h.net.keep k hwr fun g hg => ?_, h.told.keep k fun g hg => ?_, h.orc, h.st, h.all, hae, h.de, h0, h1, h2⟩
  · obtain ⟨cc, hc⟩ := own_ty h.net.row hg
    exact hX g cc _ hc (by decide) (by decide)
  · obtain ⟨cc, hc⟩ := h.tint g hg
    exact hX g cc _ hc (by decide) (by decide)
theorem LOn.tick (h : LOn w0 N n p q b a d e now c r nv tv nets wr) (hn : n ≤ 40) (hw : now ≤ 900) :
    Calls Tryd.prog 12 #[.pointer (some ⟨p, 0, none⟩)] wr fun ee w' => ∃ ov outs, ee = .returned ov ∧ LOn w0 N n p q b a d e (now + 1) (if now + 1 - c = 3 then now + 1 else c) r nv tv nets w' ∧ FRow w' w0.heap.size tv.ownBlock wr.heap.size 34 ov outs ∧ outs.map FV.f = if now + 1 - c = 3 then (List.range' a (n - a)).map (ofr N) else [] := by
  obtain ⟨lv, ks, hs⟩ := h.snd
  have h0 := h.c0
  have h1 := h.c1
  have h2 := h.c2
  refine (tick_any (osn N n a now c) 1000 (osn_ok N n a now c hn h0 h1 (by omega)) (by omega) wr w0.heap.size tv.ownBlock p lv ks hs h.ext.size (fun k hk => (h.tlt k hk).2) (fun x hx => osn_nums N n a now c (x.1.f, x.2) (by rw [hs.eq]; exact List.mem_map.2 ⟨x, hx, rfl⟩))).mono fun ee w' hx => ?_
  obtain ⟨ov, outs, ks', e1, e2, e3, e4, e5⟩ := hx
  rw [osn_tick] at e2
  rw [osn_again] at e4
  refine ⟨ov, outs, e1, h.by_snd hs e5 e2 h.ae ?_ ?_ ?_, e3, e4⟩
  · split <;> omega
  · split <;> omega
  · split <;> omega
theorem LOn.acked (h : LOn w0 N n p q b a d e now c r nv tv nets wr) (hn : n ≤ 40) (han : a ≤ n) :
    Calls Tryd.prog 13 #[.pointer (some ⟨p, 0, none⟩), .int .i64 (e : Int)] wr fun ee w' => ee = .returned (.tuple #[]) ∧ LOn w0 N n p q b e d e now c r nv tv nets w' := by
  obtain ⟨lv, ks, hs⟩ := h.snd
  have hl : (osn N n a now c).l.length ≤ 200 := by simp [osn]; omega
  refine (acked_any (osn N n a now c) (e : Int) wr w0.heap.size tv.ownBlock p lv ks hs hl).mono fun ee w' hx => ?_
  obtain ⟨e1, lv', ks', e2, e3⟩ := hx
  rw [osn_acked N n a e now c h.ae han h.orc.le] at e2
  exact ⟨e1, h.by_snd hs e3 e2 (Nat.le_refl _) h.c0 h.c1 h.c2⟩
theorem LOn.due (h : LOn w0 N n p q b a d e now c r nv tv nets wr) : Calls Tryd.prog 14 #[.pointer (some ⟨q, 0, none⟩)] wr fun ee w' => ee = .returned (.int .i64 (e : Int)) ∧ wr = w' := by
  obtain ⟨ms, hr⟩ := h.rcv
  have := due_any wr _ _ _ _ _ _ hr
  rwa [h.orc.due] at this
theorem LOn.take (h : LOn w0 N n p q b a d e now c r nv tv nets wr) (hn : n ≤ 40) (hv : ∀ k, k < n → 0 ≤ N.getD k 0 ∧ N.getD k 0 ≤ 2147483648) (x : FV) (hx : x.At wr w0.heap.size tv.ownBlock) (j : Nat) (hj : j < n) (hxj : x.f = ofr N j) (ev : Nat → Value) (he : ErrsC w0 ev) (hev : ∀ c, c ≠ 0 → ∃ t v, ev c = .iface t v) :
    Calls Tryd.prog 15 #[.pointer (some ⟨q, 0, none⟩), x.val] wr fun ee w' => ∃ ov outs e' r', ee = .returned (.tuple #[ov, .nilIface]) ∧ LOn w0 N n p q b a d e' now c r' nv tv nets w' ∧ FRow w' w0.heap.size tv.ownBlock wr.heap.size 34 ov outs ∧ outs.map FV.f = (List.range' e (e' - e)).map (ofr N) ∧ e ≤ e' ∧ (j ≤ e → j + 1 ≤ e') ∧ ∀ base v fs, FRow wr w0.heap.size tv.ownBlock base 34 v fs → FRow w' w0.heap.size tv.ownBlock base 34 v fs := by
  obtain ⟨ms, hr⟩ := h.rcv
  obtain ⟨lv, ks, hs⟩ := h.snd
  obtain ⟨ax, cx, hval, hxv, hxi⟩ := hx.form
  obtain ⟨hr0, hrt⟩ := took_take h.orc hj (by omega) hv
  obtain ⟨e', r', g1, g2, g3, g4, g5⟩ := took_of h.orc h.st hj
  have hdu := h.orc.due
  have hle := h.orc.le
  rw [hval]
  refine (take_any r x.f ax cx wr w0.heap.size tv.ownBlock q b ms hr hxi (by rw [hxj]; simp [ofr]) ev (he.ext h.ext) hev (by omega) (by omega) h.ext.size (fun k hk => (h.tlt k hk).2) h.orc.len (fun g hg => by
    obtain ⟨i, _, rfl⟩ := h.orc.wait g hg
    simp [ofr])).mono fun ee w' hy => ?_
  obtain ⟨ov, outs, ms', e1, e2, e3, e4, e5⟩ := hy
  rw [hxj, hr0] at e1
  rw [hxj, hrt, g1] at e2 e4
  have hwr : Wr wr w0.heap.size tv.ownBlock fun g => g = q ∨ g = b := (Wr.blk hr.hp (by decide) hr.lo.1).or (Wr.map hr.hm hr.lo.2)
  have hX : ∀ (g : Nat) (c : Array Value) (ty : TypeId), Blk wr g c ty → ty ≠ 109 → ¬ (g = q ∨ g = b) := fun g c ty hb h1 ee => by
    rcases ee with ee | ee
    · subst ee; exact h1 (hb.inj hr.hp).2
    · exact hr.hm.qne hb ee
  refine ⟨ov, outs, e', r', e1, ⟨hr.ext_of h.ext e5, ⟨lv, ks, SndAt.beside hs hr e5⟩, ⟨ms', e2⟩, h.net.keep e5 hwr fun g hg => ?_, h.told.keep e5 fun g hg => ?_, g2, g5, h.all, Nat.le_trans h.ae g3, Nat.le_trans h.de g3, h.c0, h.c1, h.c2⟩, e3, e4, g3, g4, fun base v fs hF => hF.keep e5 hwr fun g hg => ?_⟩
  · obtain ⟨cc, hc⟩ := own_ty h.net.row hg
    exact hX g cc _ hc (by decide)
  · obtain ⟨cc, hc⟩ := h.tint g hg
    exact hX g cc _ hc (by decide)
  · obtain ⟨cc, hc⟩ := own_ty hF.row hg
    exact hX g cc _ hc (by decide)
/-- One more is told. -/
theorem LOn.toldK (h : LOn w0 N n p q b a d e now c r nv tv nets wr) {w' : World} {tv' : Value} (k : Keep (fun g => tv.ownBlock = some g) wr w') (hn : ∀ g, tv'.ownBlock = some g → tv.ownBlock = some g ∨ wr.heap.size ≤ g) : Told wr w' w0.heap.size tv.ownBlock tv'.ownBlock :=
  ⟨k, fun g hg => (h.tlt g hg).1, fun g hg => by
    obtain ⟨cc, hc⟩ := h.tint g hg
    exact ⟨cc, _, hc⟩, hn⟩
theorem LOn.say (h : LOn w0 N n p q b a d e now c r nv tv nets wr) {w' : World} {tv' : Value} (k : Told wr w' w0.heap.size tv.ownBlock tv'.ownBlock) {d' : Nat} (ht : IRow w0.heap.size w' tv' (N.take d')) (hd : d' ≤ e) : LOn w0 N n p q b a d' e now c r nv tv' nets w' := by
  obtain ⟨lv, ks, hs⟩ := h.snd
  obtain ⟨ms, hr⟩ := h.rcv
  exact ⟨Keep.new h.ext k.keep fun g hg => k.lo g hg, ⟨lv, ks, hs.told k⟩, ⟨ms, hr.told k⟩, h.net.told k (by decide), ht, h.orc, h.st, h.all, h.ae, hd, h.c0, h.c1, h.c2⟩
/-- The frames that are under way turn. -/
theorem LOn.renet (h : LOn w0 N n p q b a d e now c r nv tv nets wr) {w' : World} {rv : Value} {m base : Nat} {xs : List Value} (hrv : wr.ownsRow base 34 5 rv m xs) (hb : w0.heap.size ≤ base) (k : Keep (fun g => rv.ownBlock = some g) wr w') {nv' : Value} {nets' : List FV} (hn : w'.ownsRow w0.heap.size 34 5 nv' nets'.length (nets'.flatMap FV.cells))
    (hnum : ∀ x ∈ nets', x.At wr w0.heap.size tv.ownBlock) (hall : ∀ x ∈ nets', ∃ j, j < n ∧ x.f = ofr N j) : LOn w0 N n p q b a d e now c r nv' tv nets' w' := by
  obtain ⟨lv, ks, hs⟩ := h.snd
  obtain ⟨ms, hr⟩ := h.rcv
  have hwr : Wr wr w0.heap.size tv.ownBlock fun g => rv.ownBlock = some g := Wr.row (own_base hrv hb) (by decide)
  have hX : ∀ (g : Nat) (c : Array Value) (ty : TypeId), Blk wr g c ty → ty ≠ 34 → ¬ rv.ownBlock = some g := fun g c ty hb h1 e => by
    obtain ⟨c', hc'⟩ := own_ty hrv e
    exact h1 (hb.inj hc').2
  refine ⟨Keep.new h.ext k fun g hg => Nat.le_trans hb (World.ownsRow.lt hrv g hg).1, ⟨lv, ks, hs.keep k hwr (hX _ _ _ hs.hp (by decide)) fun g hg => ?_⟩, ⟨ms, hr.keep k hwr (hX _ _ _ hr.hp (by decide)) fun e => ?_⟩, ⟨hn, fun x hx => NumsAt.keep (hnum x hx) k hwr⟩, h.told.keep k fun g hg => ?_, h.orc, h.st, hall, h.ae, h.de, h.c0, h.c1, h.c2⟩
  · obtain ⟨cc, hc⟩ := own_ty hs.hl hg
    exact hX g cc _ hc (by decide)
  · obtain ⟨c', hc'⟩ := own_ty hrv e
    exact hr.hm.qne hc' rfl
  · obtain ⟨cc, hc⟩ := h.tint g hg
    exact hX g cc _ hc (by decide)
end
theorem AllOf.mono {N : List Int} {n m : Nat} {l : List Fr} (h : AllOf N n l) (hn : n ≤ m) : AllOf N m l := fun f hf => by
  obtain ⟨j, hj, e⟩ := h f hf
  exact ⟨j, by omega, e⟩
/-- At the start: nothing was told yet, and the sender has sent i. -/
theorem LOn.sent {w0 : World} {N : List Int} {i p q b : Nat} {nv : Value} {nets : List FV} {wr w' : World} {r : Rcv} (h : LOn w0 N i p q b 0 0 0 0 0 r nv (.slice none 0 0) nets wr) {lv lv' : Value} {ks ks' : List (FV × Int)} (hs : SndAt wr w0.heap.size none p (oks N i) lv ks) (k : Keep (fun g => g = p ∨ lv.ownBlock = some g) wr w') (hs' : SndAt w' w0.heap.size none p (oks N (i + 1)) lv' ks') :
    LOn w0 N (i + 1) p q b 0 0 0 0 0 r nv (.slice none 0 0) nets w' := by
  rw [oks_osn] at hs hs'
  have h1 : LOn w0 N (i + 1) p q b 0 0 0 0 0 r nv (.slice none 0 0) nets wr → True := fun _ => trivial
  obtain ⟨ms, hr⟩ := h.rcv
  have hwr : Wr wr w0.heap.size none fun g => g = p ∨ lv.ownBlock = some g := (Wr.blk hs.hp (by decide) hs.lo).or (Wr.row hs.hl (by decide))
  refine ⟨hs.ext_of h.ext k, ⟨lv', ks', hs'⟩, ⟨ms, RcvAt.beside hs hr k⟩, h.net.keep k hwr fun g hg => ?_, h.told.keep k fun g hg => (by cases hg), ⟨h.orc.fr, h.orc.to, h.orc.due, by have := h.orc.le; omega, h.orc.wait.mono (by omega), h.orc.len⟩, h.st, fun x hx => ?_, Nat.le_refl _, Nat.le_refl _, by omega, by omega, by omega⟩
  · obtain ⟨cc, hc⟩ := own_ty h.net.row hg
    intro e
    rcases e with e | e
    · exact hc.ty_ne hs.hp (by decide) e
    · obtain ⟨c', hc'⟩ := own_ty hs.hl e
      exact hc.ty_ne hc' (by decide) rfl
  · obtain ⟨j, hj, e⟩ := h.all x hx
    exact ⟨j, by omega, e⟩
end Go.Proofs.YtcfopaopcbjkeaaDoor
