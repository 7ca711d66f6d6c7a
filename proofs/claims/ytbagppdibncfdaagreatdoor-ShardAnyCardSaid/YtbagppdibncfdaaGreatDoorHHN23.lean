/- Texts of one proof, put together: X1 S6 X7 X8 WG WH WI. -/
import Derived.Test.YtbagppdibncfdaaGreatDoorHHN07
import Derived.Test.YtbagppdibncfdaaGreatDoorHHN08
import Derived.Test.YtbagppdibncfdaaGreatDoorHHN09
import Derived.Test.YtbagppdibncfdaaGreatDoorHHN11
import Derived.Test.YtbagppdibncfdaaGreatDoorHHN12
import Derived.Test.YtbagppdibncfdaaGreatDoorHHN16
import Derived.Test.YtbagppdibncfdaaGreatDoorHHN18
import Derived.Test.YtbagppdibncfdaaGreatDoorHHN22
import Derived.Test.YtbagppdibncfdaaGreatDoorHHN01
set_option linter.unusedSimpArgs false
set_option linter.unusedVariables false
namespace Go.Proofs.YtbagppdibncfdaaGreatDoor
open Go Go.RowKit
theorem bools_info : (Tryz.prog.info? 4).map (fun i => (i.zero, i.size, i.bytes)) = some (some (.bool false), 1, 1) := by kernel_rfl
def seen (l : List Int) : List Value := (List.range 1000).map fun n : Nat => Value.bool (decide ((n : Int) ∈ l))
theorem seen_len (l : List Int) : (seen l).length = 1000 := by simp [seen]
theorem seen_at (l : List Int) {n : Nat} (h : n < 1000) : (seen l)[n]? = some (.bool (decide ((n : Int) ∈ l))) := by
  unfold seen
  rw [List.getElem?_map, List.getElem?_range h]
  rfl
theorem seen_snoc (l : List Int) (q : Nat) : (seen l).toArray.setIfInBounds q (.bool true) = (seen (l ++ [(q : Int)])).toArray := by
  apply Array.ext_getElem?
  intro i
  rw [Array.getElem?_setIfInBounds]
  simp only [List.getElem?_toArray, List.size_toArray, seen_len]
  by_cases hi : i < 1000
  · rw [seen_at _ hi, seen_at _ hi]
    by_cases hq : q = i
    · subst hq
      rw [if_pos rfl, if_pos hi, decide_eq_true (by simp)]
    · rw [if_neg hq]
      congr 2
      exact decide_eq_decide.2 ⟨fun h => List.mem_append_left _ h, fun h => (List.mem_append.1 h).elim id fun g => absurd (List.mem_singleton.1 g) (by omega)⟩
  · have hn : ∀ m : List Int, (seen m)[i]? = none := fun m => List.getElem?_eq_none (by rw [seen_len]; omega)
    rw [hn, hn]
    by_cases hq : q = i
    · subst hq; rw [if_pos rfl, if_neg hi]
    · rw [if_neg hq]
theorem made_seen : (madeCells (Value.bool false).cells (1000 * 1)).toList = seen [] := by
  rw [show (Value.bool false).cells = #[Value.bool false] from rfl, toList_madeCells_one]
  apply List.ext_getElem?
  intro i
  by_cases hi : i < 1000
  · rw [seen_at _ hi, List.getElem?_replicate, if_pos (by omega), decide_eq_false (by simp)]
  · rw [List.getElem?_eq_none (by rw [List.length_replicate]; omega), List.getElem?_eq_none (by rw [seen_len]; omega)]
def setUp (l : List Int) (n : Nat) : List Int := ((List.range n).filter fun k : Nat => decide ((k : Int) ∈ l)).map fun k : Nat => (k : Int)
theorem setUp_full (l : List Int) : setUp l 1000 = sset l := rfl
theorem setUp_succ (l : List Int) (n : Nat) : setUp l (n + 1) = setUp l n ++ (if decide ((n : Int) ∈ l) then [(n : Int)] else []) := by
  unfold setUp
  rw [List.range_succ, List.filter_append, List.map_append]
  congr 1
  by_cases h : decide ((n : Int) ∈ l) = true
  · rw [if_pos h]; simp [h]
  · rw [if_neg h]; simp [h]
theorem setUp_len (l : List Int) (n : Nat) : (setUp l n).length ≤ n := by
  unfold setUp
  rw [List.length_map]
  have := List.length_filter_le (fun k : Nat => decide ((k : Int) ∈ l)) (List.range n)
  rw [List.length_range] at this
  exact this
set_option maxRecDepth 100000 in
set_option maxHeartbeats 1600000 in
theorem rsetof_any (v : Value) (l : List Int) (w : World) (n0 : Nat) (h : IntsR w n0 v l) (hin : InR l) :
    Calls Tryz.prog 48 #[v] w fun e w' => ∃ v', e = .returned v' ∧ Ext w w' ∧ IRow w.heap.size w' v' (sset l) := by
  have HS := hid h
  obtain ⟨a, cap, rfl, h2, h3, h4, _⟩ := h
  have H4 := hid h4
  have Hin := hid hin
  have hml : (l.length : Int) ≤ 9223372036854775807 := by omega
  clear h2 h3 h4 hin
  go_enter Tryz.func48, Tryz.ntmps48
  obtain ⟨bi, hbi, hbz, hbs, hbb⟩ := info_parts bools_info
  go_wp2_with (at_make; refine wpList_make_full w rfl _ _ _ rfl w.heap.size 4 bi (.bool false) 1 Tryz.underlying146 hbi hbz hbs .i64 .i64 1000 1000 1000 rfl rfl rfl rfl (by rw [hbb]; omega) (by unfold maxLen; omega) (Nat.le_refl _) ?_; intro w1 hrow hgr)
  have hx1 : Ext w w1 := Keep.new (Ext.refl w) (grown_keep hgr) (fun k hk => by cases hk)
  have Hx1 := hid hx1
  have HB1 : Hid (Blk w1 w.heap.size (seen []).toArray 4) := hid (by
    rcases hrow.2 with ⟨h1, _⟩ | ⟨g', cap', cur, h1, h2, h3, h4, h5, h6, h7⟩
    · simp at h1
    · simp only [Value.slice.injEq, Option.some.injEq, Addr.mk.injEq, and_true] at h1
      obtain ⟨rfl, _, rfl⟩ := h1
      have e : cur = (seen []).toArray := by
        have e1 : cur.toList = seen [] := by
          rw [← made_seen, ← h7, List.take_of_length_le (by rw [Array.length_toList]; omega)]
        rw [← e1]
      rw [← e]; exact h3)
  clear hx1 hrow hgr hbi hbz hbs hbb
  go_wp2
  go_loopw [4] (fun t4 wr => ∃ k : Nat, t4 = .int .i64 (k : Int) ∧ k ≤ l.length ∧ Blk wr w.heap.size (seen (l.take k)).toArray 4 ∧ Ext w wr) (fun t4 _ => l.length - (intOf t4).toNat)
  case atStart => exact ⟨0, rfl, Nat.zero_le _, HB1.out, Hx1.out⟩
  case round =>
    obtain ⟨k, rfl, hk, hB, hx⟩ := hrel
    have HB := hid hB
    have Hx := hid hx
    clear hB
    by_cases hlt : k < l.length
    · obtain ⟨y, rfl⟩ := H4.out (by omega)
      obtain ⟨q, hq⟩ : ∃ q, l[k]? = some q := ⟨_, List.getElem?_eq_getElem hlt⟩
      have hq01 := Hin.out q (List.mem_of_getElem? hq)
      obtain ⟨Q, rfl⟩ := Int.eq_ofNat_of_zero_le hq01.1
      have hQ : Q < 1000 := by omega
      obtain ⟨a', cap', h1, _, _, _, h5⟩ := HS.out.old (hx.old n0)
      obtain ⟨rfl, rfl⟩ : some y = a' ∧ cap = cap' := by simpa using h1
      have hc := (h5 y rfl (by omega)).2 k hlt _ hq
      have z0 := HB.out.av Q (by rw [List.getElem?_toArray]; exact seen_at _ hQ)
      have f0 := HB.out.free Q
      have Hn : Hid (seen (l.take (k + 1)) = seen (l.take k ++ [(Q : Int)])) := hid (by rw [List.take_add_one, hq]; rfl)
      have hB2 := HB.out.set Q (.bool true)
      rw [seen_snoc, ← Hn.out] at hB2
      have HB2 := hid hB2
      have HX2 := hid (Keep.new Hx.out (Keep.set (X := fun b => b = w.heap.size) (Keep.refl _ wr) rfl (.bool true) : Keep (fun b => b = w.heap.size) wr (wr.setCell ⟨w.heap.size, Q, none⟩ (.bool true))) fun b e => by subst e; exact Nat.le_refl _)
      clear hq hq01 h1 h5 hx hB2
      go_wp2
      go_roundw
      case rel => exact ⟨k + 1, by go_num, by omega, HB2.out, HX2.out⟩
      case measure => simp [intOf]; omega
    · obtain rfl : k = l.length := by omega
      rw [List.take_of_length_le (Nat.le_refl _)] at HB
      clear hx
      go_wp2
      go_loopw [5, 6] (fun t5 t6 wr => ∃ n : Nat, t6 = .int .i64 (n : Int) ∧ n ≤ 1000 ∧ IRow w.heap.size wr t5 (setUp l n) ∧ Blk wr w.heap.size (seen l).toArray 4 ∧ Ext w wr) (fun _ t6 _ => 1000 - (intOf t6).toNat)
      case atStart => exact ⟨0, rfl, Nat.zero_le _, IRow.nil _ _, HB.out, Hx.out⟩
      case round =>
        obtain ⟨n, rfl, hn, hr, hB, hx⟩ := hrel
        have hml2 : (setUp l n).length ≤ 1000 := Nat.le_trans (setUp_len l n) hn
        have hsu := setUp_succ l n
        obtain ⟨m, hm⟩ : ∃ m, m = setUp l n := ⟨_, rfl⟩
        rw [← hm] at hr hml2 hsu
        have Hm := hid hm
        have Hsu := hid hsu
        obtain ⟨a5, c5, rfl⟩ := hr.form
        have Hr := hid hr
        have HBs := hid hB
        have Hx3 := hid hx
        clear hm hr hB hx hsu
        by_cases hlt : n < 1000
        · have z0 := HBs.out.av n (by rw [List.getElem?_toArray]; exact seen_at _ hlt)
          obtain ⟨bq, hbq⟩ : ∃ bq, bq = decide ((n : Int) ∈ l) := ⟨_, rfl⟩
          rw [← hbq] at z0 Hsu
          clear hbq
          cases bq with
          | true =>
            have Hn : Hid (setUp l (n + 1) = m ++ [(n : Int)]) := hid (by rw [Hsu.out]; rfl)
            have hxa : Hid (Ext w (wr.alloc (.cells #[.int .i64 (n : Int)] 3))) := hid (Hx3.out.alloc _)
            have Hra : Hid (IRow w.heap.size (wr.alloc (.cells #[.int .i64 (n : Int)] 3)) (.slice a5 m.length c5) m) := hid (Hr.out.ext ((Ext.refl _).alloc _))
            have HBa : Hid (Blk (wr.alloc (.cells #[.int .i64 (n : Int)] 3)) w.heap.size (seen l).toArray 4) := hid (HBs.out.ext ((Ext.refl _).alloc _))
            go_wp2_with (at_builtin; refine wpList_append_el w.heap.size hxa.out.size 45 3 (.int .i64 0) 1 8 Tryz.underlying45 ints_info rfl (by omega) (by omega) rfl _ _ rfl (.slice a5 m.length c5) m.length (icells m) rfl Hra.out wr.heap.size [.int .i64 (n : Int)] rfl (by simp [Value.oneCell']) rfl (Blk.new _ _ _) (by omega) ?_; intro v' w' h1 h2 h4; obtain ⟨a', c', rfl⟩ := row_form h1; have h3 := hid (Keep.new hxa.out h2 (fun k hk => (Hra.out.lt hk).1)); have hb5 := hid (HBa.out.keep h2 (fun e => by obtain ⟨c, hc⟩ := own_ty Hra.out e; exact Blk.ty_ne hc HBa.out (by decide) rfl)); have h1 := hid h1; clear h2 h4)
            go_roundw
            case rel => exact ⟨n + 1, by go_num, by omega, by rw [Hn.out]; have := h1.out; unfold IRow; rw [icells_append, List.length_append]; exact this, hb5.out, h3.out⟩
            case measure => simp [intOf]; omega
          | false =>
            have Hn : Hid (setUp l (n + 1) = m) := hid (by rw [Hsu.out]; simp)
            go_wp2
            go_roundw
            case rel => exact ⟨n + 1, by go_num, by omega, by rw [Hn.out]; exact Hr.out, HBs.out, Hx3.out⟩
            case measure => simp [intOf]; omega
        · obtain rfl : n = 1000 := by omega
          have Hn : Hid (m = sset l) := hid (by rw [Hm.out, setUp_full])
          go_wp2
          go_ret
          exact ⟨_, rfl, Hx3.out, by rw [← Hn.out]; exact Hr.out⟩
theorem own_not {w : World} {base : Nat} {e : TypeId} {size : Nat} {v : Value} {n : Nat} {xs : List Value} (h : w.ownsRow base e size v n xs) {B : Nat} {c : Array Value} {t : TypeId} (hB : Blk w B c t) (hne : e ≠ t) : ¬ v.ownBlock = some B := fun e => by
  obtain ⟨c', hc'⟩ := own_ty h e
  exact Blk.ty_ne hc' hB hne rfl
theorem does_append_src4 {ops : Array Oper} {o : Oper} {a : Act} {w : World} {R : Value → World → Prop} (base : Nat) (hbase : base ≤ w.heap.size) (t e : TypeId) (z : Value) (size bytes : Nat) (ht : Tryz.prog.underlying t = some (.slice e)) (hinf : (Tryz.prog.info? e).map (fun i => (i.zero, i.size, i.bytes)) = some (some z, size, bytes)) (hz1 : z.cells.size = size) (hsz : 0 < size)
    (hb8 : bytes ≤ 64) (hg : o.guard = none) (s x : Operand) (ho : o.op = .call { callee := .builtin .append, args := #[s, x], argTypes := #[t, t] })
    (v : Value) (n : Nat) (xs : List Value) (hs : a.eval s = v) (hown : w.ownsRow base e size v n xs) (ad : Option Addr) (m c : Nat) (us : List Value) (hx : a.eval x = .slice ad m c) (hsrc : Src w ad m size us) (hl : n + m ≤ 1000000)
    (h : ∀ v' w', w'.ownsRow base e size v' (n + m) (xs ++ us) → Keep (fun k => v.ownBlock = some k) w w' → (∀ k, v'.ownBlock = some k → v.ownBlock = some k ∨ w.heap.size ≤ k) → R v' w') : does Tryz.prog ops o a w R := by
  obtain ⟨v', w', hr, h2, h3, h4⟩ := run_append_src w base hbase t e z size bytes ht hinf hz1 hsz hb8 o.type v n xs hown ad m c us hsrc hl
  exact does_of_run hg (run_exec_append s x t ho hs hx hr) (h v' w' h2 h3 h4)
theorem BagAt.inr {P : PP} {has : List (List Int)} {EL : List (Int × Int)} {k m : Nat} {B : List (List Int)} (h : BagAt P has EL k m B) {l : List Int} (hl : l ∈ B) : InR l := fun x hx => by
  obtain ⟨S, h1, h2, h3⟩ := h.set
  obtain ⟨i, hi, rfl⟩ := List.getElem_of_mem hl
  have hx' : x ∈ B.getD i [] := by rw [List.getD_eq_getElem?_getD, List.getElem?_eq_getElem hi]; exact hx
  exact (chkE_zero.1 (h1.ok _ (getD_mem (by rw [← h2]; exact hi)))).1 x ((h3 i x).1 hx')
theorem own_pos {w : World} {base g : Nat} {e : TypeId} {size n cap : Nat} {xs : List Value} (h : w.ownsRow base e size (.slice (some ⟨g, 0, none⟩) n cap) n xs) : ∃ c, Blk w g c e ∧ base ≤ g := by
  obtain ⟨c, h1, h2, _⟩ := own_blk h
  exact ⟨c, h1, h2⟩
def NewS (w : World) (base : Nat) (v : Value) : Prop := ∀ y n c, v = .slice (some y) n c → 0 < n → base ≤ y.block ∧ ∀ i u, i < n → w.cell? (y.add i) = some u → ∀ b, u.ownBlock = some b → base ≤ b
theorem NewS.ext {w w' : World} {base n0 : Nat} {v : Value} {L : List (List Int)} (h : NewS w base v) (hs : SetsR w n0 v L) (x : Ext w w') : NewS w' base v := by
  intro y n c e h0
  obtain ⟨k1, k2⟩ := h y n c e h0
  refine ⟨k1, fun i u hi hu b hb => ?_⟩
  obtain ⟨a, cap, g1, g2, g3, g4, g5⟩ := hs
  subst e
  obtain ⟨rfl, rfl, rfl⟩ : some y = a ∧ n = L.length ∧ c = cap := by simpa using g1
  obtain ⟨u0, hu0, _⟩ := (g5 y rfl h0).2 i hi _ (List.getElem?_eq_getElem hi)
  have := x.cellx hu0
  rw [hu] at this
  obtain rfl := Option.some.inj this
  exact k2 i _ hi hu0 b hb
theorem NewS.low {w : World} {base b2 : Nat} {v : Value} (h : NewS w base v) (hb : b2 ≤ base) : NewS w b2 v := fun y n c e h0 => ⟨Nat.le_trans hb (h y n c e h0).1, fun i u hi hu b hb' => Nat.le_trans hb ((h y n c e h0).2 i u hi hu b hb')⟩
theorem NewS.made {w : World} {base n : Nat} {v : Value} {vs : List Value} (h : w.ownsRow base 45 1 v n vs) (hn : ∀ u ∈ vs, ∀ b, u.ownBlock = some b → base ≤ b) : NewS w base v := by
  intro y m c e h0
  rcases h.2 with ⟨rfl, h0⟩ | ⟨g, cap, cur, rfl, hb, hg, hn', hc, hcs, ht⟩
  · cases e
  · obtain ⟨rfl, rfl, rfl⟩ : (⟨g, 0, none⟩ : Addr) = y ∧ n = m ∧ cap = c := by simpa using e
    refine ⟨hb, fun i u hi hu b hub => ?_⟩
    have hl : vs.length = n := by have := h.1; omega
    have h2 := own_get h i (List.getElem?_eq_getElem (show i < vs.length by omega))
    rw [show (⟨g, 0, none⟩ : Addr).add i = ⟨g, i, none⟩ from by by_cases h0 : i = 0 <;> simp [Addr.add, h0], h2] at hu
    obtain rfl := Option.some.inj hu
    exact hn _ (List.getElem_mem _) b hub
theorem Bags.newB {w : World} {base : Nat} {vs : List Value} {B : List (List Int)} (h : Bags w base vs B) : ∀ u ∈ vs, ∀ b, u.ownBlock = some b → base ≤ b := fun u hu b hb => by
  obtain ⟨i, hi⟩ := List.getElem?_of_mem hu
  have hil : i < B.length := by rw [← h.len]; exact (List.getElem?_eq_some_iff.1 hi).1
  exact (World.ownsRow.lt (h.row i u _ hi (List.getElem?_eq_getElem hil)) b hb).1
set_option maxRecDepth 100000 in
set_option maxHeartbeats 6400000 in
theorem rroundof_new (a1 a2 a3 : Option Addr) (c1 c2 c3 : Nat) (P : PP) (hv : Value) (has : List (List Int)) (w : World) (n0 : Nat) (h : ProgR w n0 (.slice a1 P.vars.length c1) (.slice a2 P.funs.length c2) (.slice a3 P.stmts.length c3) P) (hg : P.GoodS has) (hh : SetsR w n0 hv has) (hn0 : n0 ≤ w.heap.size) :
    Calls Tryz.prog 81 #[pval a1 a2 a3 c1 c2 c3 P, hv] w fun e w' => ∃ a c, e = .returned (.slice a has.length c) ∧ SetsR w' w'.heap.size (.slice a has.length c) (P.roundV has) ∧ NewS w' w.heap.size (.slice a has.length c) ∧ Ext w w' := by
  obtain ⟨ah, ch, rfl⟩ := hh.form
  have hhl := hh.len
  have Hg := hid hg
  have HA := hid (edgesL_are hg)
  have hEl := edgesL_len hg.1 has
  obtain ⟨hf1, hf2, hf3⟩ := hg.1.few
  have hN6 : has.length ≤ 120 := by have := nodesV_le P hg.1; have := hg.2.1; omega
  obtain ⟨W, hW⟩ : ∃ W, W = w.alloc (.cells (pcells a1 a2 a3 c1 c2 c3 P) 26) := ⟨_, rfl⟩
  have HX : Hid (Ext w W) := hid (by rw [hW]; exact (Ext.refl _).alloc _)
  have HBx : Hid (Blk W w.heap.size (pcells a1 a2 a3 c1 c2 c3 P) 26) := hid (by rw [hW]; exact Blk.new _ _ _)
  have HWe : Hid (W = w.alloc (.cells #[.slice a1 P.vars.length c1, .slice a2 P.funs.length c2, .slice a3 P.stmts.length c3] 26)) := hid (by rw [hW]; rfl)
  have HRu := fun k (hk : k < P.stmts.length) w1 (x : Ext w w1) => hid (rruleof_any a1 a2 a3 c1 c2 c3 P k _ (stAt_some hk) w1 n0 (h.ext x) hg.1)
  have HEo := fun w1 (x : Ext w w1) => hid (redgesof_any a1 a2 a3 c1 c2 c3 P (.slice ah has.length ch) has w1 n0 (h.ext x) hg.1 (hh.ext x) hg.2.1 (Nat.le_trans hn0 x.size))
  have HH := hid (hh.ext HX.out)
  have Hn0 := hid hn0
  obtain ⟨EL, hEL⟩ : ∃ EL, EL = P.edgesL has := ⟨_, rfl⟩
  have hEL' : P.refE has P.nodesV = EL := hEL.symm
  rw [hEL'] at HEo
  have Hel := hid hEL
  rw [← hEL] at HA hEl
  have Hvn := hid (nodes_vars P)
  unfold pval at HRu HEo ⊢
  clear h hg hh hW hn0 hEL hEL'
  go_enter Tryz.func81, Tryz.ntmps81
  go_wp2
  rw [← HWe.out]
  go_loopw [5, 6] (fun t5 t6 wr => ∃ (k : Nat) (vs : List Value), t6 = .int .i64 (k : Int) ∧ k ≤ has.length ∧ wr.ownsRow W.heap.size 45 1 t5 k vs ∧ Bags wr W.heap.size vs (has.take k) ∧ Ext W wr) (fun _ t6 _ => has.length - (intOf t6).toNat)
  case atStart => exact ⟨0, [], rfl, Nat.zero_le _, World.ownsRow_nil _ _ _ _, Bags.nil _ _, Ext.refl _⟩
  case round =>
    obtain ⟨k, vs, rfl, hk, hr, hb, hx⟩ := hrel
    obtain ⟨a5, c5, rfl⟩ := row_form hr
    have Hr := hid hr
    have Hb := hid hb
    have Hx := hid hx
    clear hr hb hx
    by_cases hlt : k < has.length
    · obtain ⟨y, l, bl, cl, hya, hl, hc, hI⟩ := (HH.out.ext Hx.out).at hlt
      subst hya
      have hlk := (Hg.out.ok.ok l (List.mem_of_getElem? hl)).1
      have hll := srt_few hlk
      have HIn := hid (hI.ints (fun i => by
        by_cases hi : i < l.length
        · have := (chkE_zero.1 hlk).1 (l.getD i 0) (by rw [List.getD_eq_getElem?_getD, List.getElem?_eq_getElem hi]; exact List.getElem_mem hi)
          omega
        · rw [List.getD_eq_getElem?_getD, List.getElem?_eq_none (by omega)]; decide))
      have Hl := hid hl
      clear hl hI hlk
      go_wp2_with (at_builtin; first
        | (refine wpList_append_ints wr.heap.size (Nat.le_refl _) rfl _ _ rfl (.slice none 0 0) [] rfl (World.ownsRow_nil _ _ _ _) bl l.length cl l rfl HIn.out (by simp; omega) ?_; intro v3 w3 h1 h2; have hx3 := grown_ext (Ext.refl wr) (World.ownsRow_nil wr wr.heap.size 3 1) h2; rw [List.nil_append] at h1; obtain ⟨a3', c3', rfl⟩ := h1.form; have Hx3 := hid hx3; have Hr3 := hid h1; have hxa : Hid (Ext W (w3.alloc (.cells #[.slice a3' l.length c3'] 45))) := hid ((Hx.out.trans Hx3.out).alloc _); have hx3a : Hid (Ext wr (w3.alloc (.cells #[.slice a3' l.length c3'] 45))) := hid (Hx3.out.alloc _); have Hra := hid (own_ext Hr.out hx3a.out); have Hba := hid ((Hb.out.push Hx3.out (own_low Hr3.out Hx.out.size) (fun b e => (World.ownsRow.lt Hr3.out b e).1)).ext ((Ext.refl w3).alloc (.cells #[.slice a3' l.length c3'] 45))); clear h1 h2 hx3)
        | (refine wpList_append_el W.heap.size hxa.out.size 51 45 (.slice none 0 0) 1 24 Tryz.underlying51 rows_info rfl (by omega) (by omega) rfl _ _ rfl (.slice a5 k c5) k vs rfl Hra.out w3.heap.size [.slice a3' l.length c3'] rfl (by simp [Value.oneCell']) rfl (Blk.new _ _ _) (by omega) ?_; intro v' w' h1 h2 h4; obtain ⟨a', c', rfl⟩ := row_form h1; have h3 := hid (Keep.new hxa.out h2 (fun k hk => (World.ownsRow.lt Hra.out k hk).1)); have hm5 := hid (Hba.out.keep h2 (fun b e => by obtain ⟨c, hc⟩ := own_ty Hra.out e; exact IsInt.not hc (by decide))); have h1 := hid h1; clear h2 h4))
      go_roundw
      case rel =>
        refine ⟨k + 1, _, by go_num, by omega, h1.out, ?_, h3.out⟩
        rw [List.take_add_one, Hl.out]
        exact hm5.out
      case measure => simp [intOf]; omega
    · obtain rfl : k = has.length := by omega
      rw [List.take_of_length_le (Nat.le_refl _)] at Hb
      clear hlt hk
      go_wp2
      go_loopw [8] (fun t8 wr => ∃ (k : Nat) (vs : List Value) (B : List (List Int)), t8 = .int .i64 (k : Int) ∧ k ≤ P.stmts.length ∧ BagAt P has EL k 0 B ∧ wr.ownsRow W.heap.size 45 1 (.slice a5 has.length c5) has.length vs ∧ Bags wr W.heap.size vs B ∧ Ext W wr) (fun t8 _ => P.stmts.length - (intOf t8).toNat)
      case atStart => exact ⟨0, vs, has, rfl, Nat.zero_le _, BagAt.start Hg.out EL, Hr.out, Hb.out, Hx.out⟩
      case round =>
        clear Hr Hb Hx
        obtain ⟨k, vs, B, rfl, hk, hba, hr, hb, hx⟩ := hrel
        have HBa := hid hba
        have Hr := hid hr
        have Hb := hid hb
        have Hx := hid hx
        have HBl := hid hba.len
        clear hba hr hb hx
        have d0 := (HBx.out.ext Hx.out).av 0 rfl
        have d1 := (HBx.out.ext Hx.out).av 1 rfl
        have d2 := (HBx.out.ext Hx.out).av 2 rfl
        simp only [pcells, qA0, qA1, qA2] at d0 d1 d2
        by_cases hlt : k < P.stmts.length
        · have HC := HRu k hlt wr (HX.out.trans Hx.out)
          obtain ⟨s1, s2, s3, _, _, _⟩ := rule_same (Hg.out.1.2 k (P.stAt k) hlt (stAt_some hlt)) k
          have hra := rule_a_in Hg.out.1 hlt
          rw [← s2] at hra
          have hrb := fun hb => base_b_in Hg.out.1 hlt hb
          rw [← s1, ← s3] at hrb
          have hob := objects_few Hg.out.1
          obtain ⟨r, hr⟩ : ∃ r, r = P.ruleR k (P.stAt k) := ⟨_, rfl⟩
          rw [← hr] at HC s1 s2 s3 hra hrb
          have Hs := hid (And.intro s1 (And.intro s2 s3))
          have Hra := hid hra
          have Hrb := hid hrb
          clear hr s1 s2 s3 hra hrb
          go_wp2_with fail
          refine HC.out.mono ?_
          intro e w2 hx
          obtain ⟨av, rfl, hI, hx2⟩ := hx
          obtain ⟨aa, ca, hav, _⟩ := id hI
          subst hav
          unfold RV.val
          obtain ⟨V, hV⟩ : ∃ V, V = w2.alloc (.cells #[.string r.kind, .int .i64 r.a, .int .i64 r.b, .int .i64 r.k, .slice aa r.args.length ca] 166) := ⟨_, rfl⟩
          have hxV : Ext w2 V := by rw [hV]; exact (Ext.refl _).alloc _
          have HBr : Hid (Blk V w2.heap.size #[.string r.kind, .int .i64 r.a, .int .i64 r.b, .int .i64 r.k, .slice aa r.args.length ca] 166) := hid (by rw [hV]; exact Blk.new _ _ _)
          have HVe := hid hV
          have HrV := hid (hx2.trans hxV)
          have HxV := hid (Hx.out.trans (hx2.trans hxV))
          clear HC hI hx2 hxV hV d0 d1 d2
          cases hkb : (r.kind.toList == [98, 97, 115, 101]) with
          | true =>
            have hkl : r.kind.toList = bBase.toList := (eq_of_beq hkb).trans (eq_of_beq bBase_list).symm
            have Hkb : Hid ((P.ruleV k (P.stAt k)).kind.toList = bBase.toList) := hid (by rw [← Hs.out.1]; exact hkl)
            have Hb01 : Hid (0 ≤ r.b ∧ r.b < 1000) := hid (by have := Hrb.out hkl; omega)
            obtain ⟨A, hA⟩ := Int.eq_ofNat_of_zero_le Hra.out.1
            have hAl : A < has.length := by have := Hra.out.2; have := Hvn.out; have := Hg.out.2.1; omega
            have hAB : A < B.length := by rw [HBl.out]; exact hAl
            have hAv : A < vs.length := by rw [Hb.out.len]; exact hAB
            obtain ⟨vA, hvA⟩ : ∃ vA, vs[A]? = some vA := ⟨_, List.getElem?_eq_getElem hAv⟩
            obtain ⟨lA, hlA⟩ : ∃ lA, lA = B.getD A [] := ⟨_, rfl⟩
            have hBA : B[A]? = some lA := by rw [hlA, List.getD_eq_getElem?_getD, List.getElem?_eq_getElem hAB]; rfl
            have hRowA := (Hb.out.ext HrV.out).row A vA lA hvA hBA
            obtain ⟨aA, cA, rfl⟩ := hRowA.form
            obtain ⟨g5, cp5, hge⟩ := own_some Hr.out (by omega)
            simp only [Value.slice.injEq] at hge
            obtain ⟨rfl, -, rfl⟩ := hge
            have hrV := own_ext Hr.out HrV.out
            obtain ⟨cc5, hb5, hg5⟩ := own_pos hrV
            have HfA : Hid (lA.length ≤ 500000) := hid (by have h1 := HBa.out.few A; rw [← hlA, cntE_zero] at h1; omega)
            have hn5 := own_not hRowA hb5 (by decide)
            have c0 : ∀ w1, Keep (fun q => (Value.slice aA lA.length cA).ownBlock = some q) V w1 → w1.cell? ⟨g5, A, none⟩ = some (.slice aA lA.length cA) := fun w1 k => k.cellx (own_get hrV A hvA) hn5
            have m1 := HBr.out.kc (X := fun q => (Value.slice aA lA.length cA).ownBlock = some q) (own_not hRowA HBr.out (by decide)) 1 rfl
            have m2 := HBr.out.kc (X := fun q => (Value.slice aA lA.length cA).ownBlock = some q) (own_not hRowA HBr.out (by decide)) 2 rfl
            have m0 := HBr.out.av 0 rfl
            simp only [qA0, qA1, qA2] at m0 m1 m2
            rw [HVe.out] at m0
            rw [hA] at m1
            have Hst := hid (BagAt.base HBa.out Hkb.out (by rw [← Hs.out.2.1]; exact hA) (by rw [← Hs.out.2.2]) Hb01.out hAl)
            obtain ⟨lB, hlB⟩ : ∃ lB, lB = lA ++ [r.b] := ⟨_, rfl⟩
            rw [← hlA, ← hlB] at Hst
            have HlB := hid hlB
            have HRowA := hid hRowA
            have HvA := hid hvA
            have HAv := hid hAv
            have Hn5 := hid hn5
            have HrowV := hid hrV
            have Hb5 := hid hb5
            have Hg5 := hid hg5
            clear hkl hA hvA hlA hBA hRowA hrV hb5 hg5 hn5 hlB
            go_wp2
            rw [← HVe.out]
            clear m0
            refine wp_flowT (fun q => (Value.slice aA lA.length cA).ownBlock = some q) (by kernel_rfl) (by kernel_rfl) ?_
            repeat (apply FlowT.d; (intro w1 hk; unfold does; go_simp; (try go_ints); (first | exact DetR.mk | (simp only [↓IntWalk.iteOmega, Oper.doesUpon_value]; exact DetR.mk) | (simp only [↓IntWalk.iteOmega]; go_simp; (try go_ints); exact DetR.mk))); simp only [Act.put, qS0, qS1, qS2])
            refine FlowT.s (fun v w' => (∃ b, v = .slice (some ⟨b, 0, none⟩) 1 1) ∧ (∀ b, v = .slice (some ⟨b, 0, none⟩) 1 1 → Blk w' b #[.int .i64 r.b] 3) ∧ Ext V w') 7 rfl (by kernel_rfl) (fun _ _ _ ⟨h1, h2, h3⟩ y => ⟨h1, fun b e => (h2 b e).ext y, h3.trans y⟩) (fun wa hC hk2 => ?_) ?_
            · unfold does
              go_simp
              exact ⟨hk2.alloc _, ⟨_, rfl⟩, fun b e => by
                obtain rfl : wa.heap.size = b := by simpa using e
                exact Blk.new _ _ _, hC.alloc _⟩
            rintro _ ⟨_, ⟨bq, rfl⟩, _, _⟩
            simp only [Act.put, qS0, qS1, qS2]
            refine FlowT.s (fun v w' => IRow W.heap.size w' v lB ∧ (∀ q, v.ownBlock = some q → (Value.slice aA lA.length cA).ownBlock = some q ∨ V.heap.size ≤ q)) 8 rfl (by kernel_rfl) (fun _ _ _ ⟨h1, h2⟩ y => ⟨own_ext h1 y, h2⟩) (fun wa hC hk2 => ?_) ?_
            · obtain ⟨_, hB, hxa⟩ := hC
              refine does_append_el W.heap.size (Nat.le_trans HxV.out.size hxa.size) 45 3 (.int .i64 0) 1 8 Tryz.underlying45 ints_info rfl (by omega) (by omega) rfl _ _ rfl (.slice aA lA.length cA) lA.length (icells lA) rfl (own_ext HRowA.out hxa) bq [.int .i64 r.b] rfl (by simp [Value.oneCell']) rfl (hB bq rfl) (by have := HfA.out; omega) (fun v' w' h1 h2 h4 => ?_)
              refine ⟨(hxa.keep _).trans h2, ?_, fun q hq => ?_⟩
              · rw [HlB.out]
                unfold IRow
                rw [List.length_append, icells_append]
                exact h1
              · rcases h4 with h | h
                · exact .inl (h ▸ hq)
                · rw [h] at hq
                  obtain rfl := Option.some.inj hq
                  exact .inr hxa.size
            rintro v3 ⟨w3', h3, _⟩
            obtain ⟨a3, c3, rfl⟩ := h3.form
            clear h3
            simp only [Act.put, qS0, qS1, qS2]
            repeat (apply FlowT.d; (intro w1 hk; unfold does; go_simp; (try go_ints); (first | exact DetR.mk | (simp only [↓IntWalk.iteOmega, Oper.doesUpon_value]; exact DetR.mk) | (simp only [↓IntWalk.iteOmega]; go_simp; (try go_ints); exact DetR.mk))); simp only [Act.put, qS0, qS1, qS2])
            refine FlowT.fin fun w6 hC hk6 => ?_
            obtain ⟨hr3, ho3⟩ := hC
            have hrow6 := row_keep HrowV.out hk6 (fun i hi => by obtain rfl := Option.some.inj hi; exact Hn5.out)
            obtain ⟨cc6, hb6, _⟩ := own_pos hrow6
            have z0 := c0 w6 hk6
            have f0 := own_free hrow6 A
            have n1 := m1 w6 hk6
            have Hbags := hid ((Hb.out.ext HrV.out).app HAv.out HvA.out hr3 hk6 ho3)
            have Hset := hid (own_set hrow6 A HAv.out (.slice a3 lB.length c3))
            have Hbs := hid (Hbags.out.keep (Keep.set (X := fun q => q = g5) (p := ⟨g5, A, none⟩) (Keep.refl _ w6) rfl (.slice a3 lB.length c3)) (fun b e => by rw [e]; exact IsInt.not hb6 (by decide)))
            have Hx6 : Hid (Ext W (w6.setCell ⟨g5, A, none⟩ (.slice a3 lB.length c3))) := hid (Keep.new HxV.out ((hk6.mono (Y := fun q => q = g5 ∨ (Value.slice aA lA.length cA).ownBlock = some q) fun _ _ h => .inr h).set (.inl rfl) _) (fun q h => by
              rcases h with h | h
              · rw [h]; exact Hg5.out
              · exact (World.ownsRow.lt HRowA.out q h).1))
            clear hr3 ho3 hrow6 hb6 hk6 c0 m1 m2 hkb
            go_wp2
            go_roundw
            case rel => exact ⟨k + 1, _, _, by go_num, by omega, Hst.out, Hset.out, Hbs.out, Hx6.out⟩
            case measure => simp [intOf]; omega
          | false =>
            have Hkb : Hid ((P.ruleV k (P.stAt k)).kind.toList ≠ bBase.toList) := hid (by
              rw [← Hs.out.1]
              intro h
              rw [h, bBase_list] at hkb
              cases hkb)
            have m0 := HBr.out.av 0 rfl
            simp only [qA0, qA1, qA2] at m0
            rw [HVe.out] at m0
            go_wp2
            rw [← HVe.out]
            go_roundw
            case rel => exact ⟨k + 1, vs, B, by go_num, by omega, HBa.out.skip Hkb.out, own_ext Hr.out HrV.out, Hb.out.ext HrV.out, HxV.out⟩
            case measure => simp [intOf]; omega
        · obtain rfl : k = P.stmts.length := by omega
          have HC := HEo wr (HX.out.trans Hx.out)
          clear HRu HEo
          go_wp2_with fail
          refine HC.out.mono ?_
          intro e w2 hx
          obtain ⟨v, rfl, hr, hx2⟩ := hx
          unfold RERow at hr
          obtain ⟨av, cv, rfl⟩ := row_form hr
          have HrE := hid (own_low hr (Nat.zero_le _))
          have HxB := hid (Hx.out.trans hx2)
          have HrB := hid (own_ext Hr.out hx2)
          have HbB := hid (Hb.out.ext hx2)
          have HHn := hid (show n0 ≤ W.heap.size from Nat.le_trans Hn0.out HX.out.size)
          clear HC hr hx2 d0 d1 d2 hlt hk
          go_wp2
          go_loopw [12] (fun t12 wr => ∃ (i : Nat) (vs : List Value) (B : List (List Int)), t12 = .int .i64 (i : Int) ∧ i ≤ EL.length ∧ BagAt P has EL P.stmts.length i B ∧ wr.ownsRow W.heap.size 45 1 (.slice a5 has.length c5) has.length vs ∧ Bags wr W.heap.size vs B ∧ wr.ownsRow 0 170 2 (.slice av EL.length cv) EL.length (EL.flatMap eCells) ∧ Ext W wr) (fun t12 _ => EL.length - (intOf t12).toNat)
          case atStart => exact ⟨0, vs, B, rfl, Nat.zero_le _, HBa.out, HrB.out, HbB.out, HrE.out, HxB.out⟩
          case round =>
            clear HrE HxB HrB HbB HBa Hr Hb Hx HBl
            obtain ⟨i, vs, B, rfl, hi, hba, hr, hb, hre, hx⟩ := hrel
            have HBa := hid hba
            have Hr := hid hr
            have Hb := hid hb
            have Hre := hid hre
            have Hx := hid hx
            have HBl := hid hba.len
            clear hba hr hb hre hx
            by_cases hil : i < EL.length
            · obtain ⟨g, cp, hge⟩ := own_some Hre.out (by omega)
              simp only [Value.slice.injEq] at hge
              obtain ⟨rfl, -, rfl⟩ := hge
              obtain ⟨⟨x, z⟩, hxk⟩ : ∃ x, EL[i]? = some x := ⟨_, List.getElem?_eq_getElem hil⟩
              obtain ⟨q0, q1⟩ := own_e2 Hre.out hxk
              have hin := edges0_in Hg.out.1 Hg.out.ok _ ((HA.out.mem _).1 (List.mem_of_getElem? hxk)).1
              unfold PP.InN at hin
              obtain ⟨i1, i2, i3, i4⟩ := hin
              simp only at i1 i2 i3 i4
              obtain ⟨A, rfl⟩ := Int.eq_ofNat_of_zero_le i1
              obtain ⟨Z, rfl⟩ := Int.eq_ofNat_of_zero_le i3
              have hAl : A < has.length := by have := Hg.out.2.1; omega
              have hZl : Z < has.length := by have := Hg.out.2.1; omega
              obtain ⟨y, l, bl, cl, hya, hl, hc, hI⟩ := HH.out.at hAl
              subst hya
              have hZB : Z < B.length := by rw [HBl.out]; exact hZl
              have hZv : Z < vs.length := by rw [Hb.out.len]; exact hZB
              obtain ⟨vZ, hvZ⟩ : ∃ vZ, vs[Z]? = some vZ := ⟨_, List.getElem?_eq_getElem hZv⟩
              obtain ⟨lZ, hlZ⟩ : ∃ lZ, lZ = B.getD Z [] := ⟨_, rfl⟩
              have hBZ : B[Z]? = some lZ := by rw [hlZ, List.getD_eq_getElem?_getD, List.getElem?_eq_getElem hZB]; rfl
              have hRowZ := Hb.out.row Z vZ lZ hvZ hBZ
              obtain ⟨aZ, cZ, rfl⟩ := hRowZ.form
              obtain ⟨g5, cp5, hge⟩ := own_some Hr.out (by omega)
              simp only [Value.slice.injEq] at hge
              obtain ⟨rfl, -, rfl⟩ := hge
              obtain ⟨cc5, hb5, hg5⟩ := own_pos Hr.out
              obtain ⟨cce, hbe, _⟩ := own_pos Hre.out
              have hn5 := own_not hRowZ hb5 (by decide)
              have hne := own_not hRowZ hbe (by decide)
              have hlow : ∀ q, (Value.slice aZ lZ.length cZ).ownBlock = some q → W.heap.size ≤ q := fun q e => (World.ownsRow.lt hRowZ q e).1
              have hlk := (Hg.out.ok.ok l (List.mem_of_getElem? hl)).1
              have hll := srt_few hlk
              have HfZ : Hid (lZ.length ≤ 500000) := hid (by
                have h1 := HBa.out.few Z
                have h2 := cntE_few (N := P.nodesV) HA.out.srt (fun e he => by
                  have := edges0_in Hg.out.1 Hg.out.ok _ ((HA.out.mem _).1 he).1
                  exact ⟨this.1, this.2.1⟩) i Z
                have h3 := nodesV_le P Hg.out.1
                rw [← hlZ] at h1
                omega)
              have c0 : ∀ w1, Keep (fun q => (Value.slice aZ lZ.length cZ).ownBlock = some q) wr w1 → w1.cell? ⟨g5, Z, none⟩ = some (.slice aZ lZ.length cZ) := fun w1 k => k.cellx (own_get Hr.out Z hvZ) hn5
              have j0 : ∀ w1, Keep (fun q => (Value.slice aZ lZ.length cZ).ownBlock = some q) wr w1 → w1.cell? ⟨g, i * 2, none⟩ = some (.int .i64 (A : Int)) := fun w1 k => k.cellx q0 hne
              have j1 : ∀ w1, Keep (fun q => (Value.slice aZ lZ.length cZ).ownBlock = some q) wr w1 → w1.cell? ⟨g, i * 2 + 1, none⟩ = some (.int .i64 (Z : Int)) := fun w1 k => k.cellx q1 hne
              have s0 : ∀ w1, Keep (fun q => (Value.slice aZ lZ.length cZ).ownBlock = some q) wr w1 → w1.cell? (y.add A) = some (.slice bl l.length cl) := fun w1 k => k.cellx (Hx.out.cellx hc) (fun e => by
                have h1 := cell_lt hc
                have h2 := hlow _ e
                omega)
              have HSrc : Hid (∀ w1, Keep (fun q => (Value.slice aZ lZ.length cZ).ownBlock = some q) wr w1 → Src w1 bl l.length 1 (icells l)) := hid fun w1 k => (hI.old ((Hx.out.old n0).trans (k.mono fun q _ e => Nat.le_trans HHn.out (hlow q e)))).src
              have HD1 : has.getD A [] = l := by rw [List.getD_eq_getElem?_getD, hl]; rfl
              obtain ⟨lB, hlB⟩ : ∃ lB, lB = lZ ++ l := ⟨_, rfl⟩
              have Hst := hid (BagAt.edge HBa.out hxk (fun l hl => (Hg.out.ok.ok l hl).1) hAl hZl)
              rw [← hlZ, HD1, ← hlB] at Hst
              have HlB := hid hlB
              have HRowZ := hid hRowZ
              have HvZ := hid hvZ
              have HZv := hid hZv
              have Hn5 := hid hn5
              have Hne := hid hne
              have Hg5 := hid hg5
              have Hlow := hid hlow
              clear hxk q0 q1 i1 i2 i3 i4 hl hc hI hZB hvZ hlZ hBZ hRowZ hb5 hg5 hbe hn5 hne hlow hlk HD1 hlB
              go_wp2
              refine wp_flowT (fun q => (Value.slice aZ lZ.length cZ).ownBlock = some q) (by kernel_rfl) (by kernel_rfl) ?_
              repeat (apply FlowT.d; (intro w1 hk; unfold does; go_simp; (try go_ints); (first | exact DetR.mk | (simp only [↓IntWalk.iteOmega, Oper.doesUpon_value]; exact DetR.mk) | (simp only [↓IntWalk.iteOmega]; go_simp; (try go_ints); exact DetR.mk))); simp only [Act.put, qS0, qS1, qS2])
              refine FlowT.s (fun v w' => IRow W.heap.size w' v lB ∧ (∀ q, v.ownBlock = some q → (Value.slice aZ lZ.length cZ).ownBlock = some q ∨ wr.heap.size ≤ q)) 16 rfl (by kernel_rfl) (fun _ _ _ ⟨h1, h2⟩ y => ⟨own_ext h1 y, h2⟩) (fun wa hC hk2 => ?_) ?_
              · refine does_append_src4 W.heap.size (Nat.le_trans Hx.out.size hk2.size) 45 3 (.int .i64 0) 1 8 Tryz.underlying45 ints_info rfl (by omega) (by omega) rfl _ _ rfl (.slice aZ lZ.length cZ) lZ.length (icells lZ) rfl (own_ext HRowZ.out hC) bl l.length cl (icells l) rfl (HSrc.out wa hk2) (by have := HfZ.out; omega) (fun v' w' h1 h2 h4 => ?_)
                refine ⟨hk2.trans h2, ?_, fun q hq => ?_⟩
                · rw [HlB.out]
                  unfold IRow
                  rw [List.length_append, icells_append]
                  exact h1
                · rcases h4 q hq with h | h
                  · exact .inl h
                  · exact .inr (Nat.le_trans hk2.size h)
              rintro v3 ⟨w3', h3, _⟩
              obtain ⟨a3, c3, rfl⟩ := h3.form
              clear h3
              simp only [Act.put, qS0, qS1, qS2]
              repeat (apply FlowT.d; (intro w1 hk; unfold does; go_simp; (try go_ints); (first | exact DetR.mk | (simp only [↓IntWalk.iteOmega, Oper.doesUpon_value]; exact DetR.mk) | (simp only [↓IntWalk.iteOmega]; go_simp; (try go_ints); exact DetR.mk))); simp only [Act.put, qS0, qS1, qS2])
              refine FlowT.fin fun w6 hC hk6 => ?_
              obtain ⟨hr3, ho3⟩ := hC
              have hrow6 := row_keep Hr.out hk6 (fun i hi => by obtain rfl := Option.some.inj hi; exact Hn5.out)
              have hre6 := row_keep Hre.out hk6 (fun i hi => by obtain rfl := Option.some.inj hi; exact Hne.out)
              obtain ⟨cc6, hb6, _⟩ := own_pos hrow6
              have z0 := c0 w6 hk6
              have f0 := own_free hrow6 Z
              have n0' := j0 w6 hk6
              have n1 := j1 w6 hk6
              have Hbags := hid (Hb.out.app HZv.out HvZ.out hr3 hk6 ho3)
              have Hset := hid (own_set hrow6 Z HZv.out (.slice a3 lB.length c3))
              have Hbs := hid (Hbags.out.keep (Keep.set (X := fun q => q = g5) (p := ⟨g5, Z, none⟩) (Keep.refl _ w6) rfl (.slice a3 lB.length c3)) (fun b e => by rw [e]; exact IsInt.not hb6 (by decide)))
              have Hre7 := hid (row_keep hre6 (Keep.set (X := fun q => q = g5) (p := ⟨g5, Z, none⟩) (Keep.refl _ w6) rfl (.slice a3 lB.length c3)) (fun q hq e => own_not hre6 hb6 (by decide) (by rw [hq, e])))
              have Hx6 : Hid (Ext W (w6.setCell ⟨g5, Z, none⟩ (.slice a3 lB.length c3))) := hid (Keep.new Hx.out ((hk6.mono (Y := fun q => q = g5 ∨ (Value.slice aZ lZ.length cZ).ownBlock = some q) fun _ _ h => .inr h).set (.inl rfl) _) (fun q h => by
                rcases h with h | h
                · rw [h]; exact Hg5.out
                · exact Hlow.out q h))
              clear hr3 ho3 hrow6 hre6 hb6 hk6 c0 j0 j1 s0
              go_wp2
              go_roundw
              case rel => exact ⟨i + 1, _, _, by go_num, by omega, Hst.out, Hset.out, Hbs.out, Hre7.out, Hx6.out⟩
              case measure => simp [intOf]; omega
            · obtain rfl : i = EL.length := by omega
              have HDone := hid (BagAt.done Hg.out (B := B) (by rw [← Hel.out]; exact HBa.out))
              have HInr : Hid (∀ l ∈ B, InR l) := hid fun l hl => HBa.out.inr hl
              have HMd := hid Hb.out.made
              have HNb := hid Hb.out.newB
              clear hil hi
              go_wp2
              go_loopw [14] (fun t14 wr => ∃ (i : Nat) (vs : List Value) (L : List (List Int)), t14 = .int .i64 (i : Int) ∧ i ≤ has.length ∧ L.length = has.length ∧ (∀ j, j < i → L[j]? = (B.map sset)[j]?) ∧ (∀ j, i ≤ j → L[j]? = B[j]?) ∧ wr.ownsRow W.heap.size 45 1 (.slice a5 has.length c5) has.length vs ∧ Made wr vs L ∧ (∀ u ∈ vs, ∀ b, u.ownBlock = some b → W.heap.size ≤ b) ∧ Ext W wr) (fun t14 _ => has.length - (intOf t14).toNat)
              case atStart => exact ⟨0, vs, B, rfl, Nat.zero_le _, HBl.out, fun j h => by omega, fun _ _ => rfl, Hr.out, HMd.out, HNb.out, Hx.out⟩
              case round =>
                clear Hr Hb Hre Hx HMd HNb
                obtain ⟨i, vs, L, rfl, hi, hL, h1, h2, hr, hm, hnb, hx⟩ := hrel
                have HNb := hid hnb
                clear hnb
                have HL := hid hL
                have H1 := hid h1
                have H2 := hid h2
                have Hr := hid hr
                have Hm := hid hm
                have Hx := hid hx
                clear hL h1 h2 hr hm hx
                by_cases hil : i < has.length
                · obtain ⟨g5, cp5, hge⟩ := own_some Hr.out (by omega)
                  simp only [Value.slice.injEq] at hge
                  obtain ⟨rfl, -, rfl⟩ := hge
                  obtain ⟨al, cl, hcl, hIl⟩ := Made.one Hr.out Hm.out HL.out hil
                  obtain ⟨l, hl⟩ : ∃ l, l = L.getD i [] := ⟨_, rfl⟩
                  rw [← hl] at hcl hIl
                  have hBi : B[i]? = some l := by
                    rw [← H2.out i (Nat.le_refl _), hl, List.getD_eq_getElem?_getD, List.getElem?_eq_getElem (by rw [HL.out]; exact hil)]
                    rfl
                  obtain ⟨lS, hlS⟩ : ∃ lS, lS = sset l := ⟨_, rfl⟩
                  have HC := hid (rsetof_any (.slice al l.length cl) l wr wr.heap.size hIl (HInr.out l (List.mem_of_getElem? hBi)))
                  rw [← hlS] at HC
                  have HBi := hid hBi
                  have HlS := hid hlS
                  clear hl hIl hBi hlS
                  go_wp2_with fail
                  refine HC.out.mono ?_
                  intro e w2 hx
                  obtain ⟨v', rfl, hx2, hr2⟩ := hx
                  obtain ⟨a3, c3, rfl⟩ := hr2.form
                  have hrow := own_ext Hr.out hx2
                  obtain ⟨p1, p2, p3⟩ := Made.put hrow (Hm.out.ext hx2) HL.out (IntsT.row hr2) hil
                  obtain ⟨u, hu⟩ : ∃ u, vs[i]? = some u := ⟨_, List.getElem?_eq_getElem (by rw [Hm.out.1, HL.out]; exact hil)⟩
                  have z0 := own_get hrow i hu
                  have f0 := own_free hrow i
                  obtain ⟨_, _, hbase⟩ := own_pos hrow
                  have P1 := hid p1
                  have P2 := hid p2
                  have HNn : Hid (∀ u ∈ vs.set i (.slice a3 lS.length c3), ∀ b, u.ownBlock = some b → W.heap.size ≤ b) := hid fun u hu b hb => by
                    rcases List.mem_or_eq_of_mem_set hu with hu | rfl
                    · exact HNb.out u hu b hb
                    · exact Nat.le_trans Hx.out.size (hr2.lt hb).1
                  have Hxx := hid (Keep.new (Hx.out.trans hx2) p3 fun b e => by rw [e]; exact hbase)
                  clear HC hx2 hr2 hrow p1 p2 p3 hu hbase hcl
                  go_wp2
                  go_roundw
                  case rel =>
                    refine ⟨i + 1, _, L.set i lS, by go_num, by omega, by rw [List.length_set]; exact HL.out, fun j hj => ?_, fun j hj => ?_, P1.out, P2.out, HNn.out, Hxx.out⟩
                    · by_cases hji : i = j
                      · subst hji
                        rw [List.getElem?_set_self (by rw [HL.out]; exact hil), List.getElem?_map, HBi.out, HlS.out]
                        rfl
                      · rw [List.getElem?_set_ne hji]
                        exact H1.out j (by omega)
                    · rw [List.getElem?_set_ne (by omega)]
                      exact H2.out j (by omega)
                  case measure => simp [intOf]; omega
                · obtain rfl : i = has.length := by omega
                  have hLr : L = P.roundV has := by
                    rw [← HDone.out]
                    refine List.ext_getElem? fun j => ?_
                    by_cases hj : j < has.length
                    · exact H1.out j hj
                    · rw [List.getElem?_eq_none (by rw [HL.out]; omega), List.getElem?_eq_none (by rw [List.length_map, HBl.out]; omega)]
                  have hs := SetsR.made (L := P.roundV has) (by rw [roundV_len]; exact Hr.out) (by rw [← hLr]; exact Hm.out)
                  have Hs := hid hs
                  have HNs := hid ((NewS.made Hr.out HNb.out).low HX.out.size)
                  clear hs hLr hil hi
                  go_wp2
                  go_ret
                  exact ⟨_, _, rfl, Hs.out, HNs.out, HX.out.trans Hx.out⟩
set_option maxRecDepth 100000 in
set_option maxHeartbeats 3200000 in
theorem rleastof_new (a1 a2 a3 : Option Addr) (c1 c2 c3 : Nat) (P : PP) (w : World) (h : ProgR w w.heap.size (.slice a1 P.vars.length c1) (.slice a2 P.funs.length c2) (.slice a3 P.stmts.length c3) P) (hw : P.Well) (n : Nat) (S : List (List Int)) (hL : LeastAt P n S) :
    Calls Tryz.prog 29 #[pval a1 a2 a3 c1 c2 c3 P] w fun e w' => ∃ a c, e = .returned (.tuple #[.slice a P.nodesV c, .int .i64 (n : Int)]) ∧ SetsR w' w'.heap.size (.slice a P.nodesV c) S ∧ NewS w' w.heap.size (.slice a P.nodesV c) ∧ Ext w w' := by
  have Hw := hid hw
  have HLe := hid hL
  have hn12 := hL.few hw
  obtain ⟨hf1, hf2, hf3⟩ := hw.few
  obtain ⟨W, hW⟩ : ∃ W, W = w.alloc (.cells (pcells a1 a2 a3 c1 c2 c3 P) 26) := ⟨_, rfl⟩
  have HX : Hid (Ext w W) := hid (by rw [hW]; exact (Ext.refl _).alloc _)
  have HBx : Hid (Blk W w.heap.size (pcells a1 a2 a3 c1 c2 c3 P) 26) := hid (by rw [hW]; exact Blk.new _ _ _)
  have HWe : Hid (W = w.alloc (.cells #[.slice a1 P.vars.length c1, .slice a2 P.funs.length c2, .slice a3 P.stmts.length c3] 26)) := hid (by rw [hW]; rfl)
  have HNo := fun w1 (x : Ext w w1) => hid (rnodesof_any a1 a2 a3 c1 c2 c3 P w1 w.heap.size (h.ext x) (by omega) (by omega))
  have HPR := hid h
  have hN6 := nodesV_le P hw
  have HRo := fun w1 (x : Ext w w1) hv has (hh : SetsR w1 w1.heap.size hv has) (hg : P.GoodS has) => hid (rroundof_new a1 a2 a3 c1 c2 c3 P hv has w1 w1.heap.size ((HPR.out.ext x).lift x.size) hg hh (Nat.le_refl _))
  have HGd := fun k => hid (iterV_good hw k)
  obtain ⟨N, hN⟩ : ∃ N, N = P.nodesV := ⟨_, rfl⟩
  rw [← hN] at HNo hN6 ⊢
  have HN := hid hN
  have d0 := HBx.out.av 0 rfl
  have d1 := HBx.out.av 1 rfl
  have d2 := HBx.out.av 2 rfl
  simp only [pcells, qA0, qA1, qA2] at d0 d1 d2
  rw [HWe.out] at d0 d1 d2
  unfold pval at HNo HRo ⊢
  have HN1 := HNo W HX.out
  clear hW h hw hL hN HNo
  go_enter Tryz.func29, Tryz.ntmps29
  go_wp2_with fail
  rw [← HWe.out]
  refine HN1.out.mono ?_
  intro e w2 hx
  obtain ⟨rfl, hx2⟩ := hx
  have Hx2 := hid hx2
  obtain ⟨bi, hbi, hbz, hbs, hbb⟩ := info_parts rows_info
  clear HN1 hx2 d0 d1 d2
  go_wp2_with (at_make; refine wpList_make_full w2 rfl _ _ _ rfl w2.heap.size 45 bi (.slice none 0 0) 1 Tryz.underlying51 hbi hbz hbs .i64 .i64 (N : Int) (N : Int) N rfl rfl rfl rfl (by rw [hbb]; omega) (by unfold maxLen; omega) (Nat.le_refl _) ?_; intro w3 hrow hgr)
  have hx3 : Ext w2 w3 := Keep.new (Ext.refl w2) (grown_keep hgr) (fun k hk => by cases hk)
  rw [show (Value.slice none 0 0).cells = #[Value.slice none 0 0] from rfl, toList_madeCells_one, Nat.mul_one] at hrow
  have Hx3 := hid (Hx2.out.trans hx3)
  have HS0 : Hid (SetsR w3 w3.heap.size (.slice (some ⟨w2.heap.size, 0, none⟩) N N) (P.iterV 0)) := hid (by
    have h1 := SetsR.made (v := .slice (some ⟨w2.heap.size, 0, none⟩) N N) (L := List.replicate N []) (by rw [List.length_replicate]; exact hrow) (made_nil w3 N)
    have e0 : P.iterV 0 = List.replicate N [] := by rw [HN.out]; rfl
    exact e0 ▸ h1)
  have HN0 := hid ((NewS.made hrow fun u hu b hb => by rw [List.eq_of_mem_replicate hu] at hb; cases hb).low (Nat.le_trans HX.out.size Hx2.out.size))
  clear hrow hgr hx3 hbi hbz hbs hbb
  go_wp2
  go_loopw [4, 5] (fun t6 t7 wr => ∃ (k : Nat) (a : Option Addr) (c : Nat), t7 = .int .i64 (k : Int) ∧ t6 = .slice a N c ∧ k ≤ n ∧ SetsR wr wr.heap.size (.slice a N c) (P.iterV k) ∧ NewS wr w.heap.size (.slice a N c) ∧ Ext W wr) (fun _ t7 _ => 200000 - (intOf t7).toNat)
  case atStart => exact ⟨0, _, _, rfl, rfl, Nat.zero_le _, HS0.out, HN0.out, Hx3.out⟩
  case round =>
    clear HS0 Hx3 HN0
    obtain ⟨k, a, c, rfl, rfl, hk, hs, hnn, hx⟩ := hrel
    have Hnn := hid hnn
    clear hnn
    have Hx := hid hx
    have Hs := hid hs
    have hlen : (P.iterV k).length = N := by rw [HN.out]; exact (HGd k).out.2.1
    have HC := HRo wr (HX.out.trans hx) (.slice a N c) (P.iterV k) hs (HGd k).out
    have d0 := (HBx.out.ext hx).av 0 rfl
    have d1 := (HBx.out.ext hx).av 1 rfl
    have d2 := (HBx.out.ext hx).av 2 rfl
    simp only [pcells, qA0, qA1, qA2] at d0 d1 d2
    rw [hlen] at HC
    clear hs hx hlen HRo
    go_wp2_with fail
    refine HC.out.mono ?_
    intro e w5 hx
    obtain ⟨a5, c5, rfl, hs5, hn5, hx5⟩ := hx
    have Hn5 := hid (hn5.low (Nat.le_trans HX.out.size Hx.out.size))
    have Hno := hid (Hnn.out.ext Hs.out hx5)
    clear hn5
    have Hx5 := hid (Hx.out.trans hx5)
    have Hs5 := hid hs5
    have Hso := hid ((Hs.out.ext hx5).lift hx5.size)
    have HSm := hid (samesets_any (.slice a5 N c5) (.slice a N c) (P.roundV (P.iterV k)) (P.iterV k) w5 w5.heap.size hs5 ((Hs.out.ext hx5).lift hx5.size) (fun l hl => ((HGd (k + 1)).out.ok.ok l hl).1) (fun l hl => ((HGd k).out.ok.ok l hl).1))
    obtain ⟨d, hd⟩ : ∃ d, d = decide (P.roundV (P.iterV k) = P.iterV k) := ⟨_, rfl⟩
    rw [← hd] at HSm
    have Hd := hid hd
    clear HC hs5 hx5 d0 d1 d2 hd
    go_wp2_with fail
    refine HSm.out.mono ?_
    intro e w6 hx
    obtain ⟨rfl, hx6⟩ := hx
    have Hx6 := hid (Hx5.out.trans hx6)
    have Hs6 := hid ((Hs5.out.ext hx6).lift hx6.size)
    have Hso6 := hid ((Hso.out.ext hx6).lift hx6.size)
    have Hn6 := hid (Hn5.out.ext Hs5.out hx6)
    have Hno6 := hid (Hno.out.ext Hso.out hx6)
    clear HSm
    cases d with
    | true =>
      have hfix : P.roundV (P.iterV k) = P.iterV k := of_decide_eq_true Hd.out.symm
      have hkn : k = n := by
        rcases Nat.lt_or_ge k n with g | g
        · exact absurd hfix (HLe.out.first k g)
        · omega
      subst hkn
      have HF : Hid (SetsR w6 w6.heap.size (.slice a N c) S) := hid (by
        rw [HLe.out.eq]
        exact Hso6.out)
      clear hx6 hfix
      go_wp2
      refine bodyPost_ret (v := .tuple #[.slice a N c, .int .i64 (k : Int)]) (by simp [results, Tryz.results29, go_sem]) rfl ?_
      exact ⟨a, c, rfl, HF.out, Hno6.out, HX.out.trans Hx6.out⟩
    | false =>
      have hne : P.roundV (P.iterV k) ≠ P.iterV k := of_decide_eq_false Hd.out.symm
      have hkn : k < n := by
        rcases Nat.lt_or_ge k n with g | g
        · exact g
        · obtain rfl : k = n := by omega
          exact absurd (by rw [← HLe.out.eq]; exact HLe.out.fix) hne
      have Hs7 : Hid (SetsR w6 w6.heap.size (.slice a5 N c5) (P.iterV (k + 1))) := hid Hs6.out
      clear hx6 hne
      go_wp2
      go_roundw
      case rel => exact ⟨k + 1, a5, c5, by go_num, rfl, by omega, Hs7.out, Hn6.out, Hx6.out⟩
      case measure => simp [intOf]; omega
def vkVar : List UInt8 := [118, 97, 114]
def vkThing : List UInt8 := [116, 104, 105, 110, 103]
def vkFun : List UInt8 := [102, 117, 110]
def PP.objV (P : PP) (pl : List Int) (k : List UInt8) (n : Int) : Int :=
  bif k == vkVar then (if 0 ≤ n ∧ n < P.vars.length then n else -1) else
  bif k == vkThing then (if 0 ≤ n ∧ n < pl.length then P.placeV (pl.getD n.toNat 0) else -1) else
  bif k == vkFun then (if 0 ≤ n ∧ n < P.funs.length then (P.nodesV : Int) + n else -1) else -1
theorem PP.nodesV_le (P : PP) : P.nodesV ≤ P.vars.length + P.stmts.length := by
  unfold PP.nodesV
  have := P.newsN_le P.stmts.length
  omega
end Go.Proofs.YtbagppdibncfdaaGreatDoor
