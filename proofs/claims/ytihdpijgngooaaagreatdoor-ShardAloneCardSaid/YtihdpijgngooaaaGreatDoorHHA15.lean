/- Texts of one proof, put together: ZZYe ZZYf ZZYi ZZYg T3 T4 T2. -/
import Derived.Test.YtihdpijgngooaaaGreatDoorHHA05
import Derived.Test.YtihdpijgngooaaaGreatDoorHHA06
import Derived.Test.YtihdpijgngooaaaGreatDoorHHA09
import Derived.Test.YtihdpijgngooaaaGreatDoorHHA10
import Derived.Test.YtihdpijgngooaaaGreatDoorHHA11
import Derived.Test.YtihdpijgngooaaaGreatDoorHHA14
import Derived.Maps.RangeWalk
import Derived.Test.YtihdpijgngooaaaGreatDoorHHA01
set_option linter.unusedSimpArgs false
set_option linter.unusedVariables false
namespace Go.Proofs.YtihdpijgngooaaaGreatDoor
open Go Go.RowKit
open Go.ChangeMaps (setBlock)
def Rng (w : World) (b r : Nat) (h : Int → Option Value) (L : List Int) : Prop :=
  ∃ es clock since seen c0, ∃ m : List (Int × Value), w.heap[b]? = some (.map es clock) ∧ w.heap[r]? = some (.mapIter (some b) since seen c0) ∧ since ≤ c0 ∧ since ≤ clock ∧ (∀ x ∈ es.toList, x.born < since) ∧ (es.toList.map (·.born)).Nodup ∧
    es.toList.map (fun x => (x.key, x.val)) = m.map (fun x => (Value.int .i64 x.1, x.2)) ∧ (m.map (·.1)).Nodup ∧ (∀ k, kget m k = h k) ∧ L.Nodup ∧ ∀ k, k ∈ L ↔ ∃ e ∈ es.toList, e.key = Value.int .i64 k ∧ seen.contains e.born = true
section
variable {w : World} {b r : Nat} {h : Int → Option Value} {L : List Int}
theorem Rng.keep {w' : World} {X : Nat → Prop} (g : Rng w b r h L) (k : Keep X w w') (h1 : ¬ X b) (h2 : ¬ X r) : Rng w' b r h L := by
  obtain ⟨es, cl, si, se, c0, m, g1, g2, g3⟩ := g
  exact ⟨es, cl, si, se, c0, m, Keep.get k g1 h1, Keep.get k g2 h2, g3⟩
theorem Rng.left {w' : World} {X : Nat → Prop} (g : Rng w b r h L) (k : Keep X w w') (h1 : ¬ X b) (h2 : ¬ X r) : w'.rangeLeft b r = w.rangeLeft b r := by
  obtain ⟨es, cl, si, se, c0, m, g1, g2, g3⟩ := g
  unfold World.rangeLeft
  rw [g1, g2, Keep.get k g1 h1, Keep.get k g2 h2]
theorem Rng.lt (g : Rng w b r h L) : r < w.heap.size := by
  obtain ⟨es, cl, si, se, c0, m, g1, g2, g3⟩ := g
  exact (Array.getElem?_eq_some_iff.1 g2).1
theorem Rng.not_blk (g : Rng w b r h L) {c : Array Value} {e : TypeId} : ¬ Blk w b c e ∧ ¬ Blk w r c e := by
  obtain ⟨es, cl, si, se, c0, m, g1, g2, g3⟩ := g
  exact ⟨fun q => (by have := g1.symm.trans q; cases this), fun q => (by have := g2.symm.trans q; cases this)⟩
theorem kget_some {m : List (Int × Value)} {k : Int} : kget m k ≠ none ↔ ∃ x ∈ m, x.1 = k := by
  unfold kget
  rw [ne_eq, Option.map_eq_none_iff, List.find?_eq_none]
  constructor
  · intro g
    refine Classical.byContradiction fun c => g fun x hx => ?_
    simpa using fun e => c ⟨x, hx, e⟩
  · rintro ⟨x, hx, e⟩ g
    have := g x hx
    simp [e] at this
theorem rng_start (hk : KMap Tryz.prog 3 (Value.int .i64) w b h) (hs : Stm w b) :
    ∃ w', (Instr.range 99 (.map (some b))).run Tryz.prog w = .ok (.pointer (some ⟨w.heap.size, 0, none⟩)) w' ∧ Rng w' b w.heap.size h [] ∧ Ext w w' ∧ w'.heap.size = w.heap.size + 1 := by
  obtain ⟨es, cl, m, hb, he, hn, hkk, hf⟩ := hk
  obtain ⟨es', cl', hb', hlt, hnd⟩ := hs
  rw [hb] at hb'
  obtain ⟨rfl, rfl⟩ : es = es' ∧ cl = cl' := by simpa using hb'
  have hx : Ext w (w.alloc (.mapIter (some b) cl #[] cl)) := (Ext.refl _).alloc _
  refine ⟨_, run_range_map w 99 3 4 b es cl Tryz.underlying99 hb, ⟨es, cl, cl, #[], cl, m, Ext.get hx hb, heap_alloc_new w _, Nat.le_refl _, Nat.le_refl _, hlt, hnd, he, hn, hf, List.nodup_nil, fun k => ⟨fun g => by simp at g, fun ⟨e, _, _, g⟩ => by simp at g⟩⟩, hx, by simp⟩
theorem Rng.next (g : Rng w b r h L) (ty : TypeId) : ((∀ k, k ∈ L ↔ h k ≠ none) ∧ (Instr.next (.pointer (some ⟨r, 0, none⟩)) false ty).run Tryz.prog w = .ok (.tuple #[.bool false]) w) ∨
    ∃ k v w', (Instr.next (.pointer (some ⟨r, 0, none⟩)) false ty).run Tryz.prog w = .ok (.tuple #[.bool true, .int .i64 k, v]) w' ∧ h k ≠ none ∧ Rng w' b r h (L ++ [k]) ∧ w'.rangeLeft b r < w.rangeLeft b r ∧ Keep (fun q => q = r) w w' ∧ w'.heap.size = w.heap.size ∧ (Instr.entry (.pointer (some ⟨r, 0, none⟩))).run Tryz.prog w' = .ok (.tuple #[.int .i64 k, v]) w' := by
  obtain ⟨es, cl, si, se, c0, m, hb, hr, h3, h4, h5, h6, h7, h8, h9, h10, h11⟩ := g
  have hkm : ∀ k, h k ≠ none ↔ ∃ e ∈ es.toList, e.key = Value.int .i64 k := fun k => by
    rw [← h9 k, kget_some]
    constructor
    · rintro ⟨x, hx, rfl⟩
      have : (Value.int .i64 x.1, x.2) ∈ es.toList.map (fun x => (x.key, x.val)) := by rw [h7]; exact List.mem_map.2 ⟨x, hx, rfl⟩
      obtain ⟨e, he, he2⟩ := List.mem_map.1 this
      exact ⟨e, he, (Prod.mk.inj he2).1⟩
    · rintro ⟨e, he, hek⟩
      have : (e.key, e.val) ∈ m.map (fun x => (Value.int .i64 x.1, x.2)) := by rw [← h7]; exact List.mem_map.2 ⟨e, he, rfl⟩
      obtain ⟨x, hx, hx2⟩ := List.mem_map.1 this
      exact ⟨x, hx, intV_inj _ _ ((Prod.mk.inj hx2).1.trans hek)⟩
  have hne : r ≠ b := fun e => by rw [e, hb] at hr; cases hr
  rcases run_next_at (P := Tryz.prog) w ty r b si c0 se es cl hr hb h5 h3 with ⟨g0, hrun⟩ | ⟨e, he, w1, hal, hrun⟩
  · refine .inl ⟨fun k => ?_, hrun⟩
    rw [h11, hkm]
    exact ⟨fun ⟨e, a, c, _⟩ => ⟨e, a, c⟩, fun ⟨e, a, c⟩ => ⟨e, a, c, all_seen es se g0 e a⟩⟩
  · obtain ⟨hem, hes⟩ := mem_left he
    have : (e.key, e.val) ∈ m.map (fun x => (Value.int .i64 x.1, x.2)) := by rw [← h7]; exact List.mem_map.2 ⟨e, hem, rfl⟩
    obtain ⟨x, hx, hx2⟩ := List.mem_map.1 this
    have hek : e.key = Value.int .i64 x.1 := (Prod.mk.inj hx2).1.symm
    have hr1 : w1.heap[r]? = some (.mapIter (some b) si se c0) := by rcases hal with rfl | rfl <;> exact hr
    have hb1 : w1.heap[b]? = some (.map es cl) := by rcases hal with rfl | rfl <;> exact hb
    have hset := Go.MapKept.heap_set (o' := .mapIter (some b) si (se.push e.born) cl) hr1
    have hb' : (setBlock w1 r (.mapIter (some b) si (se.push e.born) cl)).heap[b]? = some (.map es cl) := (hset.2 b (fun e1 => hne e1.symm)).trans hb1
    rw [hek] at hrun
    have hbe : ∀ y ∈ es.toList, y.born = e.born → y = e := fun y hy hyb => born_inj h6 hy hem hyb
    have hen := run_entry_at (P := Tryz.prog) _ r b si se es cl e hset.1 hb' hem h6
    rw [hek] at hen
    refine .inr ⟨x.1, e.val, _, hrun, (hkm _).2 ⟨e, hem, hek⟩, ⟨es, cl, si, se.push e.born, cl, m, hb', hset.1, h4, h4, h5, h6, h7, h8, h9, ?_, fun k => ?_⟩, ?_, ?_, ?_, hen⟩
    · refine List.nodup_append.2 ⟨h10, by simp, fun a ha c hc => ?_⟩
      rw [List.mem_singleton] at hc
      rintro rfl
      obtain ⟨y, hy, hyk, hys⟩ := (h11 _).1 ha
      have hpos : ∀ {y z : MapEntry}, y ∈ es.toList → z ∈ es.toList → y.key = z.key → y = z := fun {y z} hy hz hyz => by
        have hk : (es.toList.map (·.key)).Nodup := by
          have e1 : es.toList.map (·.key) = (m.map (·.1)).map (Value.int .i64) := by
            have := congrArg (List.map Prod.fst) h7
            simpa [List.map_map, Function.comp_def] using this
          rw [e1]
          refine List.Pairwise.map _ (fun a c hac => ?_) h8
          exact fun e => hac (intV_inj _ _ e)
        obtain ⟨i, hi, rfl⟩ := List.mem_iff_getElem.1 hy
        obtain ⟨j, hj, rfl⟩ := List.mem_iff_getElem.1 hz
        have hpw := fun (i j : Nat) (hi : i < es.toList.length) (hj : j < es.toList.length) (hij : i < j) => List.pairwise_iff_getElem.1 hk i j (by rw [List.length_map]; exact hi) (by rw [List.length_map]; exact hj) hij
        rcases Nat.lt_trichotomy i j with k | rfl | k
        · exact absurd (by simpa using hyz) (hpw i j hi hj k)
        · rfl
        · exact absurd (by simpa using hyz.symm) (hpw j i hj hi k)
      have : y = e := hpos hy hem (by rw [hyk, hek, hc])
      rw [this, hes] at hys
      cases hys
    · rw [List.mem_append, List.mem_singleton, h11]
      constructor
      · rintro (⟨y, a1, a2, a3⟩ | rfl)
        · exact ⟨y, a1, a2, by rw [contains_push, a3]; rfl⟩
        · exact ⟨e, hem, hek, by rw [contains_push]; simp⟩
      · rintro ⟨y, a1, a2, a3⟩
        rw [contains_push, Bool.or_eq_true] at a3
        rcases a3 with a3 | a3
        · exact .inl ⟨y, a1, a2, a3⟩
        · obtain rfl := hbe y a1 (by simpa using a3)
          exact .inr (intV_inj _ _ (a2.symm.trans hek))
    · unfold World.rangeLeft
      rw [hb', show (setBlock w1 r (.mapIter (some b) si (se.push e.born) cl)).heap[r]? = _ from hset.1, hb, hr]
      exact left_shrinks es se e he
    · rcases hal with rfl | rfl <;> exact ⟨rfl, rfl, rfl, by simp [setBlock], fun i _ hi => hset.2 i (fun e1 => hi e1)⟩
    · rcases hal with rfl | rfl <;> simp [setBlock]
variable {ops : Array Oper} {rest : List Oper} {o : Oper} {a : Act} {Q : Exit → Act → World → Prop}
theorem wpList_range_k (hg : o.guard = none) (m : Operand) (hop : o.op = Op.range 99 m) (hm : a.eval m = .map (some b)) (hk : KMap Tryz.prog 3 (Value.int .i64) w b h) (hs : Stm w b)
    (hK : ∀ w', Rng w' b w.heap.size h [] → Ext w w' → w'.heap.size = w.heap.size + 1 → wpList Tryz.prog ops Q rest (a.put o.dst (.pointer (some ⟨w.heap.size, 0, none⟩))) w') : wpList Tryz.prog ops Q (o :: rest) a w := by
  refine wpList_plain hg fun K' hK' => ?_
  obtain ⟨w', hrun, r1, r2, r3⟩ := rng_start hk hs
  unfold Oper.wp
  simp [execOp, hop, hm, hrun, Result.andThen]
  exact hK' _ _ (hK w' r1 r2 r3)
theorem wpList_next_k (hg : o.guard = none) (it : Operand) (hop : o.op = Op.next it false) (hit : a.eval it = .pointer (some ⟨r, 0, none⟩)) (g : Rng w b r h L)
    (hDone : (∀ k, k ∈ L ↔ h k ≠ none) → wpList Tryz.prog ops Q rest (a.put o.dst (.tuple #[.bool false])) w)
    (hMore : ∀ k v w', h k ≠ none → Rng w' b r h (L ++ [k]) → w'.rangeLeft b r < w.rangeLeft b r → Keep (fun q => q = r) w w' → w'.heap.size = w.heap.size → (Instr.entry (.pointer (some ⟨r, 0, none⟩))).run Tryz.prog w' = .ok (.tuple #[.int .i64 k, v]) w' → wpList Tryz.prog ops Q rest (a.put o.dst (.tuple #[.bool true, .int .i64 k, v])) w') :
    wpList Tryz.prog ops Q (o :: rest) a w := by
  refine wpList_plain hg fun K' hK' => ?_
  unfold Oper.wp
  rcases g.next o.type with ⟨h1, hrun⟩ | ⟨k, v, w', hrun, h1, h2, h3, h4, h5, h6⟩
  · simp [execOp, hop, hit, hrun, Result.andThen]
    exact hK' _ _ (hDone h1)
  · simp [execOp, hop, hit, hrun, Result.andThen]
    exact hK' _ _ (hMore k v w' h1 h2 h3 h4 h5 h6)
end
theorem nodup_few {L : List Int} (hn : L.Nodup) {N : Nat} (h : ∀ x ∈ L, 0 ≤ x ∧ x < N) : L.length ≤ N := by
  have := nodup_le L ((List.range N).map fun o : Nat => (o : Int)) hn fun x hx => List.mem_map.2 ⟨x.toNat, List.mem_range.2 (by have := h x hx; omega), by have := h x hx; omega⟩
  simpa using this
theorem sorted_keys {M : List (Int × Int)} {n : Int} (hM : ∀ e ∈ M, 0 ≤ e.2 ∧ e.2 < 126) {L : List Int} (hn : L.Nodup) (hL : ∀ k, k ∈ L ↔ setF M n k ≠ none) : L.mergeSort (fun x y => decide (x ≤ y)) = keysL M n := by
  have hp := List.mergeSort_perm L (fun x y : Int => decide (x ≤ y))
  refine srt_uniq ?_ (keysL_srt M n) fun x => ?_
  · have h1 : (L.mergeSort fun x y => decide (x ≤ y)).Pairwise (fun x y : Int => decide (x ≤ y) = true) := List.pairwise_mergeSort (fun a b c h1 h2 => by simp at h1 h2 ⊢; omega) (fun a b => by simp; omega) L
    have h2 : (L.mergeSort fun x y => decide (x ≤ y)).Nodup := hp.nodup_iff.2 hn
    refine List.Pairwise.imp₂ (fun a c h1 h2 => ?_) h1 h2
    have h1 := of_decide_eq_true h1
    have h2 : a ≠ c := h2
    omega
  · rw [hp.mem_iff, hL, mem_keysL hM]
    unfold setF
    by_cases hm : (n, x) ∈ M
    · rw [if_pos hm]; simp [hm]
    · rw [if_neg hm]; simp [hm]
set_option maxRecDepth 100000 in
set_option maxHeartbeats 1600000 in
theorem shardkeys_some (M : List (Int × Int)) (n : Int) (q : Nat) (w : World) (hk : KMap Tryz.prog 3 (Value.int .i64) w q (setF M n)) (hs : Stm w q) (hM : ∀ e ∈ M, 0 ≤ e.2 ∧ e.2 < 126) :
    Calls Tryz.prog 51 #[.map (some q)] w fun e w' => ∃ v, e = .returned v ∧ IRow w.heap.size w' v (keysL M n) ∧ Ext w w' := by
  have hql := hk.lt
  have Hk := hid hk
  have Hs := hid hs
  have HM := hid hM
  clear hk hs hM
  go_enter Tryz.func51, Tryz.ntmps51
  go_wp2_with (first
    | (at_range; refine wpList_range_k rfl _ rfl rfl Hk.out Hs.out ?_; intro w0 hrg hx0 hs0)
    | go_in)
  go_frame
  go_loopw [3] (fun t3 wr => ∃ L : List Int, Rng wr q w.heap.size (setF M n) L ∧ IRow (w.heap.size + 1) wr t3 L ∧ Ext w wr ∧ w.heap.size + 1 ≤ wr.heap.size) (fun _ wr => wr.rangeLeft q w.heap.size)
  case atStart => exact ⟨[], hrg, IRow.nil _ _, hx0, by omega⟩
  case round =>
    clear hrg hx0 hs0
    obtain ⟨L, hrg, hr, hx, hsz⟩ := hrel
    have HX := hid hx
    have HR := hid hr
    have HG := hid hrg
    have Hsz := hid hsz
    have hLn : L.Nodup := by obtain ⟨_, _, _, _, _, _, _, _, _, _, _, _, _, _, _, h, _⟩ := hrg; exact h
    have hLin : ∀ x ∈ L, 0 ≤ x ∧ x < ((126 : Nat) : Int) := fun x hx => by
      obtain ⟨es, cl, si, se, c0, m, _, _, _, _, _, _, h7, _, h9, _, h11⟩ := hrg
      obtain ⟨e, he, hek, _⟩ := (h11 x).1 hx
      have : (e.key, e.val) ∈ m.map (fun x => (Value.int .i64 x.1, x.2)) := by rw [← h7]; exact List.mem_map.2 ⟨e, he, rfl⟩
      obtain ⟨y, hy, hy2⟩ := List.mem_map.1 this
      have hyx : y.1 = x := intV_inj _ _ ((Prod.mk.inj hy2).1.trans hek)
      have h1 : setF M n x ≠ none := by rw [← h9]; exact kget_some.2 ⟨y, hy, hyx⟩
      unfold setF at h1
      by_cases hm : (n, x) ∈ M
      · exact HM.out _ hm
      · rw [if_neg hm] at h1; exact absurd rfl h1
    have hl := nodup_few hLn hLin
    have Hln := hid hLn
    clear hrg hr hx hLn hLin hsz
    go_wp2_with (first
      | (at_next; refine wpList_next_k rfl _ rfl rfl HG.out ?_ ?_)
      | go_in)
    · intro hL
      have HS := hid (sort_row _ L wr (w.heap.size + 1) HR.out (by omega))
      obtain ⟨av, cv, rfl⟩ := row_form HR.out
      have He := hid (sorted_keys HM.out Hln.out hL)
      clear hL
      go_wp2_with fail
      refine HS.out.mono ?_
      intro e w2 hx
      obtain ⟨rfl, hr2, hk2⟩ := hx
      rw [He.out] at hr2
      have HR2 : Hid (IRow w.heap.size w2 (.slice av L.length cv) (keysL M n)) := hid (own_low hr2 (Nat.le_succ _))
      have HX2 : Hid (Ext w w2) := hid (Keep.new HX.out hk2 fun b hb => Nat.le_of_succ_le (HR.out.lt hb).1)
      have hle : L.length = (keysL M n).length := by rw [← He.out]; simp
      clear HS hr2 hk2
      rw [hle] at HR2 ⊢
      clear hle
      go_wp2
      go_ret
      exact ⟨_, rfl, HR2.out, HX2.out⟩
    · intro k v w1 h1 hrg1 hlt hk1 hs1 hen
      have HG1 := hid hrg1
      have Hlt := hid hlt
      have HX1 : Hid (Ext w w1) := hid (Keep.new HX.out hk1 fun b hb => by rw [hb]; exact Nat.le_refl _)
      have HR1 := hid (row_keep HR.out hk1 fun b hb hbr => by
        have := (HR.out.lt hb).1
        omega)
      have hsz1 : w.heap.size + 1 ≤ w1.heap.size := by rw [hs1]; exact Hsz.out
      obtain ⟨av, cv, rfl⟩ := row_form HR.out
      obtain ⟨W2, hW2⟩ : ∃ W2, W2 = w1.alloc (.cells #[.int .i64 k] 3) := ⟨_, rfl⟩
      have hx2 : Ext w1 W2 := by rw [hW2]; exact (Ext.refl _).alloc _
      have HRa := hid (own_ext HR1.out hx2)
      have Hbs := hid (show w.heap.size + 1 ≤ W2.heap.size from Nat.le_trans hsz1 hx2.size)
      have HBk := hid (show Blk W2 w1.heap.size #[.int .i64 k] 3 by rw [hW2]; exact Blk.new _ _ _)
      have HWe := hid hW2
      have Hx2 := hid hx2
      have Hl := hid hl
      clear h1 hrg1 hlt hk1 hs1 hx2 hW2 hsz1 hl
      go_wp2_with (first
        | (at_builtin; rw [← HWe.out]; refine wpList_append_el (w.heap.size + 1) Hbs.out 43 3 (.int .i64 0) 1 8 Tryz.underlying43 int_info1 rfl (by omega) (by omega) rfl _ _ rfl (.slice av L.length cv) L.length (icells L) rfl HRa.out w1.heap.size [.int .i64 k] rfl (by simp [Value.oneCell']) rfl HBk.out (by have := Hl.out; omega) ?_; intro v' w2 h1 h2 h3)
        | go_in)
      have HR2 : Hid (IRow (w.heap.size + 1) w2 v' (L ++ [k])) := hid (by unfold IRow; rw [List.length_append, icells_append]; exact h1)
      have hnb : ∀ b, (Value.slice av L.length cv).ownBlock = some b → ∃ c, Blk W2 b c 3 := fun b hb => own_ty HRa.out hb
      have hq : ¬ (Value.slice av L.length cv).ownBlock = some q := fun hb => by
        obtain ⟨c, hc⟩ := hnb q hb
        exact (HG1.out.keep (Hx2.out.keep fun _ => False) (fun h => h) (fun h => h)).not_blk.1 hc
      have hr : ¬ (Value.slice av L.length cv).ownBlock = some w.heap.size := fun hb => by
        obtain ⟨c, hc⟩ := hnb _ hb
        exact (HG1.out.keep (Hx2.out.keep fun _ => False) (fun h => h) (fun h => h)).not_blk.2 hc
      have HG2 := hid (HG1.out.keep (Hx2.out.keep fun _ => False) (fun h => h) (fun h => h))
      have HG3 := hid (HG2.out.keep h2 hq hr)
      have Hm : Hid (w2.rangeLeft q w.heap.size < wr.rangeLeft q w.heap.size) := hid (by
        rw [HG2.out.left h2 hq hr, HG1.out.left (Hx2.out.keep fun _ => False) (fun h => h) (fun h => h)]
        exact Hlt.out)
      have HX2 : Hid (Ext w w2) := hid (Keep.new (HX1.out.trans Hx2.out) h2 fun b hb => Nat.le_of_succ_le (World.ownsRow.lt HRa.out b hb).1)
      have Hs2 : Hid (w.heap.size + 1 ≤ w2.heap.size) := hid (Nat.le_trans Hbs.out h2.size)
      clear h1 h2 h3 hnb hq hr
      go_wp2
      go_roundw
      case rel => exact ⟨L ++ [k], HG3.out, HR2.out, HX2.out, Hs2.out⟩
      case measure => exact Hm.out
theorem shardkeys_none (w : World) : Calls Tryz.prog 51 #[.map none] w fun e w' => e = .returned (.slice none 0 0) ∧ Ext w w' := by
  have hrg := run_range_nilMap (P := Tryz.prog) w 99 3 4 Tryz.underlying99
  have hnx : ∀ ty, (Instr.next (.pointer (some ⟨w.heap.size, 0, none⟩)) false ty).run Tryz.prog (w.alloc (.mapIter none 0 #[] 0)) = _ := fun ty => run_next_nilMap w ty 0 0 #[]
  have HS := fun w1 => hid (Tryz.slices_Sort_int_none none 0 w1)
  have HX : Hid (Ext w (w.alloc (.mapIter none 0 #[] 0))) := hid ((Ext.refl _).alloc _)
  go_enter Tryz.func51, Tryz.ntmps51
  go_wp2
  refine wp_loop_rounds 1 ?_
  rw [rounds_succ]
  go_wp2_with fail
  refine (HS _).out.mono ?_
  rintro e w2 ⟨rfl, rfl⟩
  clear HS
  go_wp2
  go_ret
  exact ⟨rfl, HX.out⟩
theorem shardkeys_any {m : Nat} {M : List (Int × Int)} {f : Int → Option Value} (n : Int) (w : World) (h : MM w m M f) (hM : ∀ e ∈ M, 0 ≤ e.2 ∧ e.2 < 126) :
    Calls Tryz.prog 51 #[(f n).getD (.map none)] w fun e w' => ∃ v, e = .returned v ∧ IRow w.heap.size w' v (keysL M n) ∧ Ext w w' := by
  rcases h.val n with ⟨g1, g2⟩ | ⟨q, g1, g2, g3⟩
  · rw [g1]
    refine (shardkeys_none w).mono ?_
    rintro e w' ⟨rfl, hx⟩
    have : keysL M n = [] := List.eq_nil_iff_forall_not_mem.2 fun o ho => g2 o (keysL_in ho).1
    exact ⟨_, rfl, by rw [this]; exact IRow.nil _ _, hx⟩
  · rw [g1]
    exact shardkeys_some M n q w g2 g3 hM
end Go.Proofs.YtihdpijgngooaaaGreatDoor
namespace Go.Proofs.YtihdpijgngooaaaGreatDoor
open Go Go.RowKit
theorem note_info : (Tryz.prog.info? 58).map (fun i => (i.zero, i.size, i.bytes)) = some (some (.agg #[.int .i64 0, .int .u8 0, .slice none 0 0]), 3, 40) := by kernel_rfl
theorem natmod (n k : Nat) : (n : Int) % (k : Int) = ((n % k : Nat) : Int) := by simp
theorem tmod_nat (n k : Nat) : (n : Int).tmod (k : Int) = ((n % k : Nat) : Int) := by rw [Int.tmod_eq_emod_of_nonneg (by omega), natmod]
set_option maxRecDepth 100000 in
set_option maxHeartbeats 1600000 in
theorem shardowner_any (c : SC) (s : SH) (n : Nat) (w : World) (G F : Nat → Prop) (g : Nat) (hS : ShAt w G F g c s) (hn : n < 1000000) :
    Calls Tryz.prog 46 #[.pointer (some ⟨g, 0, none⟩), .int .i64 (n : Int)] w fun e w' => e = .returned (.int .i64 ((n % c.k : Nat) : Int)) ∧ Ext w w' := by
  obtain ⟨m1, m2, f1, f2, vt, vo, ts, os, h⟩ := hS
  have b5 := h.blk.av 5 rfl
  simp only [shCells, qA0, qA1, qA2] at b5
  obtain ⟨hm1, hm2⟩ := h.con.me
  obtain ⟨kk, hkk⟩ : ∃ kk, kk = c.k := ⟨_, rfl⟩
  rw [← hkk] at b5 hm1 hm2 ⊢
  have htm := tmod_nat n kk
  have hlt : n % kk < 1000000 := Nat.lt_of_le_of_lt (Nat.mod_le _ _) hn
  generalize n % kk = r at htm hlt
  have h0 : ((kk : Int) == 0) = false := beq_eq_false_iff_ne.2 (by omega)
  have h1 : ((kk : Int) = 0) = False := by simp; omega
  have h2 : (kk = 0) = False := by simp; omega
  clear h hm1 hkk
  go_enter Tryz.func46, Tryz.ntmps46
  go_wp2
  go_ret
  exact ⟨rfl, Ext.refl _⟩
set_option maxRecDepth 100000 in
set_option maxHeartbeats 3200000 in
theorem shardtell_any (c : SC) (s : SH) (n : Nat) (kd : Int) (l : List Int) (v : Value) (w : World) (G F : Nat → Prop) (g : Nat) (hS : ShAt w G F g c s) (hv : IRow 0 w v l) (hn : n < 1000000) (hld : s.load ≤ 900000000) :
    Calls Tryz.prog 47 #[.pointer (some ⟨g, 0, none⟩), .int .i64 (n : Int), .int .u8 kd, v] w fun x w' => x = .returned (.tuple #[]) ∧ ShAt w' G F g c (s.tell (c.me : Nat) (c.k : Nat) (n : Nat) kd l) ∧ Keep (fun b => ¬ F b) w w' := by
  have HO := hid (shardowner_any c s n w G F g hS hn)
  obtain ⟨m1, m2, f1, f2, vt, vo, ts, os, h⟩ := hS
  obtain ⟨av, cv, rfl⟩ := row_form hv
  obtain ⟨r, hr⟩ : ∃ r, r = n % c.k := ⟨_, rfl⟩
  rw [← hr] at HO
  have hmc := natmod n c.k
  rw [← hr] at hmc
  have Hld := hid hld
  have H0 := hid h
  have Hv0 := hid hv
  have Hmc := hid hmc
  clear h hv hld hr hn hmc
  go_enter Tryz.func47, Tryz.ntmps47
  go_wp2_with fail
  refine HO.out.mono ?_
  intro e w1 hx
  obtain ⟨rfl, hx1⟩ := hx
  have Hx1 := hid hx1
  obtain ⟨W, hW⟩ : ∃ W, W = w1.alloc (.cells #[.int .i64 (r : Int), .int .u8 kd, .slice av l.length cv] 58) := ⟨_, rfl⟩
  have hxW : Ext w1 W := by rw [hW]; exact (Ext.refl _).alloc _
  have HBx0 : Hid (Blk W w1.heap.size #[.int .i64 (r : Int), .int .u8 kd, .slice av l.length cv] 58) := hid (by rw [hW]; exact Blk.new _ _ _)
  have HWe := hid hW
  have HX0 := hid (hx1.trans hxW)
  have HS0 := hid (H0.out.ext hx1)
  have HSW := hid (H0.out.ext HX0.out)
  have HvW := hid (own_ext Hv0.out HX0.out)
  clear HO hx1 hW hxW H0 Hv0
  have d0 := HBx0.out.kc (X := fun _ => False) (fun e => e) 0 rfl
  have b4 := HSW.out.blk.kc (X := fun _ => False) (fun e => e) 4 rfl
  simp only [shCells, qA0, qA1, qA2] at d0 b4
  go_wp2
  rw [← HWe.out]
  refine wp_flowT (fun _ => False) (by kernel_rfl) (by kernel_rfl) ?_
  repeat (apply FlowT.d; (intro w1 hk; unfold does; go_simp; (try go_ints); (first | exact DetR.mk | (simp only [↓IntWalk.iteOmega, Oper.doesUpon_value]; exact DetR.mk) | (simp only [↓IntWalk.iteOmega]; go_simp; (try go_ints); exact DetR.mk))); simp only [Act.put, qS0, qS1, qS2])
  refine FlowT.fin fun w2 hx2 hk2 => ?_
  have HX2 := hid (HX0.out.trans hx2)
  have HS := hid (HSW.out.ext hx2)
  have HBx := hid (HBx0.out.ext hx2)
  have Hv := hid (own_ext HvW.out hx2)
  clear hx2 hk2 d0 b4 HSW HBx0 HvW HX0 HWe
  by_cases hm : r = c.me
  · have Hte : Hid (s.tell (c.me : Nat) (c.k : Nat) (n : Nat) kd l = { s with todo := s.todo ++ [⟨(r : Int), kd, l⟩] }) := hid (by
      unfold SH.tell
      rw [Hmc.out, if_pos (by rw [hm])])
    have hb : ((r : Int) == (c.me : Int)) = true := by rw [hm]; simp
    clear hm
    obtain ⟨aw, cw, hvt⟩ := HS.out.tq.form
    have hvt' := hvt
    subst hvt
    have hXq : ∀ (b : Nat) (e : TypeId), (Value.slice aw s.todo.length cw).ownBlock = some b → 58 ≠ e → ∀ c, ¬ Blk w2 b c e := fun _ _ hb he c' hc => by
      obtain ⟨c'', hc'⟩ := HS.out.tblk hb
      exact off_of hc' he ⟨_, hc⟩
    have hXw : ¬ (Value.slice aw s.todo.length cw).ownBlock = some w1.heap.size := fun hb => by
      have := HS0.out.own_lt (show ShOwn g m1 m2 f1 f2 (Value.slice aw s.todo.length cw) vo w1.heap.size by unfold ShOwn; simp only [hb, true_or, or_true])
      omega
    have b8 := HS.out.blk.kc (X := fun q => (Value.slice aw s.todo.length cw).ownBlock = some q) (fun hb => hXq _ _ hb (by decide) _ HS.out.blk) 10 rfl
    have d0 := HBx.out.kc (X := fun q => (Value.slice aw s.todo.length cw).ownBlock = some q) hXw 0 rfl
    have d1 := HBx.out.kc (X := fun q => (Value.slice aw s.todo.length cw).ownBlock = some q) hXw 1 rfl
    have d2 := HBx.out.kc (X := fun q => (Value.slice aw s.todo.length cw).ownBlock = some q) hXw 2 rfl
    simp only [shCells, qA0, qA1, qA2] at b8 d0 d1 d2
    have HXq := hid hXq
    clear hXq hXw hvt'
    go_wp2
    refine wp_flowT (fun q => (Value.slice aw s.todo.length cw).ownBlock = some q) (by kernel_rfl) (by kernel_rfl) ?_
    repeat (apply FlowT.d; (intro w1 hk; unfold does; go_simp; (try go_ints); (first | exact DetR.mk | (simp only [↓IntWalk.iteOmega, Oper.doesUpon_value]; exact DetR.mk) | (simp only [↓IntWalk.iteOmega]; go_simp; (try go_ints); exact DetR.mk))); simp only [Act.put, qS0, qS1, qS2])
    refine FlowT.s (fun v' w' => ∃ q, v' = .slice (some ⟨q, 0, none⟩) 1 1 ∧ Blk w' q #[.int .i64 (r : Int), .int .u8 kd, .slice av l.length cv] 58 ∧ Ext w2 w') 6 rfl (by kernel_rfl) (fun _ _ _ ⟨q, h1, h2, h3⟩ he => ⟨q, h1, h2.ext he, h3.trans he⟩) (fun w4 hC hk => ?_) ?_
    · unfold does
      go_simp
      exact ⟨hk.alloc _, _, rfl, Blk.new _ _ _, hC.alloc _⟩
    rintro _ ⟨_, q3, rfl, _, _⟩
    simp only [Act.put, qS0, qS1, qS2]
    refine FlowT.s (fun v' w' => (∃ a c, v' = .slice a (s.todo.length + 1) c) ∧ OwnsQ w' 0 58 3 v' (s.todo.length + 1) (ts.flatMap N2.cells ++ N2.cells ⟨⟨(r : Int), kd, l⟩, .slice av l.length cv⟩) ∧ ∀ b, v'.ownBlock = some b → (Value.slice aw s.todo.length cw).ownBlock = some b ∨ w2.heap.size ≤ b) 7 rfl (by kernel_rfl) (fun _ _ _ ⟨h1, h2, h3⟩ he => ⟨h1, h2.ext he, h3⟩) (fun w4 hC hk => ?_) ?_
    · obtain ⟨q', e, hg, hE⟩ := hC
      obtain rfl : q3 = q' := by simpa using e
      exact does_append_q 0 (Nat.zero_le _) 36 58 (.agg #[.int .i64 0, .int .u8 0, .slice none 0 0]) 3 40 Tryz.underlying36 note_info rfl (by omega) (by omega) rfl _ _ rfl _ _ _ rfl (HS.out.tq.ext hE) q3 (N2.cells ⟨⟨(r : Int), kd, l⟩, .slice av l.length cv⟩) rfl (by simp [N2.cells, Value.oneCell']) rfl hg (by have := Hld.out; unfold SH.load at this; omega) fun v' w' h1 h2 h3 => ⟨hk.trans h2, h1.form, h1, fun b hb => (h3 b hb).imp id fun h => Nat.le_trans hE.size h⟩
    rintro _ ⟨_, ⟨a9, c9, rfl⟩, _, _⟩
    simp only [Act.put, qS0, qS1, qS2]
    repeat (apply FlowT.d; (intro w1 hk; unfold does; go_simp; (try go_ints); (first | exact DetR.mk | (simp only [↓IntWalk.iteOmega, Oper.doesUpon_value]; exact DetR.mk) | (simp only [↓IntWalk.iteOmega]; go_simp; (try go_ints); exact DetR.mk))); simp only [Act.put, qS0, qS1, qS2])
    refine FlowT.last (fun _ w' => ShAt w' G F g c { s with todo := s.todo ++ [⟨(r : Int), kd, l⟩] } ∧ Keep (fun b => ¬ F b) w w') 10 rfl (by kernel_rfl) (by kernel_rfl) (fun w5 hC hk => ?_) (fun _ w6 hR => ?_)
    · obtain ⟨_, hq, hob⟩ := hC
      have q8 := b8 w5 hk
      have f8 := (HS.out.blk.keep hk fun hb => HXq.out _ _ hb (by decide) _ HS.out.blk).free 10
      unfold does
      go_simp
      refine ⟨⟨_, _, _, _, _, _, _, _, HS.out.setTodo hk (l := s.todo ++ [⟨(r : Int), kd, l⟩]) (ts' := ts ++ [⟨⟨(r : Int), kd, l⟩, .slice av l.length cv⟩]) (by rw [List.map_append, HS.out.tn]; rfl) ?_ (fun x hx => ?_) hob⟩, ?_⟩
      · rw [List.length_append, List.flatMap_append]
        simpa using hq
      · have hoff : ∀ b, (Value.slice aw s.todo.length cw).ownBlock = some b → ¬ ∃ c, Blk w2 b c 3 := fun b hb ⟨c', hc⟩ => HXq.out _ _ hb (by decide) c' hc
        rcases List.mem_append.1 hx with hx | hx
        · exact own_off (HS.out.tr x hx) hk hoff
        · rw [List.mem_singleton.1 hx]
          exact own_off Hv.out hk hoff
      · exact (HX2.out.keep _).trans ((hk.mono fun b _ e => HS.out.own b (show ShOwn g m1 m2 f1 f2 (Value.slice aw s.todo.length cw) vo b by unfold ShOwn; simp only [e, true_or, or_true])).set (HS.out.own g (.inl rfl)) _)
    simp only [Act.put]
    obtain ⟨hS9, hK9⟩ := hR
    have HS9 := hid hS9
    have HK9 := hid hK9
    clear hS9 hK9 b8 d0 d1 d2 HXq
    go_wp2
    go_end0
    exact ⟨rfl, by rw [Hte.out]; exact HS9.out, HK9.out⟩
  · have Hte : Hid (s.tell (c.me : Nat) (c.k : Nat) (n : Nat) kd l = { s with out := s.out ++ [⟨(r : Int), kd, l⟩] }) := hid (by
      unfold SH.tell
      rw [Hmc.out, if_neg (by omega)])
    have hb : ((r : Int) == (c.me : Int)) = false := beq_eq_false_iff_ne.2 (by omega)
    clear hm
    obtain ⟨aw, cw, hvt⟩ := HS.out.oq.form
    have hvt' := hvt
    subst hvt
    have hXq : ∀ (b : Nat) (e : TypeId), (Value.slice aw s.out.length cw).ownBlock = some b → 58 ≠ e → ∀ c, ¬ Blk w2 b c e := fun _ _ hb he c' hc => by
      obtain ⟨c'', hc'⟩ := HS.out.oblk hb
      exact off_of hc' he ⟨_, hc⟩
    have hXw : ¬ (Value.slice aw s.out.length cw).ownBlock = some w1.heap.size := fun hb => by
      have := HS0.out.own_lt (show ShOwn g m1 m2 f1 f2 vt (Value.slice aw s.out.length cw) w1.heap.size by unfold ShOwn; simp only [hb, true_or, or_true])
      omega
    have b8 := HS.out.blk.kc (X := fun q => (Value.slice aw s.out.length cw).ownBlock = some q) (fun hb => hXq _ _ hb (by decide) _ HS.out.blk) 11 rfl
    have d0 := HBx.out.kc (X := fun q => (Value.slice aw s.out.length cw).ownBlock = some q) hXw 0 rfl
    have d1 := HBx.out.kc (X := fun q => (Value.slice aw s.out.length cw).ownBlock = some q) hXw 1 rfl
    have d2 := HBx.out.kc (X := fun q => (Value.slice aw s.out.length cw).ownBlock = some q) hXw 2 rfl
    simp only [shCells, qA0, qA1, qA2] at b8 d0 d1 d2
    have HXq := hid hXq
    clear hXq hXw hvt'
    go_wp2
    refine wp_flowT (fun q => (Value.slice aw s.out.length cw).ownBlock = some q) (by kernel_rfl) (by kernel_rfl) ?_
    repeat (apply FlowT.d; (intro w1 hk; unfold does; go_simp; (try go_ints); (first | exact DetR.mk | (simp only [↓IntWalk.iteOmega, Oper.doesUpon_value]; exact DetR.mk) | (simp only [↓IntWalk.iteOmega]; go_simp; (try go_ints); exact DetR.mk))); simp only [Act.put, qS0, qS1, qS2])
    refine FlowT.s (fun v' w' => ∃ q, v' = .slice (some ⟨q, 0, none⟩) 1 1 ∧ Blk w' q #[.int .i64 (r : Int), .int .u8 kd, .slice av l.length cv] 58 ∧ Ext w2 w') 6 rfl (by kernel_rfl) (fun _ _ _ ⟨q, h1, h2, h3⟩ he => ⟨q, h1, h2.ext he, h3.trans he⟩) (fun w4 hC hk => ?_) ?_
    · unfold does
      go_simp
      exact ⟨hk.alloc _, _, rfl, Blk.new _ _ _, hC.alloc _⟩
    rintro _ ⟨_, q3, rfl, _, _⟩
    simp only [Act.put, qS0, qS1, qS2]
    refine FlowT.s (fun v' w' => (∃ a c, v' = .slice a (s.out.length + 1) c) ∧ OwnsQ w' 0 58 3 v' (s.out.length + 1) (os.flatMap N2.cells ++ N2.cells ⟨⟨(r : Int), kd, l⟩, .slice av l.length cv⟩) ∧ ∀ b, v'.ownBlock = some b → (Value.slice aw s.out.length cw).ownBlock = some b ∨ w2.heap.size ≤ b) 7 rfl (by kernel_rfl) (fun _ _ _ ⟨h1, h2, h3⟩ he => ⟨h1, h2.ext he, h3⟩) (fun w4 hC hk => ?_) ?_
    · obtain ⟨q', e, hg, hE⟩ := hC
      obtain rfl : q3 = q' := by simpa using e
      exact does_append_q 0 (Nat.zero_le _) 36 58 (.agg #[.int .i64 0, .int .u8 0, .slice none 0 0]) 3 40 Tryz.underlying36 note_info rfl (by omega) (by omega) rfl _ _ rfl _ _ _ rfl (HS.out.oq.ext hE) q3 (N2.cells ⟨⟨(r : Int), kd, l⟩, .slice av l.length cv⟩) rfl (by simp [N2.cells, Value.oneCell']) rfl hg (by have := Hld.out; unfold SH.load at this; omega) fun v' w' h1 h2 h3 => ⟨hk.trans h2, h1.form, h1, fun b hb => (h3 b hb).imp id fun h => Nat.le_trans hE.size h⟩
    rintro _ ⟨_, ⟨a9, c9, rfl⟩, _, _⟩
    simp only [Act.put, qS0, qS1, qS2]
    repeat (apply FlowT.d; (intro w1 hk; unfold does; go_simp; (try go_ints); (first | exact DetR.mk | (simp only [↓IntWalk.iteOmega, Oper.doesUpon_value]; exact DetR.mk) | (simp only [↓IntWalk.iteOmega]; go_simp; (try go_ints); exact DetR.mk))); simp only [Act.put, qS0, qS1, qS2])
    refine FlowT.last (fun _ w' => ShAt w' G F g c { s with out := s.out ++ [⟨(r : Int), kd, l⟩] } ∧ Keep (fun b => ¬ F b) w w') 10 rfl (by kernel_rfl) (by kernel_rfl) (fun w5 hC hk => ?_) (fun _ w6 hR => ?_)
    · obtain ⟨_, hq, hob⟩ := hC
      have q8 := b8 w5 hk
      have f8 := (HS.out.blk.keep hk fun hb => HXq.out _ _ hb (by decide) _ HS.out.blk).free 11
      unfold does
      go_simp
      refine ⟨⟨_, _, _, _, _, _, _, _, HS.out.setOut hk (l := s.out ++ [⟨(r : Int), kd, l⟩]) (os' := os ++ [⟨⟨(r : Int), kd, l⟩, .slice av l.length cv⟩]) (by rw [List.map_append, HS.out.on]; rfl) ?_ (fun x hx => ?_) hob⟩, ?_⟩
      · rw [List.length_append, List.flatMap_append]
        simpa using hq
      · have hoff : ∀ b, (Value.slice aw s.out.length cw).ownBlock = some b → ¬ ∃ c, Blk w2 b c 3 := fun b hb ⟨c', hc⟩ => HXq.out _ _ hb (by decide) c' hc
        rcases List.mem_append.1 hx with hx | hx
        · exact own_off (HS.out.or x hx) hk hoff
        · rw [List.mem_singleton.1 hx]
          exact own_off Hv.out hk hoff
      · exact (HX2.out.keep _).trans ((hk.mono fun b _ e => HS.out.own b (show ShOwn g m1 m2 f1 f2 vt (Value.slice aw s.out.length cw) b by unfold ShOwn; simp only [e, true_or, or_true])).set (HS.out.own g (.inl rfl)) _)
    simp only [Act.put]
    obtain ⟨hS9, hK9⟩ := hR
    have HS9 := hid hS9
    have HK9 := hid hK9
    clear hS9 hK9 b8 d0 d1 d2 HXq
    go_wp2
    go_end0
    exact ⟨rfl, by rw [Hte.out]; exact HS9.out, HK9.out⟩
theorem irow_two (w : World) (a b : Int) : IRow 0 (w.alloc (.cells #[.int .i64 a, .int .i64 b] 3)) (.slice (some ⟨w.heap.size, 0, none⟩) 2 2) [a, b] :=
  ⟨rfl, .inr ⟨w.heap.size, 2, #[.int .i64 a, .int .i64 b], rfl, Nat.zero_le _, Blk.new _ _ _, Nat.le_refl _, by unfold maxLen; omega, by simp, rfl⟩⟩
set_option maxRecDepth 100000 in
set_option maxHeartbeats 1600000 in
theorem shardedge_any (c : SC) (s : SH) (a b : Nat) (w : World) (G F : Nat → Prop) (g : Nat) (hS : ShAt w G F g c s) (ha : a < 1000000) (hb : b < 1000000) (hld : s.load ≤ 900000000) :
    Calls Tryz.prog 48 #[.pointer (some ⟨g, 0, none⟩), .agg #[.int .i64 (a : Int), .int .i64 (b : Int)]] w fun x w' => x = .returned (.tuple #[]) ∧ ShAt w' G F g c (s.edge (c.me : Nat) (c.k : Nat) ((a : Int), (b : Int))) ∧ Keep (fun b => ¬ F b) w w' := by
  obtain ⟨W, hW⟩ : ∃ W, W = w.alloc (.cells #[.int .i64 (a : Int), .int .i64 (b : Int)] 95) := ⟨_, rfl⟩
  have hxW : Ext w W := by rw [hW]; exact (Ext.refl _).alloc _
  by_cases hab : a = b
  · subst hab
    have Hr : Hid (s.edge (c.me : Nat) (c.k : Nat) ((a : Int), (a : Int)) = s) := hid (by unfold SH.edge; rw [if_pos rfl])
    have HS := hid (hS.ext hxW)
    have HX := hid hxW
    have HWe := hid hW
    clear hS hxW hW
    go_enter Tryz.func48, Tryz.ntmps48
    go_wp2
    rw [← HWe.out]
    go_end0
    exact ⟨rfl, by rw [Hr.out]; exact HS.out, HX.out.keep _⟩
  · have Hr : Hid (s.edge (c.me : Nat) (c.k : Nat) ((a : Int), (b : Int)) = s.tell (c.me : Nat) (c.k : Nat) (a : Nat) 101 [(a : Int), (b : Int)]) := hid (by unfold SH.edge; rw [if_neg (by simp only; omega)])
    obtain ⟨W2, hW2⟩ : ∃ W2, W2 = W.alloc (.cells #[.int .i64 (a : Int), .int .i64 (b : Int)] 3) := ⟨_, rfl⟩
    have hx2 : Ext W W2 := by rw [hW2]; exact (Ext.refl _).alloc _
    have hrow : IRow 0 W2 (.slice (some ⟨W.heap.size, 0, none⟩) 2 2) [(a : Int), (b : Int)] := by
      rw [hW2]
      exact irow_two W a b
    have HT := hid (shardtell_any c s a 101 [(a : Int), (b : Int)] _ W2 G F g (hS.ext (hxW.trans hx2)) hrow ha hld)
    have HX := hid (hxW.trans hx2)
    have hsz : W.heap.size = w.heap.size + 1 := by rw [hW, heap_size_alloc]
    rw [hsz] at HT
    have HWe : Hid (W2 = (w.alloc (.cells #[.int .i64 (a : Int), .int .i64 (b : Int)] 95)).alloc (.cells #[.int .i64 (a : Int), .int .i64 (b : Int)] 3)) := hid (by rw [hW2, hW])
    have hab2 : ((a : Int) == (b : Int)) = false := beq_eq_false_iff_ne.2 (by omega)
    have hab3 : ((a : Int) != (b : Int)) = true := by simp only [bne, hab2]; rfl
    clear hS hxW hW hW2 hx2 hrow hsz
    go_enter Tryz.func48, Tryz.ntmps48
    go_wp2_with fail
    rw [← HWe.out]
    refine HT.out.mono ?_
    intro x w3 hx
    obtain ⟨rfl, hS3, hK3⟩ := hx
    have HS3 := hid hS3
    have HK3 := hid hK3
    clear HT hS3 hK3
    go_wp2
    go_end0
    exact ⟨rfl, by rw [Hr.out]; exact HS3.out, (HX.out.keep _).trans HK3.out⟩
theorem shmmEql_some (b : Nat) (w : World) : (binOp .eql 99 (.map (some b)) (.map none)).run Tryz.prog w = .ok (.bool false) w := by kernel_rfl
theorem shmmEql_none (w : World) : (binOp .eql 99 (.map none) (.map none)).run Tryz.prog w = .ok (.bool true) w := by kernel_rfl
theorem MM.at {w : World} {m : Nat} {M : List (Int × Int)} {f : Int → Option Value} (h : MM w m M f) {n : Int} {q : Nat} (hf : f n = some (.map (some q))) : KMap Tryz.prog 3 (Value.int .i64) w q (setF M n) ∧ Stm w q := by
  rcases h.val n with ⟨g, _⟩ | ⟨p, g1, g2, g3⟩
  · rw [g] at hf; cases hf
  · rw [g1] at hf
    simp only [Option.some.injEq, Value.map.injEq] at hf
    exact ⟨hf ▸ g2, hf ▸ g3⟩
theorem sends_load {me k b : Int} : ∀ (l : List Int) {s : SH}, (l.foldl (SH.send me k b) s).load = s.load + l.length
  | [], _ => rfl
  | o :: l, s => by
    rw [List.foldl_cons, sends_load l, List.length_cons]
    unfold SH.send
    rw [tell_load]; omega
theorem sendsTo_load {me k o : Int} : ∀ (l : List Int) {s : SH}, (l.foldl (SH.sendTo me k o) s).load = s.load + l.length
  | [], _ => rfl
  | b :: l, s => by
    rw [List.foldl_cons, sendsTo_load l, List.length_cons]
    unfold SH.sendTo
    rw [tell_load]; omega
theorem room_run {w : World} {m : Nat} {M : List (Int × Int)} {f : Int → Option Value} (h : MM w m M f) {n : Int} (hf : f n = none) (hn : 0 ≤ n ∧ n < 1000000) :
    ∃ w2, (Instr.mapUpdate 86 (.map (some m)) (.int .i64 n) (.map (some w.heap.size))).run Tryz.prog (w.alloc (.map #[] 0)) = .ok () w2 ∧ MM w2 m M (fun l => if l = n then some (.map (some w.heap.size)) else f l) ∧ (∀ l, InM (fun l => if l = n then some (.map (some w.heap.size)) else f l) l → InM f l ∨ w.heap.size ≤ l) ∧ Keep (fun l => l = m ∨ InM f l) w w2 := by
  obtain ⟨l, hl⟩ := key_int hn
  have hx : Ext w (w.alloc (.map #[] 0)) := (Ext.refl _).alloc _
  obtain ⟨w2, hrun, h2, k2⟩ := run_kmap_put int_keyed64 intV_inj Tryz.underlying86 (h.map.ext hx) hl (.map (some w.heap.size))
  obtain ⟨r1, r2, r3⟩ := h.room hf rfl hx (KMap.new _ _ _ _) (Stm.new w) h2 k2
  exact ⟨w2, hrun, r1, r2, r3⟩
set_option maxRecDepth 100000 in
set_option maxHeartbeats 6400000 in
theorem shardjoined_any (c : SC) (s : SH) (a b : Nat) (w : World) (G F : Nat → Prop) (g : Nat) (hS : ShAt w G F g c s) (hok : s.Ok c.P (c.me : Nat) (c.k : Nat)) (ha : a < c.P.nodesV) (hb : b < c.P.nodesV) (hld : s.load ≤ 800000000) :
    Calls Tryz.prog 80 #[.pointer (some ⟨g, 0, none⟩), .int .i64 (a : Int), .int .i64 (b : Int)] w fun x w' => x = .returned (.tuple #[]) ∧ ShAt w' G F g c (s.joined (c.me : Nat) (c.k : Nat) ((a : Int), (b : Int))) ∧ Keep (fun b => ¬ F b) w w' := by
  have hS0 := hS
  obtain ⟨m1, m2, f1, f2, vt, vo, ts, os, h⟩ := hS
  have hnn := h.con.well.nodes
  have ha' : a < 126 := by omega
  have hb' : b < 126 := by omega
  have Hh126 := hid (hok.has126 h.con.well)
  obtain ⟨v, hv, l1, l2⟩ := h.mm2.look2 (b := (a : Int)) (a := (b : Int)) (by omega) (by omega)
  have HS := hid h
  have HSa := hid hS0
  have Hld := hid hld
  have b9a := h.blk.av 9 rfl
  simp only [shCells, qA0, qA1, qA2] at b9a
  clear hS0 hok hld hnn
  by_cases hm : ((a : Int), (b : Int)) ∈ s.nxt
  · have Hr : Hid (s.joined (c.me : Nat) (c.k : Nat) ((a : Int), (b : Int)) = s) := hid (by unfold SH.joined; rw [if_pos hm])
    rw [decide_eq_true hm] at l2
    clear hm h hv ha hb
    go_enter Tryz.func80, Tryz.ntmps80
    go_wp2
    refine bodyPost_ret (v := .tuple #[]) (results_none (by kernel_rfl) _ _ _) rfl ?_
    exact ⟨rfl, by rw [Hr.out]; exact HSa.out, Keep.refl _ _⟩
  · rw [decide_eq_false hm] at l2
    have Hmem := hid hm
    clear hm ha hb HSa
    rcases h.mm2.val (a : Int) with ⟨g1, -⟩ | ⟨q, g1, -, -⟩
    · rw [g1] at hv
      simp only [Option.getD_none, Value.map.injEq] at hv
      subst hv
      obtain ⟨w2, hup, hM2, hI2, hK2⟩ := room_run h.mm2 g1 (by omega)
      have HS2 := hid (h.setNxt hK2 hM2 hI2)
      have HK2 : Hid (Keep (fun b => ¬ F b) w w2) := hid (hK2.mono fun q _ hq => hq.elim (fun e => h.own q (.inr (.inr (.inl e)))) fun hi => h.own q (.inr (.inr (.inr (.inr (.inl hi))))))
      have hmm := @run_makeMap Tryz.prog
      have heq := shmmEql_none
      have Hf2 : Hid ((fun l => if l = (a : Int) then some (.map (some w.heap.size)) else f2 l) (a : Int) = some (Value.map (some w.heap.size))) := hid (by simp)
      generalize (fun l => if l = (a : Int) then some (.map (some w.heap.size)) else f2 l) = f2' at HS2 Hf2
      clear h g1 hM2 hI2 hK2
      go_enter Tryz.func80, Tryz.ntmps80
      have hfx := Hf2.out
      obtain ⟨Kq, Sq⟩ := HS2.out.mm2.at hfx
      have l3 := HS2.out.mm2.look1 (b := (a : Int)) (by omega)
      rw [hfx] at l3
      simp only [Option.getD_some] at l3
      obtain ⟨w3, hput, hk3, hs3, hkp3⟩ := run_kmap_put_stm Tryz.underlying99 Kq Sq (k := (b : Int)) (by omega) (.bool true)
      obtain ⟨hM3, hkp⟩ := HS2.out.mm2.put hfx hk3 hs3 hkp3
      have HS3 := hid (HS2.out.setNxt hkp hM3 fun q hq => .inl hq)
      have HK3 : Hid (Keep (fun b => ¬ F b) w w3) := hid (HK2.out.trans (hkp.mono fun q _ hq => hq.elim (fun e => HS2.out.own q (.inr (.inr (.inl e)))) fun hi => HS2.out.own q (.inr (.inr (.inr (.inr (.inl hi)))))))
      have l4 := HS3.out.mm1.look1 (b := (a : Int)) (by omega)
      have HKy := hid (shardkeys_any (a : Int) w3 HS3.out.mm1 Hh126.out)
      obtain ⟨vk, hvk⟩ : ∃ vk, vk = (f1 (a : Int)).getD (.map none) := ⟨_, rfl⟩
      rw [← hvk] at l4 HKy
      have b9 := HS2.out.blk.av 9 rfl
      have b8 := HS3.out.blk.av 8 rfl
      simp only [shCells, qA0, qA1, qA2] at b9 b8
      clear hfx Kq Sq hk3 hs3 hkp3 hM3 hkp hvk
      go_wp2_with fail
      refine HKy.out.mono ?_
      intro e w4 hx
      obtain ⟨v4, rfl, hr4, hx4⟩ := hx
      have Hfl : Hid ((keysL s.has (a : Int)).foldl (SH.send (c.me : Nat) (c.k : Nat) (b : Int)) { s with nxt := s.nxt ++ [((a : Int), (b : Int))] } = s.joined (c.me : Nat) (c.k : Nat) ((a : Int), (b : Int))) := hid (by unfold SH.joined; rw [if_neg Hmem.out])
      have Hin : Hid (∀ o ∈ keysL s.has (a : Int), 0 ≤ o ∧ o < 126) := hid fun o ho => (keysL_in ho).2
      have hlen := keysL_few s.has (a : Int)
      generalize keysL s.has (a : Int) = L at hr4 Hfl Hin hlen
      obtain ⟨av, cv, rfl⟩ := row_form hr4
      have HS4 : Hid (ShAt w4 G (fun b => F b ∨ (w3.heap.size ≤ b ∧ b < w4.heap.size)) g c { s with nxt := s.nxt ++ [((a : Int), (b : Int))] }) := hid (ShAt.frz ⟨_, _, _, _, _, _, _, _, HS3.out⟩ hx4)
      have Hrf : Hid (∀ q, (Value.slice av L.length cv).ownBlock = some q → F q ∨ (w3.heap.size ≤ q ∧ q < w4.heap.size)) := hid fun q hq => .inr (hr4.lt hq)
      have HR4 := hid hr4
      have HK4 := hid (HK3.out.ext_r hx4)
      have HGF := hid HS3.out.gf
      obtain ⟨s1, hs1⟩ : ∃ s1 : SH, s1 = { s with nxt := s.nxt ++ [((a : Int), (b : Int))] } := ⟨_, rfl⟩
      have Hld1 : Hid (s1.load ≤ 800000000) := hid (by rw [hs1]; exact Hld.out)
      rw [← hs1] at HS4 Hfl
      generalize hF' : (fun b => F b ∨ (w3.heap.size ≤ b ∧ b < w4.heap.size)) = F' at HS4
      have HF1 : Hid (∀ b, F b → F' b) := hid fun b hb => by rw [← hF']; exact .inl hb
      have HrF : Hid (∀ b, (Value.slice av L.length cv).ownBlock = some b → F' b) := hid fun b hb => by rw [← hF']; exact Hrf.out b hb
      clear HKy hr4 hx4 l3 l4 hput b9 b8 HS3 HK3 Hrf hF' hs1
      go_wp2
      go_loopw [44] (fun t44 wr => ∃ j : Nat, t44 = .int .i64 (j : Int) ∧ j ≤ L.length ∧ ShAt wr G F' g c ((L.take j).foldl (SH.send (c.me : Nat) (c.k : Nat) (b : Int)) s1) ∧ IRow w3.heap.size wr (.slice av L.length cv) L ∧ Keep (fun b => ¬ F b) w wr) (fun t44 _ => L.length - (intOf t44).toNat)
      case atStart => exact ⟨0, rfl, Nat.zero_le _, HS4.out, HR4.out, HK4.out⟩
      case round =>
        obtain ⟨j, rfl, hj, hS5, hR5, hK5⟩ := hrel
        have HR5 := hid hR5
        have HK5 := hid hK5
        by_cases hlt : j < L.length
        · obtain ⟨x, hqx⟩ : ∃ x, L[j]? = some x := ⟨_, List.getElem?_eq_getElem hlt⟩
          obtain ⟨g8, cp8, hge⟩ := own_some hR5 (by omega)
          simp only [Value.slice.injEq] at hge
          obtain ⟨rfl, -, rfl⟩ := hge
          have q0 := own_i hR5 hqx
          obtain ⟨hx0, hx1⟩ := Hin.out x (List.mem_of_getElem? hqx)
          obtain ⟨o, rfl⟩ := Int.eq_ofNat_of_zero_le hx0
          have Hn : Hid ((L.take (j + 1)).foldl (SH.send (c.me : Nat) (c.k : Nat) (b : Int)) s1 = SH.tell (c.me : Nat) (c.k : Nat) ((L.take j).foldl (SH.send (c.me : Nat) (c.k : Nat) (b : Int)) s1) (b : Nat) 100 [(b : Int), (o : Int)]) := hid (by rw [List.take_add_one, hqx, List.foldl_append]; rfl)
          have hl5 : ((L.take j).foldl (SH.send (c.me : Nat) (c.k : Nat) (b : Int)) s1).load ≤ 900000000 := by
            rw [sends_load, List.length_take]
            have := Hld1.out
            omega
          obtain ⟨wA, hwA⟩ : ∃ wA, wA = wr.alloc (.cells #[.int .i64 (b : Int), .int .i64 (o : Int)] 3) := ⟨_, rfl⟩
          have hxA : Ext wr wA := by rw [hwA]; exact (Ext.refl _).alloc _
          have HxA := hid hxA
          have hrow : IRow 0 wA (.slice (some ⟨wr.heap.size, 0, none⟩) 2 2) [(b : Int), (o : Int)] := by
            rw [hwA]
            exact irow_two wr b o
          have HT := hid (shardtell_any c ((L.take j).foldl (SH.send (c.me : Nat) (c.k : Nat) (b : Int)) s1) b 100 [(b : Int), (o : Int)] _ wA G F' g (hS5.ext hxA) hrow (by omega) hl5)
          have HwA := hid hwA
          clear hS5 hR5 hK5 hqx hx0 hx1 hxA hwA hl5 hrow
          go_wp2_with fail
          rw [← HwA.out]
          refine HT.out.mono ?_
          intro z w6 hx
          obtain ⟨rfl, hS6, hK6⟩ := hx
          have HS6 := hid hS6
          have HK6 := hid hK6
          clear hS6 hK6 HT q0
          go_wp2
          go_roundw
          case rel =>
            refine ⟨j + 1, by go_num, by omega, ?_, ?_, ?_⟩
            · rw [Hn.out]; exact HS6.out
            · exact row_keep (own_ext HR5.out HxA.out) HK6.out fun b hb hx => hx (HrF.out b hb)
            · exact (HK5.out.ext_r HxA.out).trans (HK6.out.mono fun b _ hx hF => hx (HF1.out b hF))
          case measure => simp [intOf]; omega
        · obtain rfl : j = L.length := by omega
          rw [List.take_length, Hfl.out] at hS5
          have HSz := hid (hS5.less HGF.out HF1.out)
          clear hS5 hR5 hK5
          go_wp2
          go_end0
          exact ⟨rfl, HSz.out, HK5.out⟩
    · rw [g1] at hv
      simp only [Option.getD_some, Value.map.injEq] at hv
      subst hv
      have heq := shmmEql_some
      have Hf2 := hid g1
      clear h g1
      go_enter Tryz.func80, Tryz.ntmps80
      have hfx := Hf2.out
      obtain ⟨Kq, Sq⟩ := HS.out.mm2.at hfx
      have l3 := HS.out.mm2.look1 (b := (a : Int)) (by omega)
      rw [hfx] at l3
      simp only [Option.getD_some] at l3
      obtain ⟨w3, hput, hk3, hs3, hkp3⟩ := run_kmap_put_stm Tryz.underlying99 Kq Sq (k := (b : Int)) (by omega) (.bool true)
      obtain ⟨hM3, hkp⟩ := HS.out.mm2.put hfx hk3 hs3 hkp3
      have HS3 := hid (HS.out.setNxt hkp hM3 fun q hq => .inl hq)
      have HK3 : Hid (Keep (fun b => ¬ F b) w w3) := hid ((Keep.refl (fun b => ¬ F b) w).trans (hkp.mono fun q _ hq => hq.elim (fun e => HS.out.own q (.inr (.inr (.inl e)))) fun hi => HS.out.own q (.inr (.inr (.inr (.inr (.inl hi)))))))
      have l4 := HS3.out.mm1.look1 (b := (a : Int)) (by omega)
      have HKy := hid (shardkeys_any (a : Int) w3 HS3.out.mm1 Hh126.out)
      obtain ⟨vk, hvk⟩ : ∃ vk, vk = (f1 (a : Int)).getD (.map none) := ⟨_, rfl⟩
      rw [← hvk] at l4 HKy
      have b9 := HS.out.blk.av 9 rfl
      have b8 := HS3.out.blk.av 8 rfl
      simp only [shCells, qA0, qA1, qA2] at b9 b8
      clear hfx Kq Sq hk3 hs3 hkp3 hM3 hkp hvk
      go_wp2_with fail
      refine HKy.out.mono ?_
      intro e w4 hx
      obtain ⟨v4, rfl, hr4, hx4⟩ := hx
      have Hfl : Hid ((keysL s.has (a : Int)).foldl (SH.send (c.me : Nat) (c.k : Nat) (b : Int)) { s with nxt := s.nxt ++ [((a : Int), (b : Int))] } = s.joined (c.me : Nat) (c.k : Nat) ((a : Int), (b : Int))) := hid (by unfold SH.joined; rw [if_neg Hmem.out])
      have Hin : Hid (∀ o ∈ keysL s.has (a : Int), 0 ≤ o ∧ o < 126) := hid fun o ho => (keysL_in ho).2
      have hlen := keysL_few s.has (a : Int)
      generalize keysL s.has (a : Int) = L at hr4 Hfl Hin hlen
      obtain ⟨av, cv, rfl⟩ := row_form hr4
      have HS4 : Hid (ShAt w4 G (fun b => F b ∨ (w3.heap.size ≤ b ∧ b < w4.heap.size)) g c { s with nxt := s.nxt ++ [((a : Int), (b : Int))] }) := hid (ShAt.frz ⟨_, _, _, _, _, _, _, _, HS3.out⟩ hx4)
      have Hrf : Hid (∀ q, (Value.slice av L.length cv).ownBlock = some q → F q ∨ (w3.heap.size ≤ q ∧ q < w4.heap.size)) := hid fun q hq => .inr (hr4.lt hq)
      have HR4 := hid hr4
      have HK4 := hid (HK3.out.ext_r hx4)
      have HGF := hid HS3.out.gf
      obtain ⟨s1, hs1⟩ : ∃ s1 : SH, s1 = { s with nxt := s.nxt ++ [((a : Int), (b : Int))] } := ⟨_, rfl⟩
      have Hld1 : Hid (s1.load ≤ 800000000) := hid (by rw [hs1]; exact Hld.out)
      rw [← hs1] at HS4 Hfl
      generalize hF' : (fun b => F b ∨ (w3.heap.size ≤ b ∧ b < w4.heap.size)) = F' at HS4
      have HF1 : Hid (∀ b, F b → F' b) := hid fun b hb => by rw [← hF']; exact .inl hb
      have HrF : Hid (∀ b, (Value.slice av L.length cv).ownBlock = some b → F' b) := hid fun b hb => by rw [← hF']; exact Hrf.out b hb
      clear HKy hr4 hx4 l3 l4 hput b9 b8 HS3 HK3 Hrf hF' hs1
      go_wp2
      go_loopw [44] (fun t44 wr => ∃ j : Nat, t44 = .int .i64 (j : Int) ∧ j ≤ L.length ∧ ShAt wr G F' g c ((L.take j).foldl (SH.send (c.me : Nat) (c.k : Nat) (b : Int)) s1) ∧ IRow w3.heap.size wr (.slice av L.length cv) L ∧ Keep (fun b => ¬ F b) w wr) (fun t44 _ => L.length - (intOf t44).toNat)
      case atStart => exact ⟨0, rfl, Nat.zero_le _, HS4.out, HR4.out, HK4.out⟩
      case round =>
        obtain ⟨j, rfl, hj, hS5, hR5, hK5⟩ := hrel
        have HR5 := hid hR5
        have HK5 := hid hK5
        by_cases hlt : j < L.length
        · obtain ⟨x, hqx⟩ : ∃ x, L[j]? = some x := ⟨_, List.getElem?_eq_getElem hlt⟩
          obtain ⟨g8, cp8, hge⟩ := own_some hR5 (by omega)
          simp only [Value.slice.injEq] at hge
          obtain ⟨rfl, -, rfl⟩ := hge
          have q0 := own_i hR5 hqx
          obtain ⟨hx0, hx1⟩ := Hin.out x (List.mem_of_getElem? hqx)
          obtain ⟨o, rfl⟩ := Int.eq_ofNat_of_zero_le hx0
          have Hn : Hid ((L.take (j + 1)).foldl (SH.send (c.me : Nat) (c.k : Nat) (b : Int)) s1 = SH.tell (c.me : Nat) (c.k : Nat) ((L.take j).foldl (SH.send (c.me : Nat) (c.k : Nat) (b : Int)) s1) (b : Nat) 100 [(b : Int), (o : Int)]) := hid (by rw [List.take_add_one, hqx, List.foldl_append]; rfl)
          have hl5 : ((L.take j).foldl (SH.send (c.me : Nat) (c.k : Nat) (b : Int)) s1).load ≤ 900000000 := by
            rw [sends_load, List.length_take]
            have := Hld1.out
            omega
          obtain ⟨wA, hwA⟩ : ∃ wA, wA = wr.alloc (.cells #[.int .i64 (b : Int), .int .i64 (o : Int)] 3) := ⟨_, rfl⟩
          have hxA : Ext wr wA := by rw [hwA]; exact (Ext.refl _).alloc _
          have HxA := hid hxA
          have hrow : IRow 0 wA (.slice (some ⟨wr.heap.size, 0, none⟩) 2 2) [(b : Int), (o : Int)] := by
            rw [hwA]
            exact irow_two wr b o
          have HT := hid (shardtell_any c ((L.take j).foldl (SH.send (c.me : Nat) (c.k : Nat) (b : Int)) s1) b 100 [(b : Int), (o : Int)] _ wA G F' g (hS5.ext hxA) hrow (by omega) hl5)
          have HwA := hid hwA
          clear hS5 hR5 hK5 hqx hx0 hx1 hxA hwA hl5 hrow
          go_wp2_with fail
          rw [← HwA.out]
          refine HT.out.mono ?_
          intro z w6 hx
          obtain ⟨rfl, hS6, hK6⟩ := hx
          have HS6 := hid hS6
          have HK6 := hid hK6
          clear hS6 hK6 HT q0
          go_wp2
          go_roundw
          case rel =>
            refine ⟨j + 1, by go_num, by omega, ?_, ?_, ?_⟩
            · rw [Hn.out]; exact HS6.out
            · exact row_keep (own_ext HR5.out HxA.out) HK6.out fun b hb hx => hx (HrF.out b hb)
            · exact (HK5.out.ext_r HxA.out).trans (HK6.out.mono fun b _ hx hF => hx (HF1.out b hF))
          case measure => simp [intOf]; omega
        · obtain rfl : j = L.length := by omega
          rw [List.take_length, Hfl.out] at hS5
          have HSz := hid (hS5.less HGF.out HF1.out)
          clear hS5 hR5 hK5
          go_wp2
          go_end0
          exact ⟨rfl, HSz.out, HK5.out⟩
theorem FunsF.toR {w : World} {F : Nat → Prop} {n0 : Nat} {v : Value} {l : List PF} (h : FunsF w F v l) (hF : ∀ b, F b → b < n0) : FunsR w n0 v l :=
  ElF.toR h hF fun i y _ _ hE s hs => (let ⟨pv, h1, h2, h3, h4⟩ := hE s hs; ⟨pv, h1, h2, h3, h4.toR hF⟩)
set_option maxRecDepth 100000 in
set_option maxHeartbeats 3200000 in
theorem shardfire_a (c : SC) (s : SH) (r : RV) (aa : Option Addr) (ca : Nat) (o : Nat) (w : World) (G F : Nat → Prop) (g : Nat) (hS : ShAt w G F g c s) (ho : o < c.P.objectsV) (ha : IntsF w F (.slice aa r.args.length ca) r.args) (hE : r.fired = true → ∀ e ∈ c.P.fires r (o : Int), EdIn c.P e) (hld : s.load ≤ 800000000) (hkc : (r.kind.toList == [99, 97, 108, 108]) = true) (hin : (o : Int) < (c.P.nodesV : Int)) :
    Calls Tryz.prog 107 #[.pointer (some ⟨g, 0, none⟩), r.val (.slice aa r.args.length ca), .int .i64 (o : Int)] w fun x w' => x = .returned (.tuple #[]) ∧ ShAt w' G F g c (s.fire c.P (c.me : Nat) (c.k : Nat) r (o : Int)) ∧ Keep (fun b => ¬ F b) w w' := by
  have hS0 := hS
  obtain ⟨m1, m2, f1, f2, vt, vo, ts, os, h⟩ := hS
  have hw := h.con.well
  obtain ⟨hn1, hn2⟩ := hw.nodes
  obtain ⟨W, hW⟩ : ∃ W, W = w.alloc (.cells #[.string r.kind, .int .i64 r.a, .int .i64 r.b, .int .i64 r.k, .slice aa r.args.length ca] 90) := ⟨_, rfl⟩
  have HX : Hid (Ext w W) := hid (by rw [hW]; exact (Ext.refl _).alloc _)
  have HBx : Hid (Blk W w.heap.size #[.string r.kind, .int .i64 r.a, .int .i64 r.b, .int .i64 r.k, .slice aa r.args.length ca] 90) := hid (by rw [hW]; exact Blk.new _ _ _)
  have HWe : Hid (W = w.alloc (.cells #[.string r.kind, .int .i64 r.a, .int .i64 r.b, .int .i64 r.k, .slice aa r.args.length ca] 90)) := hid hW
  have HSa := hid (hS0.ext HX.out)
  have HS := hid (h.ext HX.out)
  have HA := hid (ha.keep (HX.out.keep fun _ => False) (fun _ _ h => h) fun _ h => h)
  have al := ha.form
  have hal : (r.args.length : Int) ≤ 9223372036854775807 := by obtain ⟨a, cap, h1, h2, h3, _⟩ := al; omega
  have Hw := hid hw
  have HE := hid hE
  have Hld := hid hld
  have hob : o < 126 := by omega
  have Ho := hid ho
  have m0 := HBx.out.av 0 rfl
  have m1' := HBx.out.av 1 rfl
  have m2' := HBx.out.av 2 rfl
  have b6 := HS.out.blk.av 6 rfl
  simp only [shCells, qA0, qA1, qA2] at m0 m1' m2' b6
  unfold RV.val
  clear hS0 h hW ha al hw hE hld ho
  have hkl : (r.kind.toList == [108, 111, 97, 100]) = false := by rw [eq_of_beq hkc]; rfl
  have hks : (r.kind.toList == [115, 116, 111, 114, 101]) = false := by rw [eq_of_beq hkc]; rfl
  have Hr : Hid (s.fire c.P (c.me : Nat) (c.k : Nat) r (o : Int) = s) := hid (by
    unfold SH.fire PP.fires kCall
    rw [hkc, cond_true]
    unfold PP.callsOf PP.funV
    rw [if_neg (show ¬ (0 ≤ (o : Int) - c.P.nodesV ∧ (o : Int) - c.P.nodesV < c.P.funs.length) by omega), if_neg (by decide)]
    cases r.fired <;> rfl)
  rw [Hr.out]
  generalize c.P.nodesV = NN at *
  go_enter Tryz.func107, Tryz.ntmps107
  rw [HWe.out] at m0 m1' m2' b6
  go_wp2
  rw [← HWe.out]
  go_end0
  exact ⟨rfl, HSa.out, HX.out.keep _⟩
set_option maxRecDepth 100000 in
set_option maxHeartbeats 3200000 in
theorem shardfire_d (c : SC) (s : SH) (r : RV) (aa : Option Addr) (ca : Nat) (o : Nat) (w : World) (G F : Nat → Prop) (g : Nat) (hS : ShAt w G F g c s) (ho : o < c.P.objectsV) (ha : IntsF w F (.slice aa r.args.length ca) r.args) (hE : r.fired = true → ∀ e ∈ c.P.fires r (o : Int), EdIn c.P e) (hld : s.load ≤ 800000000) (hkc : (r.kind.toList == [99, 97, 108, 108]) = false) (hkl : (r.kind.toList == [108, 111, 97, 100]) = true) (hin : (c.P.nodesV : Int) ≤ (o : Int)) :
    Calls Tryz.prog 107 #[.pointer (some ⟨g, 0, none⟩), r.val (.slice aa r.args.length ca), .int .i64 (o : Int)] w fun x w' => x = .returned (.tuple #[]) ∧ ShAt w' G F g c (s.fire c.P (c.me : Nat) (c.k : Nat) r (o : Int)) ∧ Keep (fun b => ¬ F b) w w' := by
  have hS0 := hS
  obtain ⟨m1, m2, f1, f2, vt, vo, ts, os, h⟩ := hS
  have hw := h.con.well
  obtain ⟨hn1, hn2⟩ := hw.nodes
  obtain ⟨W, hW⟩ : ∃ W, W = w.alloc (.cells #[.string r.kind, .int .i64 r.a, .int .i64 r.b, .int .i64 r.k, .slice aa r.args.length ca] 90) := ⟨_, rfl⟩
  have HX : Hid (Ext w W) := hid (by rw [hW]; exact (Ext.refl _).alloc _)
  have HBx : Hid (Blk W w.heap.size #[.string r.kind, .int .i64 r.a, .int .i64 r.b, .int .i64 r.k, .slice aa r.args.length ca] 90) := hid (by rw [hW]; exact Blk.new _ _ _)
  have HWe : Hid (W = w.alloc (.cells #[.string r.kind, .int .i64 r.a, .int .i64 r.b, .int .i64 r.k, .slice aa r.args.length ca] 90)) := hid hW
  have HSa := hid (hS0.ext HX.out)
  have HS := hid (h.ext HX.out)
  have HA := hid (ha.keep (HX.out.keep fun _ => False) (fun _ _ h => h) fun _ h => h)
  have al := ha.form
  have hal : (r.args.length : Int) ≤ 9223372036854775807 := by obtain ⟨a, cap, h1, h2, h3, _⟩ := al; omega
  have Hw := hid hw
  have HE := hid hE
  have Hld := hid hld
  have hob : o < 126 := by omega
  have Ho := hid ho
  have m0 := HBx.out.av 0 rfl
  have m1' := HBx.out.av 1 rfl
  have m2' := HBx.out.av 2 rfl
  have b6 := HS.out.blk.av 6 rfl
  simp only [shCells, qA0, qA1, qA2] at m0 m1' m2' b6
  unfold RV.val
  clear hS0 h hW ha al hw hE hld ho
  have hks : (r.kind.toList == [115, 116, 111, 114, 101]) = false := by rw [eq_of_beq hkl]; rfl
  have Hr : Hid (s.fire c.P (c.me : Nat) (c.k : Nat) r (o : Int) = s) := hid (by
    unfold SH.fire PP.fires kCall
    rw [hkc, cond_false, if_pos hin]
    cases r.fired <;> rfl)
  rw [Hr.out]
  generalize c.P.nodesV = NN at *
  go_enter Tryz.func107, Tryz.ntmps107
  rw [HWe.out] at m0 m1' m2' b6
  go_wp2
  rw [← HWe.out]
  go_end0
  exact ⟨rfl, HSa.out, HX.out.keep _⟩
set_option maxRecDepth 100000 in
set_option maxHeartbeats 3200000 in
theorem shardfire_f (c : SC) (s : SH) (r : RV) (aa : Option Addr) (ca : Nat) (o : Nat) (w : World) (G F : Nat → Prop) (g : Nat) (hS : ShAt w G F g c s) (ho : o < c.P.objectsV) (ha : IntsF w F (.slice aa r.args.length ca) r.args) (hE : r.fired = true → ∀ e ∈ c.P.fires r (o : Int), EdIn c.P e) (hld : s.load ≤ 800000000) (hkc : (r.kind.toList == [99, 97, 108, 108]) = false) (hkl : (r.kind.toList == [108, 111, 97, 100]) = false) (hks : (r.kind.toList == [115, 116, 111, 114, 101]) = true) (hin : (c.P.nodesV : Int) ≤ (o : Int)) :
    Calls Tryz.prog 107 #[.pointer (some ⟨g, 0, none⟩), r.val (.slice aa r.args.length ca), .int .i64 (o : Int)] w fun x w' => x = .returned (.tuple #[]) ∧ ShAt w' G F g c (s.fire c.P (c.me : Nat) (c.k : Nat) r (o : Int)) ∧ Keep (fun b => ¬ F b) w w' := by
  have hS0 := hS
  obtain ⟨m1, m2, f1, f2, vt, vo, ts, os, h⟩ := hS
  have hw := h.con.well
  obtain ⟨hn1, hn2⟩ := hw.nodes
  obtain ⟨W, hW⟩ : ∃ W, W = w.alloc (.cells #[.string r.kind, .int .i64 r.a, .int .i64 r.b, .int .i64 r.k, .slice aa r.args.length ca] 90) := ⟨_, rfl⟩
  have HX : Hid (Ext w W) := hid (by rw [hW]; exact (Ext.refl _).alloc _)
  have HBx : Hid (Blk W w.heap.size #[.string r.kind, .int .i64 r.a, .int .i64 r.b, .int .i64 r.k, .slice aa r.args.length ca] 90) := hid (by rw [hW]; exact Blk.new _ _ _)
  have HWe : Hid (W = w.alloc (.cells #[.string r.kind, .int .i64 r.a, .int .i64 r.b, .int .i64 r.k, .slice aa r.args.length ca] 90)) := hid hW
  have HSa := hid (hS0.ext HX.out)
  have HS := hid (h.ext HX.out)
  have HA := hid (ha.keep (HX.out.keep fun _ => False) (fun _ _ h => h) fun _ h => h)
  have al := ha.form
  have hal : (r.args.length : Int) ≤ 9223372036854775807 := by obtain ⟨a, cap, h1, h2, h3, _⟩ := al; omega
  have Hw := hid hw
  have HE := hid hE
  have Hld := hid hld
  have hob : o < 126 := by omega
  have Ho := hid ho
  have m0 := HBx.out.av 0 rfl
  have m1' := HBx.out.av 1 rfl
  have m2' := HBx.out.av 2 rfl
  have b6 := HS.out.blk.av 6 rfl
  simp only [shCells, qA0, qA1, qA2] at m0 m1' m2' b6
  unfold RV.val
  clear hS0 h hW ha al hw hE hld ho
  have Hr : Hid (s.fire c.P (c.me : Nat) (c.k : Nat) r (o : Int) = s) := hid (by
    unfold SH.fire PP.fires kCall
    rw [hkc, cond_false, if_pos hin]
    cases r.fired <;> rfl)
  rw [Hr.out]
  generalize c.P.nodesV = NN at *
  go_enter Tryz.func107, Tryz.ntmps107
  rw [HWe.out] at m0 m1' m2' b6
  go_wp2
  rw [← HWe.out]
  go_end0
  exact ⟨rfl, HSa.out, HX.out.keep _⟩
set_option maxRecDepth 100000 in
set_option maxHeartbeats 3200000 in
theorem shardfire_g (c : SC) (s : SH) (r : RV) (aa : Option Addr) (ca : Nat) (o : Nat) (w : World) (G F : Nat → Prop) (g : Nat) (hS : ShAt w G F g c s) (ho : o < c.P.objectsV) (ha : IntsF w F (.slice aa r.args.length ca) r.args) (hE : r.fired = true → ∀ e ∈ c.P.fires r (o : Int), EdIn c.P e) (hld : s.load ≤ 800000000) (hkc : (r.kind.toList == [99, 97, 108, 108]) = false) (hkl : (r.kind.toList == [108, 111, 97, 100]) = false) (hks : (r.kind.toList == [115, 116, 111, 114, 101]) = false) :
    Calls Tryz.prog 107 #[.pointer (some ⟨g, 0, none⟩), r.val (.slice aa r.args.length ca), .int .i64 (o : Int)] w fun x w' => x = .returned (.tuple #[]) ∧ ShAt w' G F g c (s.fire c.P (c.me : Nat) (c.k : Nat) r (o : Int)) ∧ Keep (fun b => ¬ F b) w w' := by
  have hS0 := hS
  obtain ⟨m1, m2, f1, f2, vt, vo, ts, os, h⟩ := hS
  have hw := h.con.well
  obtain ⟨hn1, hn2⟩ := hw.nodes
  obtain ⟨W, hW⟩ : ∃ W, W = w.alloc (.cells #[.string r.kind, .int .i64 r.a, .int .i64 r.b, .int .i64 r.k, .slice aa r.args.length ca] 90) := ⟨_, rfl⟩
  have HX : Hid (Ext w W) := hid (by rw [hW]; exact (Ext.refl _).alloc _)
  have HBx : Hid (Blk W w.heap.size #[.string r.kind, .int .i64 r.a, .int .i64 r.b, .int .i64 r.k, .slice aa r.args.length ca] 90) := hid (by rw [hW]; exact Blk.new _ _ _)
  have HWe : Hid (W = w.alloc (.cells #[.string r.kind, .int .i64 r.a, .int .i64 r.b, .int .i64 r.k, .slice aa r.args.length ca] 90)) := hid hW
  have HSa := hid (hS0.ext HX.out)
  have HS := hid (h.ext HX.out)
  have HA := hid (ha.keep (HX.out.keep fun _ => False) (fun _ _ h => h) fun _ h => h)
  have al := ha.form
  have hal : (r.args.length : Int) ≤ 9223372036854775807 := by obtain ⟨a, cap, h1, h2, h3, _⟩ := al; omega
  have Hw := hid hw
  have HE := hid hE
  have Hld := hid hld
  have hob : o < 126 := by omega
  have Ho := hid ho
  have m0 := HBx.out.av 0 rfl
  have m1' := HBx.out.av 1 rfl
  have m2' := HBx.out.av 2 rfl
  have b6 := HS.out.blk.av 6 rfl
  simp only [shCells, qA0, qA1, qA2] at m0 m1' m2' b6
  unfold RV.val
  clear hS0 h hW ha al hw hE hld ho
  have Hr : Hid (s.fire c.P (c.me : Nat) (c.k : Nat) r (o : Int) = s) := hid (by
    unfold SH.fire RV.fired kLoad kStore kCall
    rw [hkc, hkl, hks]; rfl)
  rw [Hr.out]
  generalize c.P.nodesV = NN at *
  go_enter Tryz.func107, Tryz.ntmps107
  rw [HWe.out] at m0 m1' m2' b6
  go_wp2
  rw [← HWe.out]
  go_end0
  exact ⟨rfl, HSa.out, HX.out.keep _⟩
set_option maxRecDepth 100000 in
set_option maxHeartbeats 3200000 in
theorem shardfire_c (c : SC) (s : SH) (r : RV) (aa : Option Addr) (ca : Nat) (o : Nat) (w : World) (G F : Nat → Prop) (g : Nat) (hS : ShAt w G F g c s) (ho : o < c.P.objectsV) (ha : IntsF w F (.slice aa r.args.length ca) r.args) (hE : r.fired = true → ∀ e ∈ c.P.fires r (o : Int), EdIn c.P e) (hld : s.load ≤ 800000000) (hkc : (r.kind.toList == [99, 97, 108, 108]) = false) (hkl : (r.kind.toList == [108, 111, 97, 100]) = true) (hin : (o : Int) < (c.P.nodesV : Int)) :
    Calls Tryz.prog 107 #[.pointer (some ⟨g, 0, none⟩), r.val (.slice aa r.args.length ca), .int .i64 (o : Int)] w fun x w' => x = .returned (.tuple #[]) ∧ ShAt w' G F g c (s.fire c.P (c.me : Nat) (c.k : Nat) r (o : Int)) ∧ Keep (fun b => ¬ F b) w w' := by
  have hS0 := hS
  obtain ⟨m1, m2, f1, f2, vt, vo, ts, os, h⟩ := hS
  have hw := h.con.well
  obtain ⟨hn1, hn2⟩ := hw.nodes
  obtain ⟨W, hW⟩ : ∃ W, W = w.alloc (.cells #[.string r.kind, .int .i64 r.a, .int .i64 r.b, .int .i64 r.k, .slice aa r.args.length ca] 90) := ⟨_, rfl⟩
  have HX : Hid (Ext w W) := hid (by rw [hW]; exact (Ext.refl _).alloc _)
  have HBx : Hid (Blk W w.heap.size #[.string r.kind, .int .i64 r.a, .int .i64 r.b, .int .i64 r.k, .slice aa r.args.length ca] 90) := hid (by rw [hW]; exact Blk.new _ _ _)
  have HWe : Hid (W = w.alloc (.cells #[.string r.kind, .int .i64 r.a, .int .i64 r.b, .int .i64 r.k, .slice aa r.args.length ca] 90)) := hid hW
  have HSa := hid (hS0.ext HX.out)
  have HS := hid (h.ext HX.out)
  have HA := hid (ha.keep (HX.out.keep fun _ => False) (fun _ _ h => h) fun _ h => h)
  have al := ha.form
  have hal : (r.args.length : Int) ≤ 9223372036854775807 := by obtain ⟨a, cap, h1, h2, h3, _⟩ := al; omega
  have Hw := hid hw
  have HE := hid hE
  have Hld := hid hld
  have hob : o < 126 := by omega
  have Ho := hid ho
  have m0 := HBx.out.av 0 rfl
  have m1' := HBx.out.av 1 rfl
  have m2' := HBx.out.av 2 rfl
  have b6 := HS.out.blk.av 6 rfl
  simp only [shCells, qA0, qA1, qA2] at m0 m1' m2' b6
  unfold RV.val
  clear hS0 h hW ha al hw hE hld ho
  have hfr : c.P.fires r (o : Int) = [((o : Int), r.b)] := by
    unfold PP.fires kCall kLoad
    rw [hkc, cond_false, if_neg (by omega), hkl]; rfl
  have hfd : r.fired = true := by unfold RV.fired kLoad; rw [hkl]; rfl
  have hed := HE.out hfd ((o : Int), r.b) (by rw [hfr]; exact List.mem_singleton.2 rfl)
  obtain ⟨_, hb0, hb1⟩ := hed
  simp only at hb0 hb1
  obtain ⟨j, hj⟩ := Int.eq_ofNat_of_zero_le hb0
  have Hr : Hid (s.fire c.P (c.me : Nat) (c.k : Nat) r (o : Int) = s.edge (c.me : Nat) (c.k : Nat) ((o : Int), (j : Int))) := hid (by
    unfold SH.fire RV.fired kLoad
    rw [hfr, hkl, hj]; rfl)
  rw [hj] at hb1 m2' HBx HWe
  clear hfr hb0 hfd
  generalize r.b = rb at *
  subst hj
  have HT := hid (shardedge_any c s o j W G F g HSa.out (by omega) (by omega) (by have := Hld.out; omega))
  rw [Hr.out]
  rw [HWe.out] at m0 m1' m2' b6
  generalize c.P.nodesV = NN at *
  go_enter Tryz.func107, Tryz.ntmps107
  go_wp2_with fail
  rw [← HWe.out]
  refine HT.out.mono ?_
  intro x w1 hx
  obtain ⟨rfl, hS1, hK1⟩ := hx
  have HS1 := hid hS1
  have HK1 := hid hK1
  clear hS1 hK1 HT m0 m1' m2' b6
  go_wp2
  go_end0
  exact ⟨rfl, HS1.out, (HX.out.keep _).trans HK1.out⟩
set_option maxRecDepth 100000 in
set_option maxHeartbeats 3200000 in
theorem shardfire_e (c : SC) (s : SH) (r : RV) (aa : Option Addr) (ca : Nat) (o : Nat) (w : World) (G F : Nat → Prop) (g : Nat) (hS : ShAt w G F g c s) (ho : o < c.P.objectsV) (ha : IntsF w F (.slice aa r.args.length ca) r.args) (hE : r.fired = true → ∀ e ∈ c.P.fires r (o : Int), EdIn c.P e) (hld : s.load ≤ 800000000) (hkc : (r.kind.toList == [99, 97, 108, 108]) = false) (hkl : (r.kind.toList == [108, 111, 97, 100]) = false) (hks : (r.kind.toList == [115, 116, 111, 114, 101]) = true) (hin : (o : Int) < (c.P.nodesV : Int)) :
    Calls Tryz.prog 107 #[.pointer (some ⟨g, 0, none⟩), r.val (.slice aa r.args.length ca), .int .i64 (o : Int)] w fun x w' => x = .returned (.tuple #[]) ∧ ShAt w' G F g c (s.fire c.P (c.me : Nat) (c.k : Nat) r (o : Int)) ∧ Keep (fun b => ¬ F b) w w' := by
  have hS0 := hS
  obtain ⟨m1, m2, f1, f2, vt, vo, ts, os, h⟩ := hS
  have hw := h.con.well
  obtain ⟨hn1, hn2⟩ := hw.nodes
  obtain ⟨W, hW⟩ : ∃ W, W = w.alloc (.cells #[.string r.kind, .int .i64 r.a, .int .i64 r.b, .int .i64 r.k, .slice aa r.args.length ca] 90) := ⟨_, rfl⟩
  have HX : Hid (Ext w W) := hid (by rw [hW]; exact (Ext.refl _).alloc _)
  have HBx : Hid (Blk W w.heap.size #[.string r.kind, .int .i64 r.a, .int .i64 r.b, .int .i64 r.k, .slice aa r.args.length ca] 90) := hid (by rw [hW]; exact Blk.new _ _ _)
  have HWe : Hid (W = w.alloc (.cells #[.string r.kind, .int .i64 r.a, .int .i64 r.b, .int .i64 r.k, .slice aa r.args.length ca] 90)) := hid hW
  have HSa := hid (hS0.ext HX.out)
  have HS := hid (h.ext HX.out)
  have HA := hid (ha.keep (HX.out.keep fun _ => False) (fun _ _ h => h) fun _ h => h)
  have al := ha.form
  have hal : (r.args.length : Int) ≤ 9223372036854775807 := by obtain ⟨a, cap, h1, h2, h3, _⟩ := al; omega
  have Hw := hid hw
  have HE := hid hE
  have Hld := hid hld
  have hob : o < 126 := by omega
  have Ho := hid ho
  have m0 := HBx.out.av 0 rfl
  have m1' := HBx.out.av 1 rfl
  have m2' := HBx.out.av 2 rfl
  have b6 := HS.out.blk.av 6 rfl
  simp only [shCells, qA0, qA1, qA2] at m0 m1' m2' b6
  unfold RV.val
  clear hS0 h hW ha al hw hE hld ho
  have hfr : c.P.fires r (o : Int) = [(r.a, (o : Int))] := by
    unfold PP.fires kCall kLoad
    rw [hkc, cond_false, if_neg (by omega), hkl]; rfl
  have hfd : r.fired = true := by unfold RV.fired kStore; rw [hks, Bool.or_true]; rfl
  have hed := HE.out hfd (r.a, (o : Int)) (by rw [hfr]; exact List.mem_singleton.2 rfl)
  obtain ⟨⟨hb0, hb1⟩, _⟩ := hed
  simp only at hb0 hb1
  obtain ⟨j, hj⟩ := Int.eq_ofNat_of_zero_le hb0
  have Hr : Hid (s.fire c.P (c.me : Nat) (c.k : Nat) r (o : Int) = s.edge (c.me : Nat) (c.k : Nat) ((j : Int), (o : Int))) := hid (by
    unfold SH.fire RV.fired kStore
    rw [hfr, hks, Bool.or_true, hj]; rfl)
  rw [hj] at hb1 m1' HBx HWe
  clear hfr hb0 hfd
  generalize r.a = ra at *
  subst hj
  have HT := hid (shardedge_any c s j o W G F g HSa.out (by omega) (by omega) (by have := Hld.out; omega))
  rw [Hr.out]
  rw [HWe.out] at m0 m1' m2' b6
  generalize c.P.nodesV = NN at *
  go_enter Tryz.func107, Tryz.ntmps107
  go_wp2_with fail
  rw [← HWe.out]
  refine HT.out.mono ?_
  intro x w1 hx
  obtain ⟨rfl, hS1, hK1⟩ := hx
  have HS1 := hid hS1
  have HK1 := hid hK1
  clear hS1 hK1 HT m0 m1' m2' b6
  go_wp2
  go_end0
  exact ⟨rfl, HS1.out, (HX.out.keep _).trans HK1.out⟩
set_option maxRecDepth 100000 in
set_option maxHeartbeats 3200000 in
theorem risedge_copy (a1 a2 a3 : Option Addr) (c1 c2 c3 : Nat) (P : PP) (r : RV) (av hv : Value) (has : List (List Int)) (p q : Int) (w : World) (n0 : Nat) (h : ProgR w n0 (.slice a1 P.vars.length c1) (.slice a2 P.funs.length c2) (.slice a3 P.stmts.length c3) P) (hf1 : P.vars.length ≤ 1000) (hf3 : P.stmts.length ≤ 1000) (ha : IntsR w n0 av r.args) (hh : SetsR w n0 hv has) (hkd : (r.kind.toList == [99, 111, 112, 121]) = true) :
    Calls Tryz.prog 74 #[pval a1 a2 a3 c1 c2 c3 P, r.val av, hv, .int .i64 p, .int .i64 q] w fun e w' => e = .returned (.bool (P.isE r has p q)) ∧ Ext w w' := by
  obtain ⟨aa, ca, rfl, _⟩ := id ha
  obtain ⟨ah, ch, rfl⟩ := hh.form
  have hhl := hh.len
  have hal := ha.len
  obtain ⟨W1, hW1⟩ : ∃ W1, W1 = w.alloc (.cells (pcells a1 a2 a3 c1 c2 c3 P) 26) := ⟨_, rfl⟩
  have hx1 : Ext w W1 := by rw [hW1]; exact (Ext.refl _).alloc _
  obtain ⟨W, hW⟩ : ∃ W, W = W1.alloc (.cells #[.string r.kind, .int .i64 r.a, .int .i64 r.b, .int .i64 r.k, .slice aa r.args.length ca] 126) := ⟨_, rfl⟩
  have hx2 : Ext W1 W := by rw [hW]; exact (Ext.refl _).alloc _
  have s1 : W1.heap.size = w.heap.size + 1 := by rw [hW1, heap_size_alloc]
  have HX := hid (hx1.trans hx2)
  have HB0 : Hid (Blk W w.heap.size (pcells a1 a2 a3 c1 c2 c3 P) 26) := hid (by
    have : Blk W1 w.heap.size (pcells a1 a2 a3 c1 c2 c3 P) 26 := by rw [hW1]; exact Blk.new _ _ _
    exact this.ext hx2)
  have HB1 : Hid (Blk W (w.heap.size + 1) #[.string r.kind, .int .i64 r.a, .int .i64 r.b, .int .i64 r.k, .slice aa r.args.length ca] 126) := hid (by rw [← s1, hW]; exact Blk.new _ _ _)
  have HWe : Hid (W = (w.alloc (.cells #[.slice a1 P.vars.length c1, .slice a2 P.funs.length c2, .slice a3 P.stmts.length c3] 26)).alloc (.cells #[.string r.kind, .int .i64 r.a, .int .i64 r.b, .int .i64 r.k, .slice aa r.args.length ca] 126)) := hid (by rw [hW, hW1]; rfl)
  have HP := hid (h.ext HX.out)
  have HH := hid (hh.ext HX.out)
  have HA := hid (ha.old (HX.out.old n0))
  have hnl := P.nodesV_le2
  have HNo := hid (rnodesof_any a1 a2 a3 c1 c2 c3 P W n0 (h.ext HX.out) hf1 hf3)
  obtain ⟨N, hN⟩ : ∃ N, N = P.nodesV := ⟨_, rfl⟩
  rw [← hN] at HNo hnl
  have HN := hid hN
  have d0 := HB0.out.av 0 rfl
  have d1 := HB0.out.av 1 rfl
  have d2 := HB0.out.av 2 rfl
  simp only [pcells, qA0, qA1, qA2] at d0 d1 d2
  rw [HWe.out] at d0 d1 d2
  unfold RV.val
  unfold pval at HNo ⊢
  clear h ha hh hW1 hW hx1 hx2 s1 hN
  have Hr : Hid (P.isE r has p q = (decide (p = r.a) && decide (q = r.b))) := hid (by unfold PP.isE kCopy; rw [hkd]; rfl)
  obtain ⟨ra, hra⟩ : ∃ x, x = r.a := ⟨_, rfl⟩
  obtain ⟨rb, hrb⟩ : ∃ x, x = r.b := ⟨_, rfl⟩
  go_enter Tryz.func74, Tryz.ntmps74
  go_wp2_with fail
  rw [← HWe.out]
  refine HNo.out.mono ?_
  intro e w1 hx
  obtain ⟨rfl, hx1⟩ := hx
  have Hx1 := hid hx1
  have m0 := (HB1.out.ext hx1).av 0 rfl
  have m1 := (HB1.out.ext hx1).av 1 rfl
  have m2 := (HB1.out.ext hx1).av 2 rfl
  have m3 := (HB1.out.ext hx1).av 3 rfl
  have m4 := (HB1.out.ext hx1).av 4 rfl
  simp only [qA0, qA1, qA2] at m0 m1 m2 m3 m4
  clear HNo hx1 d0 d1 d2
  rw [← hra] at m1 Hr
  rw [← hrb] at m2 Hr
  clear hra hrb
  by_cases h1 : p = ra
  · subst h1
    by_cases h2 : q = rb
    · subst h2
      go_wp2
      go_ret
      exact ⟨by rw [Hr.out]; simp, HX.out.trans Hx1.out⟩
    · have h2' : (q == rb) = false := beq_eq_false_iff_ne.2 h2
      have Hr2 : Hid (P.isE r has p q = false) := hid (by rw [Hr.out, decide_eq_false h2, Bool.and_false])
      go_wp2
      go_ret
      exact ⟨by rw [Hr2.out]; rfl, HX.out.trans Hx1.out⟩
  · have h1' : (p == ra) = false := beq_eq_false_iff_ne.2 h1
    have Hr2 : Hid (P.isE r has p q = false) := hid (by rw [Hr.out, decide_eq_false h1, Bool.false_and])
    go_wp2
    go_ret
    exact ⟨by rw [Hr2.out]; rfl, HX.out.trans Hx1.out⟩
set_option maxRecDepth 100000 in
set_option maxHeartbeats 3200000 in
theorem risedge_load (a1 a2 a3 : Option Addr) (c1 c2 c3 : Nat) (P : PP) (r : RV) (av hv : Value) (has : List (List Int)) (p q : Int) (w : World) (n0 : Nat) (h : ProgR w n0 (.slice a1 P.vars.length c1) (.slice a2 P.funs.length c2) (.slice a3 P.stmts.length c3) P) (hf1 : P.vars.length ≤ 1000) (hf3 : P.stmts.length ≤ 1000) (ha : IntsR w n0 av r.args) (hh : SetsR w n0 hv has) (hkd : (r.kind.toList == [108, 111, 97, 100]) = true) (hidx : 0 ≤ r.a ∧ r.a < has.length) :
    Calls Tryz.prog 74 #[pval a1 a2 a3 c1 c2 c3 P, r.val av, hv, .int .i64 p, .int .i64 q] w fun e w' => e = .returned (.bool (P.isE r has p q)) ∧ Ext w w' := by
  obtain ⟨aa, ca, rfl, _⟩ := id ha
  obtain ⟨ah, ch, rfl⟩ := hh.form
  have hhl := hh.len
  have hal := ha.len
  obtain ⟨W1, hW1⟩ : ∃ W1, W1 = w.alloc (.cells (pcells a1 a2 a3 c1 c2 c3 P) 26) := ⟨_, rfl⟩
  have hx1 : Ext w W1 := by rw [hW1]; exact (Ext.refl _).alloc _
  obtain ⟨W, hW⟩ : ∃ W, W = W1.alloc (.cells #[.string r.kind, .int .i64 r.a, .int .i64 r.b, .int .i64 r.k, .slice aa r.args.length ca] 126) := ⟨_, rfl⟩
  have hx2 : Ext W1 W := by rw [hW]; exact (Ext.refl _).alloc _
  have s1 : W1.heap.size = w.heap.size + 1 := by rw [hW1, heap_size_alloc]
  have HX := hid (hx1.trans hx2)
  have HB0 : Hid (Blk W w.heap.size (pcells a1 a2 a3 c1 c2 c3 P) 26) := hid (by
    have : Blk W1 w.heap.size (pcells a1 a2 a3 c1 c2 c3 P) 26 := by rw [hW1]; exact Blk.new _ _ _
    exact this.ext hx2)
  have HB1 : Hid (Blk W (w.heap.size + 1) #[.string r.kind, .int .i64 r.a, .int .i64 r.b, .int .i64 r.k, .slice aa r.args.length ca] 126) := hid (by rw [← s1, hW]; exact Blk.new _ _ _)
  have HWe : Hid (W = (w.alloc (.cells #[.slice a1 P.vars.length c1, .slice a2 P.funs.length c2, .slice a3 P.stmts.length c3] 26)).alloc (.cells #[.string r.kind, .int .i64 r.a, .int .i64 r.b, .int .i64 r.k, .slice aa r.args.length ca] 126)) := hid (by rw [hW, hW1]; rfl)
  have HP := hid (h.ext HX.out)
  have HH := hid (hh.ext HX.out)
  have HA := hid (ha.old (HX.out.old n0))
  have hnl := P.nodesV_le2
  have HNo := hid (rnodesof_any a1 a2 a3 c1 c2 c3 P W n0 (h.ext HX.out) hf1 hf3)
  obtain ⟨N, hN⟩ : ∃ N, N = P.nodesV := ⟨_, rfl⟩
  rw [← hN] at HNo hnl
  have HN := hid hN
  have d0 := HB0.out.av 0 rfl
  have d1 := HB0.out.av 1 rfl
  have d2 := HB0.out.av 2 rfl
  simp only [pcells, qA0, qA1, qA2] at d0 d1 d2
  rw [HWe.out] at d0 d1 d2
  unfold RV.val
  unfold pval at HNo ⊢
  clear h ha hh hW1 hW hx1 hx2 s1 hN
  have hk0 : (r.kind.toList == [99, 111, 112, 121]) = false := by rw [eq_of_beq hkd]; rfl
  have Hr : Hid (P.isE r has p q = (decide (q = r.b) && (decide (p < (P.nodesV : Int)) && decide (p ∈ has.getD r.a.toNat [])))) := hid (by unfold PP.isE kCopy kLoad; rw [hk0, hkd]; rfl)
  obtain ⟨K, hK⟩ := Int.eq_ofNat_of_zero_le hidx.1
  have hKl : K < has.length := by omega
  obtain ⟨y, l, bl, cl, hya, hl, hc, hI⟩ := HH.out.at hKl
  subst hya
  have Hl : Hid (has.getD (r.a).toNat [] = l) := hid (by rw [hK, List.getD_eq_getElem?_getD]; show (has[K]?).getD [] = l; rw [hl]; rfl)
  have HC := fun w1 (x : Ext W w1) => hid (rhas_any (.slice bl l.length cl) l p w1 n0 (hI.old (x.old n0)))
  have Hc := hid hc
  have HK := hid hK
  clear hl hI hidx hc hK
  go_enter Tryz.func74, Tryz.ntmps74
  go_wp2_with fail
  rw [← HWe.out]
  refine HNo.out.mono ?_
  intro e w1 hx
  obtain ⟨rfl, hx1⟩ := hx
  have Hx1 := hid hx1
  have m0 := (HB1.out.ext hx1).av 0 rfl
  have m1 := (HB1.out.ext hx1).av 1 rfl
  have m2 := (HB1.out.ext hx1).av 2 rfl
  have m3 := (HB1.out.ext hx1).av 3 rfl
  have m4 := (HB1.out.ext hx1).av 4 rfl
  simp only [qA0, qA1, qA2] at m0 m1 m2 m3 m4
  clear HNo hx1 d0 d1 d2
  have c0 := Hx1.out.cellx Hc.out
  have HC1 := HC w1 Hx1.out
  rw [Hl.out, ← HN.out] at Hr
  obtain ⟨rb, hrb⟩ : ∃ x, x = r.b := ⟨_, rfl⟩
  rw [← hrb] at m2 Hr
  rw [HK.out] at m1
  clear hrb HC
  by_cases h1 : q = rb
  · subst h1
    by_cases h2 : p < (N : Int)
    · obtain ⟨d, hd⟩ : ∃ d, d = decide (p ∈ l) := ⟨_, rfl⟩
      rw [← hd] at HC1
      have Hr2 : Hid (P.isE r has p q = d) := hid (by rw [Hr.out, decide_eq_true rfl, decide_eq_true h2, ← hd]; rfl)
      clear hd
      go_wp2_with fail
      refine HC1.out.mono ?_
      intro e w2 hx
      obtain ⟨rfl, rfl⟩ := hx
      clear HC1
      go_wp2
      go_ret
      exact ⟨by rw [Hr2.out]; rfl, HX.out.trans Hx1.out⟩
    · have Hr2 : Hid (P.isE r has p q = false) := hid (by rw [Hr.out, decide_eq_false h2, Bool.false_and, Bool.and_false])
      go_wp2
      go_ret
      exact ⟨by rw [Hr2.out]; rfl, HX.out.trans Hx1.out⟩
  · have h1' : (q == rb) = false := beq_eq_false_iff_ne.2 h1
    have Hr2 : Hid (P.isE r has p q = false) := hid (by rw [Hr.out, decide_eq_false h1, Bool.false_and])
    go_wp2
    go_ret
    exact ⟨by rw [Hr2.out]; rfl, HX.out.trans Hx1.out⟩
set_option maxRecDepth 100000 in
set_option maxHeartbeats 3200000 in
theorem risedge_store (a1 a2 a3 : Option Addr) (c1 c2 c3 : Nat) (P : PP) (r : RV) (av hv : Value) (has : List (List Int)) (p q : Int) (w : World) (n0 : Nat) (h : ProgR w n0 (.slice a1 P.vars.length c1) (.slice a2 P.funs.length c2) (.slice a3 P.stmts.length c3) P) (hf1 : P.vars.length ≤ 1000) (hf3 : P.stmts.length ≤ 1000) (ha : IntsR w n0 av r.args) (hh : SetsR w n0 hv has) (hkd : (r.kind.toList == [115, 116, 111, 114, 101]) = true) (hidx : 0 ≤ r.b ∧ r.b < has.length) :
    Calls Tryz.prog 74 #[pval a1 a2 a3 c1 c2 c3 P, r.val av, hv, .int .i64 p, .int .i64 q] w fun e w' => e = .returned (.bool (P.isE r has p q)) ∧ Ext w w' := by
  obtain ⟨aa, ca, rfl, _⟩ := id ha
  obtain ⟨ah, ch, rfl⟩ := hh.form
  have hhl := hh.len
  have hal := ha.len
  obtain ⟨W1, hW1⟩ : ∃ W1, W1 = w.alloc (.cells (pcells a1 a2 a3 c1 c2 c3 P) 26) := ⟨_, rfl⟩
  have hx1 : Ext w W1 := by rw [hW1]; exact (Ext.refl _).alloc _
  obtain ⟨W, hW⟩ : ∃ W, W = W1.alloc (.cells #[.string r.kind, .int .i64 r.a, .int .i64 r.b, .int .i64 r.k, .slice aa r.args.length ca] 126) := ⟨_, rfl⟩
  have hx2 : Ext W1 W := by rw [hW]; exact (Ext.refl _).alloc _
  have s1 : W1.heap.size = w.heap.size + 1 := by rw [hW1, heap_size_alloc]
  have HX := hid (hx1.trans hx2)
  have HB0 : Hid (Blk W w.heap.size (pcells a1 a2 a3 c1 c2 c3 P) 26) := hid (by
    have : Blk W1 w.heap.size (pcells a1 a2 a3 c1 c2 c3 P) 26 := by rw [hW1]; exact Blk.new _ _ _
    exact this.ext hx2)
  have HB1 : Hid (Blk W (w.heap.size + 1) #[.string r.kind, .int .i64 r.a, .int .i64 r.b, .int .i64 r.k, .slice aa r.args.length ca] 126) := hid (by rw [← s1, hW]; exact Blk.new _ _ _)
  have HWe : Hid (W = (w.alloc (.cells #[.slice a1 P.vars.length c1, .slice a2 P.funs.length c2, .slice a3 P.stmts.length c3] 26)).alloc (.cells #[.string r.kind, .int .i64 r.a, .int .i64 r.b, .int .i64 r.k, .slice aa r.args.length ca] 126)) := hid (by rw [hW, hW1]; rfl)
  have HP := hid (h.ext HX.out)
  have HH := hid (hh.ext HX.out)
  have HA := hid (ha.old (HX.out.old n0))
  have hnl := P.nodesV_le2
  have HNo := hid (rnodesof_any a1 a2 a3 c1 c2 c3 P W n0 (h.ext HX.out) hf1 hf3)
  obtain ⟨N, hN⟩ : ∃ N, N = P.nodesV := ⟨_, rfl⟩
  rw [← hN] at HNo hnl
  have HN := hid hN
  have d0 := HB0.out.av 0 rfl
  have d1 := HB0.out.av 1 rfl
  have d2 := HB0.out.av 2 rfl
  simp only [pcells, qA0, qA1, qA2] at d0 d1 d2
  rw [HWe.out] at d0 d1 d2
  unfold RV.val
  unfold pval at HNo ⊢
  clear h ha hh hW1 hW hx1 hx2 s1 hN
  have hk0 : (r.kind.toList == [99, 111, 112, 121]) = false := by rw [eq_of_beq hkd]; rfl
  have hk1 : (r.kind.toList == [108, 111, 97, 100]) = false := by rw [eq_of_beq hkd]; rfl
  have Hr : Hid (P.isE r has p q = (decide (p = r.a) && (decide (q < (P.nodesV : Int)) && decide (q ∈ has.getD r.b.toNat [])))) := hid (by unfold PP.isE kCopy kLoad kStore; rw [hk0, hk1, hkd]; rfl)
  obtain ⟨K, hK⟩ := Int.eq_ofNat_of_zero_le hidx.1
  have hKl : K < has.length := by omega
  obtain ⟨y, l, bl, cl, hya, hl, hc, hI⟩ := HH.out.at hKl
  subst hya
  have Hl : Hid (has.getD (r.b).toNat [] = l) := hid (by rw [hK, List.getD_eq_getElem?_getD]; show (has[K]?).getD [] = l; rw [hl]; rfl)
  have HC := fun w1 (x : Ext W w1) => hid (rhas_any (.slice bl l.length cl) l q w1 n0 (hI.old (x.old n0)))
  have Hc := hid hc
  have HK := hid hK
  clear hl hI hidx hc hK
  go_enter Tryz.func74, Tryz.ntmps74
  go_wp2_with fail
  rw [← HWe.out]
  refine HNo.out.mono ?_
  intro e w1 hx
  obtain ⟨rfl, hx1⟩ := hx
  have Hx1 := hid hx1
  have m0 := (HB1.out.ext hx1).av 0 rfl
  have m1 := (HB1.out.ext hx1).av 1 rfl
  have m2 := (HB1.out.ext hx1).av 2 rfl
  have m3 := (HB1.out.ext hx1).av 3 rfl
  have m4 := (HB1.out.ext hx1).av 4 rfl
  simp only [qA0, qA1, qA2] at m0 m1 m2 m3 m4
  clear HNo hx1 d0 d1 d2
  have c0 := Hx1.out.cellx Hc.out
  have HC1 := HC w1 Hx1.out
  rw [Hl.out, ← HN.out] at Hr
  obtain ⟨rb, hrb⟩ : ∃ x, x = r.a := ⟨_, rfl⟩
  rw [← hrb] at m1 Hr
  rw [HK.out] at m2
  clear hrb HC
  by_cases h1 : p = rb
  · subst h1
    by_cases h2 : q < (N : Int)
    · obtain ⟨d, hd⟩ : ∃ d, d = decide (q ∈ l) := ⟨_, rfl⟩
      rw [← hd] at HC1
      have Hr2 : Hid (P.isE r has p q = d) := hid (by rw [Hr.out, decide_eq_true rfl, decide_eq_true h2, ← hd]; rfl)
      clear hd
      go_wp2_with fail
      refine HC1.out.mono ?_
      intro e w2 hx
      obtain ⟨rfl, rfl⟩ := hx
      clear HC1
      go_wp2
      go_ret
      exact ⟨by rw [Hr2.out]; rfl, HX.out.trans Hx1.out⟩
    · have Hr2 : Hid (P.isE r has p q = false) := hid (by rw [Hr.out, decide_eq_false h2, Bool.false_and, Bool.and_false])
      go_wp2
      go_ret
      exact ⟨by rw [Hr2.out]; rfl, HX.out.trans Hx1.out⟩
  · have h1' : (p == rb) = false := beq_eq_false_iff_ne.2 h1
    have Hr2 : Hid (P.isE r has p q = false) := hid (by rw [Hr.out, decide_eq_false h1, Bool.false_and])
    go_wp2
    go_ret
    exact ⟨by rw [Hr2.out]; rfl, HX.out.trans Hx1.out⟩
theorem any_range_true {n : Nat} {g : Nat → Bool} {k : Nat} (hk : k < n) (h : g k = true) : (List.range n).any g = true := List.any_eq_true.2 ⟨k, List.mem_range.2 hk, h⟩
theorem any_range_false {n : Nat} {g : Nat → Bool} (h : ∀ j, j < n → g j = false) : (List.range n).any g = false := List.any_eq_false.2 fun x hx => by rw [h x (List.mem_range.1 hx)]; simp
theorem fEdge_len {f : PF} {r : RV} {p q : Int} (h : f.params.length ≠ r.args.length) : fEdge f r p q = false := by
  unfold fEdge
  rw [decide_eq_false h, Bool.false_and]
theorem fEdge_ret {f : PF} {r : RV} {p q : Int} (h : f.params.length = r.args.length) (h1 : p = f.ret) (h2 : q = r.b) : fEdge f r p q = true := by
  unfold fEdge
  rw [decide_eq_true h, decide_eq_true h1, decide_eq_true h2]
  rfl
theorem fEdge_arg {f : PF} {r : RV} {p q : Int} (h : f.params.length = r.args.length) {i : Nat} (hi : i < f.params.length) (h1 : r.args[i]? = some p) (h2 : f.params[i]? = some q) : fEdge f r p q = true := by
  unfold fEdge
  rw [decide_eq_true h, any_range_true hi, Bool.or_true]
  · rfl
  · rw [List.getD_eq_getElem?_getD, List.getD_eq_getElem?_getD, h1, h2]; simp
theorem fEdge_no {f : PF} {r : RV} {p q : Int} (h1 : ¬ (p = f.ret ∧ q = r.b)) (h2 : ∀ i, i < f.params.length → ¬ (p = r.args.getD i 0 ∧ q = f.params.getD i 0)) : fEdge f r p q = false := by
  unfold fEdge
  rw [any_range_false fun j hj => by
    rw [← Bool.decide_and]
    exact decide_eq_false (h2 j hj), ← Bool.decide_and, decide_eq_false h1]
  simp
set_option maxRecDepth 100000 in
set_option maxHeartbeats 3200000 in
theorem risedge_call (a1 a2 a3 : Option Addr) (c1 c2 c3 : Nat) (P : PP) (r : RV) (av hv : Value) (has : List (List Int)) (p q : Int) (w : World) (n0 : Nat) (h : ProgR w n0 (.slice a1 P.vars.length c1) (.slice a2 P.funs.length c2) (.slice a3 P.stmts.length c3) P) (hf1 : P.vars.length ≤ 1000) (hf3 : P.stmts.length ≤ 1000) (ha : IntsR w n0 av r.args) (hh : SetsR w n0 hv has) (hkd : (r.kind.toList == [99, 97, 108, 108]) = true) (hidx : 0 ≤ r.a ∧ r.a < has.length) (hfl : P.funs.length ≤ 1000) :
    Calls Tryz.prog 74 #[pval a1 a2 a3 c1 c2 c3 P, r.val av, hv, .int .i64 p, .int .i64 q] w fun e w' => e = .returned (.bool (P.isE r has p q)) ∧ Ext w w' := by
  obtain ⟨aa, ca, rfl, _⟩ := id ha
  obtain ⟨ah, ch, rfl⟩ := hh.form
  have hhl := hh.len
  have hal := ha.len
  obtain ⟨W1, hW1⟩ : ∃ W1, W1 = w.alloc (.cells (pcells a1 a2 a3 c1 c2 c3 P) 26) := ⟨_, rfl⟩
  have hx1 : Ext w W1 := by rw [hW1]; exact (Ext.refl _).alloc _
  obtain ⟨W, hW⟩ : ∃ W, W = W1.alloc (.cells #[.string r.kind, .int .i64 r.a, .int .i64 r.b, .int .i64 r.k, .slice aa r.args.length ca] 126) := ⟨_, rfl⟩
  have hx2 : Ext W1 W := by rw [hW]; exact (Ext.refl _).alloc _
  have s1 : W1.heap.size = w.heap.size + 1 := by rw [hW1, heap_size_alloc]
  have HX := hid (hx1.trans hx2)
  have HB0 : Hid (Blk W w.heap.size (pcells a1 a2 a3 c1 c2 c3 P) 26) := hid (by
    have : Blk W1 w.heap.size (pcells a1 a2 a3 c1 c2 c3 P) 26 := by rw [hW1]; exact Blk.new _ _ _
    exact this.ext hx2)
  have HB1 : Hid (Blk W (w.heap.size + 1) #[.string r.kind, .int .i64 r.a, .int .i64 r.b, .int .i64 r.k, .slice aa r.args.length ca] 126) := hid (by rw [← s1, hW]; exact Blk.new _ _ _)
  have HWe : Hid (W = (w.alloc (.cells #[.slice a1 P.vars.length c1, .slice a2 P.funs.length c2, .slice a3 P.stmts.length c3] 26)).alloc (.cells #[.string r.kind, .int .i64 r.a, .int .i64 r.b, .int .i64 r.k, .slice aa r.args.length ca] 126)) := hid (by rw [hW, hW1]; rfl)
  have HP := hid (h.ext HX.out)
  have HH := hid (hh.ext HX.out)
  have HA := hid (ha.old (HX.out.old n0))
  have hnl := P.nodesV_le2
  have HNo := hid (rnodesof_any a1 a2 a3 c1 c2 c3 P W n0 (h.ext HX.out) hf1 hf3)
  obtain ⟨N, hN⟩ : ∃ N, N = P.nodesV := ⟨_, rfl⟩
  rw [← hN] at HNo hnl
  have HN := hid hN
  have d0 := HB0.out.av 0 rfl
  have d1 := HB0.out.av 1 rfl
  have d2 := HB0.out.av 2 rfl
  simp only [pcells, qA0, qA1, qA2] at d0 d1 d2
  rw [HWe.out] at d0 d1 d2
  unfold RV.val
  unfold pval at HNo ⊢
  clear h ha hh hW1 hW hx1 hx2 s1 hN
  have hk0 : (r.kind.toList == [99, 111, 112, 121]) = false := by rw [eq_of_beq hkd]; rfl
  have hk1 : (r.kind.toList == [108, 111, 97, 100]) = false := by rw [eq_of_beq hkd]; rfl
  have hk2 : (r.kind.toList == [115, 116, 111, 114, 101]) = false := by rw [eq_of_beq hkd]; rfl
  obtain ⟨G, hG⟩ : ∃ G : Nat → Bool, G = fun f : Nat => decide ((P.nodesV : Int) + (f : Int) ∈ has.getD r.a.toNat []) && fEdge (P.funs.getD f ⟨⟨#[]⟩, [], 0⟩) r p q := ⟨_, rfl⟩
  have Hr : Hid (P.isE r has p q = (List.range P.funs.length).any G) := hid (by unfold PP.isE kCopy kLoad kStore kCall; rw [hk0, hk1, hk2, hkd, hG]; rfl)
  obtain ⟨K, hK⟩ := Int.eq_ofNat_of_zero_le hidx.1
  have hKl : K < has.length := by omega
  obtain ⟨y, l, bl, cl, hya, hl, hc, hI⟩ := HH.out.at hKl
  subst hya
  have HG : Hid (∀ k f, P.funs[k]? = some f → G k = (decide ((N : Int) + (k : Int) ∈ l) && fEdge f r p q)) := hid (fun k f hf => by
    rw [hG, HN.out]
    simp only
    rw [hK, Int.toNat_natCast, List.getD_eq_getElem?_getD, hl, List.getD_eq_getElem?_getD, hf]
    rfl)
  have HC := fun x w1 (e : Ext W w1) => hid (rhas_any (.slice bl l.length cl) l x w1 n0 (hI.old (e.old n0)))
  have Hc := hid hc
  have HK := hid hK
  clear hl hI hidx hc hG hK
  go_enter Tryz.func74, Tryz.ntmps74
  go_wp2_with fail
  rw [← HWe.out]
  refine HNo.out.mono ?_
  intro e w1 hx
  obtain ⟨rfl, hx1⟩ := hx
  have Hx1 := hid hx1
  have m0 := (HB1.out.ext hx1).av 0 rfl
  have m1 := (HB1.out.ext hx1).av 1 rfl
  have m2 := (HB1.out.ext hx1).av 2 rfl
  have m3 := (HB1.out.ext hx1).av 3 rfl
  have m4 := (HB1.out.ext hx1).av 4 rfl
  simp only [qA0, qA1, qA2] at m0 m1 m2 m3 m4
  clear HNo hx1 d0 d1 d2
  have c0 := Hx1.out.cellx Hc.out
  have d0 := (HB0.out.ext Hx1.out).av 0 rfl
  have d1 := (HB0.out.ext Hx1.out).av 1 rfl
  have d2 := (HB0.out.ext Hx1.out).av 2 rfl
  simp only [pcells, qA0, qA1, qA2] at d0 d1 d2
  rw [HK.out] at m1
  go_wp2
  go_loop [12] (fun t12 => ∃ k : Nat, t12 = .int .i64 (k : Int) ∧ k ≤ P.funs.length ∧ ∀ j, j < k → G j = false) (fun t12 => P.funs.length - (intOf t12).toNat)
  case atStart => exact ⟨0, rfl, Nat.zero_le _, fun j h => by omega⟩
  case round =>
    obtain ⟨k, rfl, hk, hp⟩ := hrel
    have Hp := hid hp
    clear hp
    by_cases hlt : k < P.funs.length
    · obtain ⟨yf, f, afp, cfp, hyf, hfk, e0, e1, e2, hIp⟩ := HP.out.funs.at hlt
      subst hyf
      have e1 := Hx1.out.cellx e1
      have e2 := Hx1.out.cellx e2
      have HIp := hid hIp
      have hpl := hIp.len
      have HGk0 := hid (HG.out k f hfk)
      have HC1 := HC ((N : Int) + (k : Int)) w1 Hx1.out
      obtain ⟨d, hd⟩ : ∃ d, d = decide ((N : Int) + (k : Int) ∈ l) := ⟨_, rfl⟩
      rw [← hd] at HC1 HGk0
      clear e0 hfk hIp hd
      go_wp2_with fail
      refine HC1.out.mono ?_
      intro e w2 hx
      obtain ⟨rfl, rfl⟩ := hx
      clear HC1 HC
      cases d with
      | false =>
        have Hgk : Hid (G k = false) := hid (by rw [HGk0.out]; rfl)
        go_wp2
        refine ⟨⟨k + 1, by go_num, by omega, fun j hj => ?_⟩, by simp [intOf]; omega⟩
        by_cases hjk : j = k
        · subst hjk; exact Hgk.out
        · exact Hp.out j (by omega)
      | true =>
        have HGk : Hid (G k = (true && fEdge f r p q)) := HGk0
        by_cases hlen : f.params.length = r.args.length
        · have Hlen := hid hlen
          have hl1 : ((f.params.length : Int) != (r.args.length : Int)) = false := by rw [hlen]; simp
          obtain ⟨fr, hfr⟩ : ∃ x, x = f.ret := ⟨_, rfl⟩
          obtain ⟨rb, hrb⟩ : ∃ x, x = r.b := ⟨_, rfl⟩
          rw [← hfr] at e2
          rw [← hrb] at m2
          have Hfr := hid hfr
          have Hrb := hid hrb
          clear hfr hrb
          by_cases h1 : p = fr
          · by_cases h2 : q = rb
            · have Hgk : Hid (G k = true) := hid (by rw [HGk.out, fEdge_ret Hlen.out (h1.trans Hfr.out) (h2.trans Hrb.out)]; rfl)
              subst h1 h2
              clear hlen
              have Hr2 : Hid (P.isE r has p q = true) := hid (by rw [Hr.out]; exact any_range_true hlt Hgk.out)
              go_wp2
              go_ret
              exact ⟨by rw [Hr2.out]; rfl, HX.out.trans Hx1.out⟩
            · have h2' : (q == rb) = false := beq_eq_false_iff_ne.2 h2
              have Hnr : Hid (¬ (p = f.ret ∧ q = r.b)) := hid fun h => h2 (h.2.trans Hrb.out.symm)
              subst h1
              have hlen2 := Hlen.out
              clear hlen
              go_wp2
              go_loop [14] (fun t14 => ∃ i : Nat, t14 = .int .i64 (i : Int) ∧ i ≤ f.params.length ∧ ∀ j, j < i → ¬ (p = r.args.getD j 0 ∧ q = f.params.getD j 0)) (fun t14 => f.params.length - (intOf t14).toNat)
              case atStart => exact ⟨0, rfl, Nat.zero_le _, fun j h => by omega⟩
              case round =>
                obtain ⟨i, rfl, hi, hq⟩ := hrel
                have Hq := hid hq
                clear hq
                by_cases hil : i < f.params.length
                · have hil2 : i < r.args.length := by rw [← Hlen.out]; exact hil
                  obtain ⟨ya, o, hya, ho, hco⟩ := (HA.out.old (Hx1.out.old n0)).at hil2
                  subst hya
                  obtain ⟨yp, u, hyp, hu, hcu⟩ := (HIp.out.old (Hx1.out.old n0)).at hil
                  subst hyp
                  have Ho := hid ho
                  have Hu := hid hu
                  clear ho hu
                  by_cases g1 : p = o
                  · by_cases g2 : q = u
                    · subst g1 g2
                      have Hgk : Hid (G k = true) := hid (by rw [HGk.out, fEdge_arg Hlen.out hil Ho.out Hu.out]; rfl)
                      have Hr2 : Hid (P.isE r has p q = true) := hid (by rw [Hr.out]; exact any_range_true hlt Hgk.out)
                      go_wp2
                      go_ret
                      exact ⟨by rw [Hr2.out]; rfl, HX.out.trans Hx1.out⟩
                    · have g2' : (q == u) = false := beq_eq_false_iff_ne.2 g2
                      have Hn : Hid (¬ (p = r.args.getD i 0 ∧ q = f.params.getD i 0)) := hid (by rw [List.getD_eq_getElem?_getD, List.getD_eq_getElem?_getD, Ho.out, Hu.out]; exact fun h => g2 h.2)
                      subst g1
                      go_wp2
                      refine ⟨⟨i + 1, by go_num, by omega, fun j hj => ?_⟩, by simp [intOf]; omega⟩
                      by_cases hji : j = i
                      · subst hji; exact Hn.out
                      · exact Hq.out j (by omega)
                  · have g1' : (p == o) = false := beq_eq_false_iff_ne.2 g1
                    have Hn : Hid (¬ (p = r.args.getD i 0 ∧ q = f.params.getD i 0)) := hid (by rw [List.getD_eq_getElem?_getD, List.getD_eq_getElem?_getD, Ho.out, Hu.out]; exact fun h => g1 h.1)
                    go_wp2
                    refine ⟨⟨i + 1, by go_num, by omega, fun j hj => ?_⟩, by simp [intOf]; omega⟩
                    by_cases hji : j = i
                    · subst hji; exact Hn.out
                    · exact Hq.out j (by omega)
                · obtain rfl : i = f.params.length := by omega
                  have Hgk : Hid (G k = false) := hid (by rw [HGk.out, fEdge_no Hnr.out Hq.out]; rfl)
                  go_wp2
                  refine ⟨⟨k + 1, by go_num, by omega, fun j hj => ?_⟩, by simp [intOf]; omega⟩
                  by_cases hjk : j = k
                  · subst hjk; exact Hgk.out
                  · exact Hp.out j (by omega)
          · have h1' : (p == fr) = false := beq_eq_false_iff_ne.2 h1
            have Hnr : Hid (¬ (p = f.ret ∧ q = r.b)) := hid fun h => h1 (h.1.trans Hfr.out.symm)
            clear hlen
            go_wp2
            go_loop [14] (fun t14 => ∃ i : Nat, t14 = .int .i64 (i : Int) ∧ i ≤ f.params.length ∧ ∀ j, j < i → ¬ (p = r.args.getD j 0 ∧ q = f.params.getD j 0)) (fun t14 => f.params.length - (intOf t14).toNat)
            case atStart => exact ⟨0, rfl, Nat.zero_le _, fun j h => by omega⟩
            case round =>
              obtain ⟨i, rfl, hi, hq⟩ := hrel
              have Hq := hid hq
              clear hq
              by_cases hil : i < f.params.length
              · have hil2 : i < r.args.length := by rw [← Hlen.out]; exact hil
                obtain ⟨ya, o, hya, ho, hco⟩ := (HA.out.old (Hx1.out.old n0)).at hil2
                subst hya
                obtain ⟨yp, u, hyp, hu, hcu⟩ := (HIp.out.old (Hx1.out.old n0)).at hil
                subst hyp
                have Ho := hid ho
                have Hu := hid hu
                clear ho hu
                by_cases g1 : p = o
                · by_cases g2 : q = u
                  · subst g1 g2
                    have Hgk : Hid (G k = true) := hid (by rw [HGk.out, fEdge_arg Hlen.out hil Ho.out Hu.out]; rfl)
                    have Hr2 : Hid (P.isE r has p q = true) := hid (by rw [Hr.out]; exact any_range_true hlt Hgk.out)
                    go_wp2
                    go_ret
                    exact ⟨by rw [Hr2.out]; rfl, HX.out.trans Hx1.out⟩
                  · have g2' : (q == u) = false := beq_eq_false_iff_ne.2 g2
                    have Hn : Hid (¬ (p = r.args.getD i 0 ∧ q = f.params.getD i 0)) := hid (by rw [List.getD_eq_getElem?_getD, List.getD_eq_getElem?_getD, Ho.out, Hu.out]; exact fun h => g2 h.2)
                    subst g1
                    go_wp2
                    refine ⟨⟨i + 1, by go_num, by omega, fun j hj => ?_⟩, by simp [intOf]; omega⟩
                    by_cases hji : j = i
                    · subst hji; exact Hn.out
                    · exact Hq.out j (by omega)
                · have g1' : (p == o) = false := beq_eq_false_iff_ne.2 g1
                  have Hn : Hid (¬ (p = r.args.getD i 0 ∧ q = f.params.getD i 0)) := hid (by rw [List.getD_eq_getElem?_getD, List.getD_eq_getElem?_getD, Ho.out, Hu.out]; exact fun h => g1 h.1)
                  go_wp2
                  refine ⟨⟨i + 1, by go_num, by omega, fun j hj => ?_⟩, by simp [intOf]; omega⟩
                  by_cases hji : j = i
                  · subst hji; exact Hn.out
                  · exact Hq.out j (by omega)
              · obtain rfl : i = f.params.length := by omega
                have Hgk : Hid (G k = false) := hid (by rw [HGk.out, fEdge_no Hnr.out Hq.out]; rfl)
                go_wp2
                refine ⟨⟨k + 1, by go_num, by omega, fun j hj => ?_⟩, by simp [intOf]; omega⟩
                by_cases hjk : j = k
                · subst hjk; exact Hgk.out
                · exact Hp.out j (by omega)
        · have hl1 : ((f.params.length : Int) != (r.args.length : Int)) = true := bne_iff_ne.2 (fun h => hlen (Int.ofNat_inj.1 h))
          have Hgk : Hid (G k = false) := hid (by rw [HGk.out, fEdge_len hlen]; rfl)
          clear hlen
          go_wp2
          refine ⟨⟨k + 1, by go_num, by omega, fun j hj => ?_⟩, by simp [intOf]; omega⟩
          by_cases hjk : j = k
          · subst hjk; exact Hgk.out
          · exact Hp.out j (by omega)
    · obtain rfl : k = P.funs.length := by omega
      have Hr2 : Hid (P.isE r has p q = false) := hid (by rw [Hr.out]; exact any_range_false Hp.out)
      go_wp2
      go_ret
      exact ⟨by rw [Hr2.out]; rfl, HX.out.trans Hx1.out⟩
def PP.ruleR (P : PP) (k : Nat) (x : PS) : RV :=
  bif x.isK kAddr then ⟨bBase, x.x, x.y, k, []⟩ else
  bif x.isK kNew then ⟨bBase, x.x, P.placeV k, k, []⟩ else
  bif x.isK kFun then ⟨bBase, x.x, (P.nodesV : Int) + x.y, k, []⟩ else ⟨x.kind, x.y, x.x, k, x.args⟩
theorem noArgs {P : PP} {x : PS} (h0 : P.stmtErr x = 0) (h : x.isK kCall = false) : x.args = [] := by
  unfold PP.stmtErr at h0
  cases h1 : memB x.kind kindsS with
  | false => rw [h1] at h0; simp at h0
  | true =>
    cases h2 : P.bound x with
    | false => rw [h1, h2] at h0; simp at h0
    | true =>
      rw [h1, h2, h] at h0
      cases ha : x.args with
      | nil => rfl
      | cons a r => rw [ha] at h0; simp at h0
theorem rule_same {P : PP} {x : PS} (h0 : P.stmtErr x = 0) (k : Nat) : (P.ruleR k x).kind.toList = (P.ruleV k x).kind.toList ∧ (P.ruleR k x).a = (P.ruleV k x).a ∧ (P.ruleR k x).b = (P.ruleV k x).b ∧ (P.ruleR k x).k = k ∧ (P.ruleV k x).k = k ∧ (P.ruleR k x).args = (P.ruleV k x).args := by
  unfold PP.ruleR PP.ruleV
  cases h1 : x.isK kAddr with
  | true => exact ⟨rfl, rfl, rfl, rfl, rfl, rfl⟩
  | false =>
    cases h2 : x.isK kNew with
    | true => exact ⟨rfl, rfl, rfl, rfl, rfl, rfl⟩
    | false =>
      cases h3 : x.isK kFun with
      | true => exact ⟨rfl, rfl, rfl, rfl, rfl, rfl⟩
      | false =>
        cases h4 : x.isK kCall with
        | true =>
          refine ⟨?_, rfl, rfl, rfl, rfl, rfl⟩
          have : x.kind.toList = kCall := eq_of_beq h4
          exact this.trans (show kCall = bCall.toList by decide +kernel)
        | false => exact ⟨rfl, rfl, rfl, rfl, rfl, noArgs h0 h4⟩
theorem intsR_nil (w : World) (n0 : Nat) : IntsR w n0 (.slice none 0 0) [] := ⟨none, 0, rfl, Nat.le_refl _, by decide, fun h => absurd h (by decide), fun y hy => by cases hy⟩
set_option maxRecDepth 100000 in
set_option maxHeartbeats 6400000 in
theorem rruleof_addr (a1 a2 a3 : Option Addr) (c1 c2 c3 : Nat) (P : PP) (k : Nat) (x : PS) (hxk : P.stmts[k]? = some x) (w : World) (n0 : Nat) (h : ProgR w n0 (.slice a1 P.vars.length c1) (.slice a2 P.funs.length c2) (.slice a3 P.stmts.length c3) P) (hf1 : P.vars.length ≤ 1000) (hf3 : P.stmts.length ≤ 1000) (hkx : x.isK kAddr = true)  :
    Calls Tryz.prog 73 #[pval a1 a2 a3 c1 c2 c3 P, .int .i64 (k : Int)] w fun e w' => ∃ av, e = .returned ((P.ruleR k x).val av) ∧ IntsR w n0 av (P.ruleR k x).args ∧ Ext w w' := by
  obtain ⟨W1, hW1⟩ : ∃ W1, W1 = w.alloc (.cells (pcells a1 a2 a3 c1 c2 c3 P) 26) := ⟨_, rfl⟩
  have hx1 : Ext w W1 := by rw [hW1]; exact (Ext.refl _).alloc _
  obtain ⟨W2, hW2⟩ : ∃ W2, W2 = W1.alloc (.cells #[.string ⟨#[]⟩, .int .i64 0, .int .i64 0, .int .i64 0, .slice none 0 0] 126) := ⟨_, rfl⟩
  have hx2 : Ext W1 W2 := by rw [hW2]; exact (Ext.refl _).alloc _
  have hk : k < P.stmts.length := by
    rcases Nat.lt_or_ge k P.stmts.length with h | h
    · exact h
    · rw [List.getElem?_eq_none h] at hxk; cases hxk
  have hml := h.stmts.len
  obtain ⟨y, x', av, cv, rfl, hxk', e0, e1, e2, e3, hI⟩ := (h.ext (hx1.trans hx2)).stmts.at hk
  obtain rfl := Option.some.inj (hxk.symm.trans hxk')
  obtain ⟨W3, hW3⟩ : ∃ W3, W3 = W2.alloc (.cells (scells x av cv) 73) := ⟨_, rfl⟩
  have hx3 : Ext W2 W3 := by rw [hW3]; exact (Ext.refl _).alloc _
  obtain ⟨W4, hW4⟩ : ∃ W4, W4 = W3.alloc (.cells #[.string x.kind, .int .i64 x.y, .int .i64 x.x, .int .i64 (k : Int), .slice av x.args.length cv] 126) := ⟨_, rfl⟩
  have hx4 : Ext W3 W4 := by rw [hW4]; exact (Ext.refl _).alloc _
  have s1 : W1.heap.size = w.heap.size + 1 := by rw [hW1, heap_size_alloc]
  have s2 : W2.heap.size = w.heap.size + 1 + 1 := by rw [hW2, heap_size_alloc, s1]
  have s3 : W3.heap.size = w.heap.size + 1 + 1 + 1 := by rw [hW3, heap_size_alloc, s2]
  have HX := hid (((hx1.trans hx2).trans hx3).trans hx4)
  have HB0 : Hid (Blk W4 w.heap.size (pcells a1 a2 (some y) c1 c2 c3 P) 26) := hid (by
    have : Blk W1 w.heap.size (pcells a1 a2 (some y) c1 c2 c3 P) 26 := by rw [hW1]; exact Blk.new _ _ _
    exact this.ext ((hx2.trans hx3).trans hx4))
  have HB1 : Hid (Blk W4 (w.heap.size + 1) #[.string ⟨#[]⟩, .int .i64 0, .int .i64 0, .int .i64 0, .slice none 0 0] 126) := hid (by
    have : Blk W2 (w.heap.size + 1) #[.string ⟨#[]⟩, .int .i64 0, .int .i64 0, .int .i64 0, .slice none 0 0] 126 := by rw [← s1, hW2]; exact Blk.new _ _ _
    exact this.ext (hx3.trans hx4))
  have HB2 : Hid (Blk W4 (w.heap.size + 1 + 1) (scells x av cv) 73) := hid (by
    have : Blk W3 (w.heap.size + 1 + 1) (scells x av cv) 73 := by rw [← s2, hW3]; exact Blk.new _ _ _
    exact this.ext hx4)
  have HB3 : Hid (Blk W4 (w.heap.size + 1 + 1 + 1) #[.string x.kind, .int .i64 x.y, .int .i64 x.x, .int .i64 (k : Int), .slice av x.args.length cv] 126) := hid (by rw [← s3, hW4]; exact Blk.new _ _ _)
  have HI := hid hI
  have HP := hid h
  rw [hW2, hW1] at e0 e1 e2 e3
  unfold pcells at e0 e1 e2 e3
  have HWe : Hid (W4 = (((w.alloc (.cells #[.slice a1 P.vars.length c1, .slice a2 P.funs.length c2, .slice (some y) P.stmts.length c3] 26)).alloc (.cells #[.string ⟨#[]⟩, .int .i64 0, .int .i64 0, .int .i64 0, .slice none 0 0] 126)).alloc (.cells #[.string x.kind, .int .i64 x.x, .int .i64 x.y, .slice av x.args.length cv] 73)).alloc (.cells #[.string x.kind, .int .i64 x.y, .int .i64 x.x, .int .i64 (k : Int), .slice av x.args.length cv] 126)) := hid (by rw [hW4, hW3, hW2, hW1]; rfl)
  have HI0 : Hid (IntsR w n0 (.slice av x.args.length cv) x.args) := hid (by
    obtain ⟨y', x', av', cv', hy', hxk2, f0, f1, f2, f3, hI'⟩ := HP.out.stmts.at hk
    obtain rfl := Option.some.inj hy'
    obtain rfl := Option.some.inj (hxk.symm.trans hxk2)
    have g3 := (hx1.trans hx2).cellx f3
    rw [hW2, hW1] at g3
    unfold pcells at g3
    rw [e3] at g3
    obtain ⟨rfl, rfl⟩ : av = av' ∧ cv = cv' := by simpa using g3
    exact hI')
  clear hW1 hW2 hW3 hW4 hx1 hx2 hx3 hx4 s1 s2 s3 hxk hxk' hI h
  unfold pval
  have Hr : Hid (P.ruleR k x = ⟨bBase, x.x, x.y, k, []⟩) := hid (by unfold PP.ruleR; rw [hkx]; rfl)
  have hkk := hkx
  unfold PS.isK kAddr at hkk
  clear hkx
  clear HWe
  go_enter Tryz.func73, Tryz.ntmps73
  go_wp2
  obtain ⟨V, hV⟩ : ∃ V, V = (((w.alloc (.cells #[.slice a1 P.vars.length c1, .slice a2 P.funs.length c2, .slice (some y) P.stmts.length c3] 26)).alloc (.cells #[.string ⟨#[98, 97, 115, 101]⟩, .int .i64 x.x, .int .i64 x.y, .int .i64 (k : Int), .slice none 0 0] 126)).alloc (.cells #[.string x.kind, .int .i64 x.x, .int .i64 x.y, .slice av x.args.length cv] 73)).alloc (.cells #[.string ⟨#[98, 97, 115, 101]⟩, .int .i64 x.x, .int .i64 x.y, .int .i64 (k : Int), .slice none 0 0] 126) := ⟨_, rfl⟩
  have hxV : Ext w V := by rw [hV]; exact ((((Ext.refl _).alloc _).alloc _).alloc _).alloc _
  have HB9 : Blk V (w.heap.size + 1) #[.string ⟨#[98, 97, 115, 101]⟩, .int .i64 x.x, .int .i64 x.y, .int .i64 (k : Int), .slice none 0 0] 126 := by
    rw [hV]
    have := ((Blk.new (w.alloc (.cells #[.slice a1 P.vars.length c1, .slice a2 P.funs.length c2, .slice (some y) P.stmts.length c3] 26)) #[.string ⟨#[98, 97, 115, 101]⟩, .int .i64 x.x, .int .i64 x.y, .int .i64 (k : Int), .slice none 0 0] 126).alloc (.cells #[.string x.kind, .int .i64 x.x, .int .i64 x.y, .slice av x.args.length cv] 73)).alloc (.cells #[.string ⟨#[98, 97, 115, 101]⟩, .int .i64 x.x, .int .i64 x.y, .int .i64 (k : Int), .slice none 0 0] 126)
    rwa [heap_size_alloc] at this
  rw [← hV]
  exact bodyPost_ret (v := .agg #[.string ⟨#[98, 97, 115, 101]⟩, .int .i64 x.x, .int .i64 x.y, .int .i64 (k : Int), .slice none 0 0]) (by simp [results, Tryz.results73, go_sem, HB9.av 0 rfl, HB9.av 1 rfl, HB9.av 2 rfl, HB9.av 3 rfl, HB9.av 4 rfl]) rfl ⟨_, by rw [Hr.out]; rfl, by rw [Hr.out]; exact intsR_nil _ _, hxV⟩
set_option maxRecDepth 100000 in
set_option maxHeartbeats 6400000 in
theorem rruleof_rest (a1 a2 a3 : Option Addr) (c1 c2 c3 : Nat) (P : PP) (k : Nat) (x : PS) (hxk : P.stmts[k]? = some x) (w : World) (n0 : Nat) (h : ProgR w n0 (.slice a1 P.vars.length c1) (.slice a2 P.funs.length c2) (.slice a3 P.stmts.length c3) P) (hf1 : P.vars.length ≤ 1000) (hf3 : P.stmts.length ≤ 1000) (hkx : x.isK kAddr = false ∧ x.isK kNew = false ∧ x.isK kFun = false)  :
    Calls Tryz.prog 73 #[pval a1 a2 a3 c1 c2 c3 P, .int .i64 (k : Int)] w fun e w' => ∃ av, e = .returned ((P.ruleR k x).val av) ∧ IntsR w n0 av (P.ruleR k x).args ∧ Ext w w' := by
  obtain ⟨W1, hW1⟩ : ∃ W1, W1 = w.alloc (.cells (pcells a1 a2 a3 c1 c2 c3 P) 26) := ⟨_, rfl⟩
  have hx1 : Ext w W1 := by rw [hW1]; exact (Ext.refl _).alloc _
  obtain ⟨W2, hW2⟩ : ∃ W2, W2 = W1.alloc (.cells #[.string ⟨#[]⟩, .int .i64 0, .int .i64 0, .int .i64 0, .slice none 0 0] 126) := ⟨_, rfl⟩
  have hx2 : Ext W1 W2 := by rw [hW2]; exact (Ext.refl _).alloc _
  have hk : k < P.stmts.length := by
    rcases Nat.lt_or_ge k P.stmts.length with h | h
    · exact h
    · rw [List.getElem?_eq_none h] at hxk; cases hxk
  have hml := h.stmts.len
  obtain ⟨y, x', av, cv, rfl, hxk', e0, e1, e2, e3, hI⟩ := (h.ext (hx1.trans hx2)).stmts.at hk
  obtain rfl := Option.some.inj (hxk.symm.trans hxk')
  obtain ⟨W3, hW3⟩ : ∃ W3, W3 = W2.alloc (.cells (scells x av cv) 73) := ⟨_, rfl⟩
  have hx3 : Ext W2 W3 := by rw [hW3]; exact (Ext.refl _).alloc _
  obtain ⟨W4, hW4⟩ : ∃ W4, W4 = W3.alloc (.cells #[.string x.kind, .int .i64 x.y, .int .i64 x.x, .int .i64 (k : Int), .slice av x.args.length cv] 126) := ⟨_, rfl⟩
  have hx4 : Ext W3 W4 := by rw [hW4]; exact (Ext.refl _).alloc _
  have s1 : W1.heap.size = w.heap.size + 1 := by rw [hW1, heap_size_alloc]
  have s2 : W2.heap.size = w.heap.size + 1 + 1 := by rw [hW2, heap_size_alloc, s1]
  have s3 : W3.heap.size = w.heap.size + 1 + 1 + 1 := by rw [hW3, heap_size_alloc, s2]
  have HX := hid (((hx1.trans hx2).trans hx3).trans hx4)
  have HB0 : Hid (Blk W4 w.heap.size (pcells a1 a2 (some y) c1 c2 c3 P) 26) := hid (by
    have : Blk W1 w.heap.size (pcells a1 a2 (some y) c1 c2 c3 P) 26 := by rw [hW1]; exact Blk.new _ _ _
    exact this.ext ((hx2.trans hx3).trans hx4))
  have HB1 : Hid (Blk W4 (w.heap.size + 1) #[.string ⟨#[]⟩, .int .i64 0, .int .i64 0, .int .i64 0, .slice none 0 0] 126) := hid (by
    have : Blk W2 (w.heap.size + 1) #[.string ⟨#[]⟩, .int .i64 0, .int .i64 0, .int .i64 0, .slice none 0 0] 126 := by rw [← s1, hW2]; exact Blk.new _ _ _
    exact this.ext (hx3.trans hx4))
  have HB2 : Hid (Blk W4 (w.heap.size + 1 + 1) (scells x av cv) 73) := hid (by
    have : Blk W3 (w.heap.size + 1 + 1) (scells x av cv) 73 := by rw [← s2, hW3]; exact Blk.new _ _ _
    exact this.ext hx4)
  have HB3 : Hid (Blk W4 (w.heap.size + 1 + 1 + 1) #[.string x.kind, .int .i64 x.y, .int .i64 x.x, .int .i64 (k : Int), .slice av x.args.length cv] 126) := hid (by rw [← s3, hW4]; exact Blk.new _ _ _)
  have HI := hid hI
  have HP := hid h
  rw [hW2, hW1] at e0 e1 e2 e3
  unfold pcells at e0 e1 e2 e3
  have HWe : Hid (W4 = (((w.alloc (.cells #[.slice a1 P.vars.length c1, .slice a2 P.funs.length c2, .slice (some y) P.stmts.length c3] 26)).alloc (.cells #[.string ⟨#[]⟩, .int .i64 0, .int .i64 0, .int .i64 0, .slice none 0 0] 126)).alloc (.cells #[.string x.kind, .int .i64 x.x, .int .i64 x.y, .slice av x.args.length cv] 73)).alloc (.cells #[.string x.kind, .int .i64 x.y, .int .i64 x.x, .int .i64 (k : Int), .slice av x.args.length cv] 126)) := hid (by rw [hW4, hW3, hW2, hW1]; rfl)
  have HI0 : Hid (IntsR w n0 (.slice av x.args.length cv) x.args) := hid (by
    obtain ⟨y', x', av', cv', hy', hxk2, f0, f1, f2, f3, hI'⟩ := HP.out.stmts.at hk
    obtain rfl := Option.some.inj hy'
    obtain rfl := Option.some.inj (hxk.symm.trans hxk2)
    have g3 := (hx1.trans hx2).cellx f3
    rw [hW2, hW1] at g3
    unfold pcells at g3
    rw [e3] at g3
    obtain ⟨rfl, rfl⟩ : av = av' ∧ cv = cv' := by simpa using g3
    exact hI')
  clear hW1 hW2 hW3 hW4 hx1 hx2 hx3 hx4 s1 s2 s3 hxk hxk' hI h
  unfold pval
  obtain ⟨g1, g2, g3⟩ := hkx
  have Hr : Hid (P.ruleR k x = ⟨x.kind, x.y, x.x, k, x.args⟩) := hid (by unfold PP.ruleR; rw [g1, g2, g3]; rfl)
  have h1 : (x.kind.toList == [97, 100, 100, 114]) = false := g1
  have h5 : (x.kind.toList == [110, 101, 119]) = false := g2
  have h6 : (x.kind.toList == [102, 117, 110]) = false := g3
  clear g1 g2 g3
  clear HWe
  go_enter Tryz.func73, Tryz.ntmps73
  go_wp2
  obtain ⟨V, hV⟩ : ∃ V, V = (((w.alloc (.cells #[.slice a1 P.vars.length c1, .slice a2 P.funs.length c2, .slice (some y) P.stmts.length c3] 26)).alloc (.cells #[.string x.kind, .int .i64 x.y, .int .i64 x.x, .int .i64 (k : Int), .slice av x.args.length cv] 126)).alloc (.cells #[.string x.kind, .int .i64 x.x, .int .i64 x.y, .slice av x.args.length cv] 73)).alloc (.cells #[.string x.kind, .int .i64 x.y, .int .i64 x.x, .int .i64 (k : Int), .slice av x.args.length cv] 126) := ⟨_, rfl⟩
  have hxV : Ext w V := by rw [hV]; exact ((((Ext.refl _).alloc _).alloc _).alloc _).alloc _
  have HB9 : Blk V (w.heap.size + 1) #[.string x.kind, .int .i64 x.y, .int .i64 x.x, .int .i64 (k : Int), .slice av x.args.length cv] 126 := by
    rw [hV]
    have := ((Blk.new (w.alloc (.cells #[.slice a1 P.vars.length c1, .slice a2 P.funs.length c2, .slice (some y) P.stmts.length c3] 26)) #[.string x.kind, .int .i64 x.y, .int .i64 x.x, .int .i64 (k : Int), .slice av x.args.length cv] 126).alloc (.cells #[.string x.kind, .int .i64 x.x, .int .i64 x.y, .slice av x.args.length cv] 73)).alloc (.cells #[.string x.kind, .int .i64 x.y, .int .i64 x.x, .int .i64 (k : Int), .slice av x.args.length cv] 126)
    rwa [heap_size_alloc] at this
  rw [← hV]
  exact bodyPost_ret (v := .agg #[.string x.kind, .int .i64 x.y, .int .i64 x.x, .int .i64 (k : Int), .slice av x.args.length cv]) (by simp [results, Tryz.results73, go_sem, HB9.av 0 rfl, HB9.av 1 rfl, HB9.av 2 rfl, HB9.av 3 rfl, HB9.av 4 rfl]) rfl ⟨_, by rw [Hr.out]; rfl, by rw [Hr.out]; exact HI0.out, hxV⟩
set_option maxRecDepth 100000 in
set_option maxHeartbeats 6400000 in
theorem rruleof_new (a1 a2 a3 : Option Addr) (c1 c2 c3 : Nat) (P : PP) (k : Nat) (x : PS) (hxk : P.stmts[k]? = some x) (w : World) (n0 : Nat) (h : ProgR w n0 (.slice a1 P.vars.length c1) (.slice a2 P.funs.length c2) (.slice a3 P.stmts.length c3) P) (hf1 : P.vars.length ≤ 1000) (hf3 : P.stmts.length ≤ 1000) (hkx : x.isK kNew = true)  :
    Calls Tryz.prog 73 #[pval a1 a2 a3 c1 c2 c3 P, .int .i64 (k : Int)] w fun e w' => ∃ av, e = .returned ((P.ruleR k x).val av) ∧ IntsR w n0 av (P.ruleR k x).args ∧ Ext w w' := by
  have HPl := fun w1 (y : Ext w w1) => hid (rplaceof_any a1 a2 a3 c1 c2 c3 P (k : Int) w1 n0 (h.ext y) hf1 hf3)
  obtain ⟨W1, hW1⟩ : ∃ W1, W1 = w.alloc (.cells (pcells a1 a2 a3 c1 c2 c3 P) 26) := ⟨_, rfl⟩
  have hx1 : Ext w W1 := by rw [hW1]; exact (Ext.refl _).alloc _
  obtain ⟨W2, hW2⟩ : ∃ W2, W2 = W1.alloc (.cells #[.string ⟨#[]⟩, .int .i64 0, .int .i64 0, .int .i64 0, .slice none 0 0] 126) := ⟨_, rfl⟩
  have hx2 : Ext W1 W2 := by rw [hW2]; exact (Ext.refl _).alloc _
  have hk : k < P.stmts.length := by
    rcases Nat.lt_or_ge k P.stmts.length with h | h
    · exact h
    · rw [List.getElem?_eq_none h] at hxk; cases hxk
  have hml := h.stmts.len
  obtain ⟨y, x', av, cv, rfl, hxk', e0, e1, e2, e3, hI⟩ := (h.ext (hx1.trans hx2)).stmts.at hk
  obtain rfl := Option.some.inj (hxk.symm.trans hxk')
  obtain ⟨W3, hW3⟩ : ∃ W3, W3 = W2.alloc (.cells (scells x av cv) 73) := ⟨_, rfl⟩
  have hx3 : Ext W2 W3 := by rw [hW3]; exact (Ext.refl _).alloc _
  obtain ⟨W4, hW4⟩ : ∃ W4, W4 = W3.alloc (.cells #[.string x.kind, .int .i64 x.y, .int .i64 x.x, .int .i64 (k : Int), .slice av x.args.length cv] 126) := ⟨_, rfl⟩
  have hx4 : Ext W3 W4 := by rw [hW4]; exact (Ext.refl _).alloc _
  have s1 : W1.heap.size = w.heap.size + 1 := by rw [hW1, heap_size_alloc]
  have s2 : W2.heap.size = w.heap.size + 1 + 1 := by rw [hW2, heap_size_alloc, s1]
  have s3 : W3.heap.size = w.heap.size + 1 + 1 + 1 := by rw [hW3, heap_size_alloc, s2]
  have HX := hid (((hx1.trans hx2).trans hx3).trans hx4)
  have HB0 : Hid (Blk W4 w.heap.size (pcells a1 a2 (some y) c1 c2 c3 P) 26) := hid (by
    have : Blk W1 w.heap.size (pcells a1 a2 (some y) c1 c2 c3 P) 26 := by rw [hW1]; exact Blk.new _ _ _
    exact this.ext ((hx2.trans hx3).trans hx4))
  have HB1 : Hid (Blk W4 (w.heap.size + 1) #[.string ⟨#[]⟩, .int .i64 0, .int .i64 0, .int .i64 0, .slice none 0 0] 126) := hid (by
    have : Blk W2 (w.heap.size + 1) #[.string ⟨#[]⟩, .int .i64 0, .int .i64 0, .int .i64 0, .slice none 0 0] 126 := by rw [← s1, hW2]; exact Blk.new _ _ _
    exact this.ext (hx3.trans hx4))
  have HB2 : Hid (Blk W4 (w.heap.size + 1 + 1) (scells x av cv) 73) := hid (by
    have : Blk W3 (w.heap.size + 1 + 1) (scells x av cv) 73 := by rw [← s2, hW3]; exact Blk.new _ _ _
    exact this.ext hx4)
  have HB3 : Hid (Blk W4 (w.heap.size + 1 + 1 + 1) #[.string x.kind, .int .i64 x.y, .int .i64 x.x, .int .i64 (k : Int), .slice av x.args.length cv] 126) := hid (by rw [← s3, hW4]; exact Blk.new _ _ _)
  have HI := hid hI
  have HP := hid h
  rw [hW2, hW1] at e0 e1 e2 e3
  unfold pcells at e0 e1 e2 e3
  have HWe : Hid (W4 = (((w.alloc (.cells #[.slice a1 P.vars.length c1, .slice a2 P.funs.length c2, .slice (some y) P.stmts.length c3] 26)).alloc (.cells #[.string ⟨#[]⟩, .int .i64 0, .int .i64 0, .int .i64 0, .slice none 0 0] 126)).alloc (.cells #[.string x.kind, .int .i64 x.x, .int .i64 x.y, .slice av x.args.length cv] 73)).alloc (.cells #[.string x.kind, .int .i64 x.y, .int .i64 x.x, .int .i64 (k : Int), .slice av x.args.length cv] 126)) := hid (by rw [hW4, hW3, hW2, hW1]; rfl)
  have HI0 : Hid (IntsR w n0 (.slice av x.args.length cv) x.args) := hid (by
    obtain ⟨y', x', av', cv', hy', hxk2, f0, f1, f2, f3, hI'⟩ := HP.out.stmts.at hk
    obtain rfl := Option.some.inj hy'
    obtain rfl := Option.some.inj (hxk.symm.trans hxk2)
    have g3 := (hx1.trans hx2).cellx f3
    rw [hW2, hW1] at g3
    unfold pcells at g3
    rw [e3] at g3
    obtain ⟨rfl, rfl⟩ : av = av' ∧ cv = cv' := by simpa using g3
    exact hI')
  clear hW1 hW2 hW3 hW4 hx1 hx2 hx3 hx4 s1 s2 s3 hxk hxk' hI h
  unfold pval
  unfold pval at HPl
  have h1 : (x.kind.toList == [97, 100, 100, 114]) = false := isK_ne hkx (k' := kAddr) rfl
  have hkk := hkx
  unfold PS.isK kNew at hkk
  have Hr : Hid (P.ruleR k x = ⟨bBase, x.x, P.placeV k, k, []⟩) := hid (by unfold PP.ruleR; rw [isK_ne hkx (k' := kAddr) rfl, hkx]; rfl)
  clear hkx
  have x0 := Ext.refl W4
  have m0 := (HB2.out.ext x0).kc (X := fun _ => False) (fun e => e) 0 rfl
  have m1 := (HB2.out.ext x0).kc (X := fun _ => False) (fun e => e) 1 rfl
  have m2 := (HB2.out.ext x0).kc (X := fun _ => False) (fun e => e) 2 rfl
  have m3 := (HB2.out.ext x0).kc (X := fun _ => False) (fun e => e) 3 rfl
  have d0 := (HB0.out.ext x0).kc (X := fun _ => False) (fun e => e) 0 rfl
  have d1 := (HB0.out.ext x0).kc (X := fun _ => False) (fun e => e) 1 rfl
  have d2 := (HB0.out.ext x0).kc (X := fun _ => False) (fun e => e) 2 rfl
  simp only [pcells, scells, qA0, qA1, qA2] at m0 m1 m2 m3 d0 d1 d2
  clear x0
  go_enter Tryz.func73, Tryz.ntmps73
  go_wp2
  rw [← HWe.out]
  refine wp_flowT (fun _ => False) (by kernel_rfl) (by kernel_rfl) ?_
  repeat (apply FlowT.d; (intro w1 hk; unfold does; go_simp; (try go_ints); (first | exact DetR.mk | (simp only [↓IntWalk.iteOmega, Oper.doesUpon_value]; exact DetR.mk) | (simp only [↓IntWalk.iteOmega]; go_simp; (try go_ints); exact DetR.mk))); simp only [Act.put, qS0, qS1, qS2])
  apply FlowT.d
  · intro w1 hk
    unfold does
    go_simp
    exact CallR.det ((HPl w1 (HX.out.trans hk.ext)).out)
  simp only [Act.put, qS0, qS1, qS2]
  repeat (apply FlowT.d; (intro w1 hk; unfold does; go_simp; (try go_ints); (first | exact DetR.mk | (simp only [↓IntWalk.iteOmega, Oper.doesUpon_value]; exact DetR.mk) | (simp only [↓IntWalk.iteOmega]; go_simp; (try go_ints); exact DetR.mk))); simp only [Act.put, qS0, qS1, qS2])
  refine FlowT.last (fun _ w' => Blk w' (w.heap.size + 1 + 1 + 1) #[.string ⟨#[98, 97, 115, 101]⟩, .int .i64 x.x, .int .i64 (P.placeV k), .int .i64 (k : Int), .slice none 0 0] 126 ∧ Blk w' (w.heap.size + 1) #[.string ⟨#[]⟩, .int .i64 0, .int .i64 0, .int .i64 0, .slice none 0 0] 126 ∧ Ext w w') 7 rfl (by kernel_rfl) (by kernel_rfl) (fun w1 hC hk => ?_) (fun _ w2 hR => ?_)
  · have hB := HB3.out.ext hC
    have c0 := hB.av 0 rfl
    have c1 := hB.av 1 rfl
    have c2 := hB.av 2 rfl
    have c3 := hB.av 3 rfl
    have c4 := hB.av 4 rfl
    have f0 := hB.free
    have hZ := HB1.out.ext hC
    unfold does
    go_simp
    exact ⟨store5 hB, hZ.keep (store5_keep _ _ _ _ _ _ _) (fun e => by omega), Keep.new (HX.out.trans hC) (store5_keep _ _ _ _ _ _ _) (fun b hb => by omega)⟩
  obtain ⟨hB, hZ, hxw⟩ := hR
  simp only [Act.put]
  have Hxw := hid hxw
  have HZ := hid hZ
  have c0 := hB.av 0 rfl
  have c1 := hB.av 1 rfl
  have c2 := hB.av 2 rfl
  have c3 := hB.av 3 rfl
  have c4 := hB.av 4 rfl
  have z0 := hZ.av 0 rfl
  have z1 := hZ.av 1 rfl
  have z2 := hZ.av 2 rfl
  have z3 := hZ.av 3 rfl
  have z4 := hZ.av 4 rfl
  have f0 := hZ.free
  simp only [qA0, qA1, qA2] at c0 c1 c2 c3 c4 z0 z1 z2 z3 z4
  clear hB hZ hxw m0 m1 m2 m3 d0 d1 d2
  go_wp2
  have h9 := store5 (b0 := .string ⟨#[98, 97, 115, 101]⟩) (b1 := .int .i64 x.x) (b2 := .int .i64 (P.placeV k)) (b3 := .int .i64 (k : Int)) (b4 := .slice none 0 0) HZ.out
  have x9 := Keep.new Hxw.out (store5_keep w2 (w.heap.size + 1) (.string ⟨#[98, 97, 115, 101]⟩) (.int .i64 x.x) (.int .i64 (P.placeV k)) (.int .i64 (k : Int)) (.slice none 0 0)) (fun b hb => by omega)
  exact bodyPost_ret (v := .agg #[.string ⟨#[98, 97, 115, 101]⟩, .int .i64 x.x, .int .i64 (P.placeV k), .int .i64 (k : Int), .slice none 0 0]) (by simp [results, Tryz.results73, go_sem, h9.av 0 rfl, h9.av 1 rfl, h9.av 2 rfl, h9.av 3 rfl, h9.av 4 rfl]) rfl ⟨_, by rw [Hr.out]; rfl, by rw [Hr.out]; exact intsR_nil _ _, x9⟩
set_option maxRecDepth 100000 in
set_option maxHeartbeats 6400000 in
theorem rruleof_fun (a1 a2 a3 : Option Addr) (c1 c2 c3 : Nat) (P : PP) (k : Nat) (x : PS) (hxk : P.stmts[k]? = some x) (w : World) (n0 : Nat) (h : ProgR w n0 (.slice a1 P.vars.length c1) (.slice a2 P.funs.length c2) (.slice a3 P.stmts.length c3) P) (hf1 : P.vars.length ≤ 1000) (hf3 : P.stmts.length ≤ 1000) (hkx : x.isK kFun = true) (hyy : 0 ≤ x.y ∧ x.y ≤ 100000) :
    Calls Tryz.prog 73 #[pval a1 a2 a3 c1 c2 c3 P, .int .i64 (k : Int)] w fun e w' => ∃ av, e = .returned ((P.ruleR k x).val av) ∧ IntsR w n0 av (P.ruleR k x).args ∧ Ext w w' := by
  have HNo := fun w1 (y : Ext w w1) => hid (rnodesof_any a1 a2 a3 c1 c2 c3 P w1 n0 (h.ext y) hf1 hf3)
  have hnl := P.nodesV_le2
  obtain ⟨W1, hW1⟩ : ∃ W1, W1 = w.alloc (.cells (pcells a1 a2 a3 c1 c2 c3 P) 26) := ⟨_, rfl⟩
  have hx1 : Ext w W1 := by rw [hW1]; exact (Ext.refl _).alloc _
  obtain ⟨W2, hW2⟩ : ∃ W2, W2 = W1.alloc (.cells #[.string ⟨#[]⟩, .int .i64 0, .int .i64 0, .int .i64 0, .slice none 0 0] 126) := ⟨_, rfl⟩
  have hx2 : Ext W1 W2 := by rw [hW2]; exact (Ext.refl _).alloc _
  have hk : k < P.stmts.length := by
    rcases Nat.lt_or_ge k P.stmts.length with h | h
    · exact h
    · rw [List.getElem?_eq_none h] at hxk; cases hxk
  have hml := h.stmts.len
  obtain ⟨y, x', av, cv, rfl, hxk', e0, e1, e2, e3, hI⟩ := (h.ext (hx1.trans hx2)).stmts.at hk
  obtain rfl := Option.some.inj (hxk.symm.trans hxk')
  obtain ⟨W3, hW3⟩ : ∃ W3, W3 = W2.alloc (.cells (scells x av cv) 73) := ⟨_, rfl⟩
  have hx3 : Ext W2 W3 := by rw [hW3]; exact (Ext.refl _).alloc _
  obtain ⟨W4, hW4⟩ : ∃ W4, W4 = W3.alloc (.cells #[.string x.kind, .int .i64 x.y, .int .i64 x.x, .int .i64 (k : Int), .slice av x.args.length cv] 126) := ⟨_, rfl⟩
  have hx4 : Ext W3 W4 := by rw [hW4]; exact (Ext.refl _).alloc _
  have s1 : W1.heap.size = w.heap.size + 1 := by rw [hW1, heap_size_alloc]
  have s2 : W2.heap.size = w.heap.size + 1 + 1 := by rw [hW2, heap_size_alloc, s1]
  have s3 : W3.heap.size = w.heap.size + 1 + 1 + 1 := by rw [hW3, heap_size_alloc, s2]
  have HX := hid (((hx1.trans hx2).trans hx3).trans hx4)
  have HB0 : Hid (Blk W4 w.heap.size (pcells a1 a2 (some y) c1 c2 c3 P) 26) := hid (by
    have : Blk W1 w.heap.size (pcells a1 a2 (some y) c1 c2 c3 P) 26 := by rw [hW1]; exact Blk.new _ _ _
    exact this.ext ((hx2.trans hx3).trans hx4))
  have HB1 : Hid (Blk W4 (w.heap.size + 1) #[.string ⟨#[]⟩, .int .i64 0, .int .i64 0, .int .i64 0, .slice none 0 0] 126) := hid (by
    have : Blk W2 (w.heap.size + 1) #[.string ⟨#[]⟩, .int .i64 0, .int .i64 0, .int .i64 0, .slice none 0 0] 126 := by rw [← s1, hW2]; exact Blk.new _ _ _
    exact this.ext (hx3.trans hx4))
  have HB2 : Hid (Blk W4 (w.heap.size + 1 + 1) (scells x av cv) 73) := hid (by
    have : Blk W3 (w.heap.size + 1 + 1) (scells x av cv) 73 := by rw [← s2, hW3]; exact Blk.new _ _ _
    exact this.ext hx4)
  have HB3 : Hid (Blk W4 (w.heap.size + 1 + 1 + 1) #[.string x.kind, .int .i64 x.y, .int .i64 x.x, .int .i64 (k : Int), .slice av x.args.length cv] 126) := hid (by rw [← s3, hW4]; exact Blk.new _ _ _)
  have HI := hid hI
  have HP := hid h
  rw [hW2, hW1] at e0 e1 e2 e3
  unfold pcells at e0 e1 e2 e3
  have HWe : Hid (W4 = (((w.alloc (.cells #[.slice a1 P.vars.length c1, .slice a2 P.funs.length c2, .slice (some y) P.stmts.length c3] 26)).alloc (.cells #[.string ⟨#[]⟩, .int .i64 0, .int .i64 0, .int .i64 0, .slice none 0 0] 126)).alloc (.cells #[.string x.kind, .int .i64 x.x, .int .i64 x.y, .slice av x.args.length cv] 73)).alloc (.cells #[.string x.kind, .int .i64 x.y, .int .i64 x.x, .int .i64 (k : Int), .slice av x.args.length cv] 126)) := hid (by rw [hW4, hW3, hW2, hW1]; rfl)
  have HI0 : Hid (IntsR w n0 (.slice av x.args.length cv) x.args) := hid (by
    obtain ⟨y', x', av', cv', hy', hxk2, f0, f1, f2, f3, hI'⟩ := HP.out.stmts.at hk
    obtain rfl := Option.some.inj hy'
    obtain rfl := Option.some.inj (hxk.symm.trans hxk2)
    have g3 := (hx1.trans hx2).cellx f3
    rw [hW2, hW1] at g3
    unfold pcells at g3
    rw [e3] at g3
    obtain ⟨rfl, rfl⟩ : av = av' ∧ cv = cv' := by simpa using g3
    exact hI')
  clear hW1 hW2 hW3 hW4 hx1 hx2 hx3 hx4 s1 s2 s3 hxk hxk' hI h
  unfold pval
  unfold pval at HNo
  have h1 : (x.kind.toList == [97, 100, 100, 114]) = false := isK_ne hkx (k' := kAddr) rfl
  have h5 : (x.kind.toList == [110, 101, 119]) = false := isK_ne hkx (k' := kNew) rfl
  have hkk := hkx
  unfold PS.isK kFun at hkk
  obtain ⟨N, hN⟩ : ∃ N, N = P.nodesV := ⟨_, rfl⟩
  have Hr : Hid (P.ruleR k x = ⟨bBase, x.x, (N : Int) + x.y, k, []⟩) := hid (by unfold PP.ruleR; rw [isK_ne hkx (k' := kAddr) rfl, isK_ne hkx (k' := kNew) rfl, hkx, hN]; rfl)
  rw [← hN] at HNo hnl
  obtain ⟨hg1, hg2⟩ := hyy
  clear hkx hN
  have x0 := Ext.refl W4
  have m0 := (HB2.out.ext x0).kc (X := fun _ => False) (fun e => e) 0 rfl
  have m1 := (HB2.out.ext x0).kc (X := fun _ => False) (fun e => e) 1 rfl
  have m2 := (HB2.out.ext x0).kc (X := fun _ => False) (fun e => e) 2 rfl
  have m3 := (HB2.out.ext x0).kc (X := fun _ => False) (fun e => e) 3 rfl
  have d0 := (HB0.out.ext x0).kc (X := fun _ => False) (fun e => e) 0 rfl
  have d1 := (HB0.out.ext x0).kc (X := fun _ => False) (fun e => e) 1 rfl
  have d2 := (HB0.out.ext x0).kc (X := fun _ => False) (fun e => e) 2 rfl
  simp only [pcells, scells, qA0, qA1, qA2] at m0 m1 m2 m3 d0 d1 d2
  clear x0
  go_enter Tryz.func73, Tryz.ntmps73
  go_wp2
  rw [← HWe.out]
  refine wp_flowT (fun _ => False) (by kernel_rfl) (by kernel_rfl) ?_
  repeat (apply FlowT.d; (intro w1 hk; unfold does; go_simp; (try go_ints); (first | exact DetR.mk | (simp only [↓IntWalk.iteOmega, Oper.doesUpon_value]; exact DetR.mk) | (simp only [↓IntWalk.iteOmega]; go_simp; (try go_ints); exact DetR.mk))); simp only [Act.put, qS0, qS1, qS2])
  apply FlowT.d
  · intro w1 hk
    unfold does
    go_simp
    exact CallR.det ((HNo w1 (HX.out.trans hk.ext)).out)
  simp only [Act.put, qS0, qS1, qS2]
  repeat (apply FlowT.d; (intro w1 hk; unfold does; go_simp; (try go_ints); (first | exact DetR.mk | (simp only [↓IntWalk.iteOmega, Oper.doesUpon_value]; exact DetR.mk) | (simp only [↓IntWalk.iteOmega]; go_simp; (try go_ints); exact DetR.mk))); simp only [Act.put, qS0, qS1, qS2])
  refine FlowT.last (fun _ w' => Blk w' (w.heap.size + 1 + 1 + 1) #[.string ⟨#[98, 97, 115, 101]⟩, .int .i64 x.x, .int .i64 ((N : Int) + x.y), .int .i64 (k : Int), .slice none 0 0] 126 ∧ Blk w' (w.heap.size + 1) #[.string ⟨#[]⟩, .int .i64 0, .int .i64 0, .int .i64 0, .slice none 0 0] 126 ∧ Ext w w') 9 rfl (by kernel_rfl) (by kernel_rfl) (fun w1 hC hk => ?_) (fun _ w2 hR => ?_)
  · have hB := HB3.out.ext hC
    have c0 := hB.av 0 rfl
    have c1 := hB.av 1 rfl
    have c2 := hB.av 2 rfl
    have c3 := hB.av 3 rfl
    have c4 := hB.av 4 rfl
    have f0 := hB.free
    have hZ := HB1.out.ext hC
    unfold does
    go_simp
    exact ⟨store5 hB, hZ.keep (store5_keep _ _ _ _ _ _ _) (fun e => by omega), Keep.new (HX.out.trans hC) (store5_keep _ _ _ _ _ _ _) (fun b hb => by omega)⟩
  obtain ⟨hB, hZ, hxw⟩ := hR
  simp only [Act.put]
  have Hxw := hid hxw
  have HZ := hid hZ
  have c0 := hB.av 0 rfl
  have c1 := hB.av 1 rfl
  have c2 := hB.av 2 rfl
  have c3 := hB.av 3 rfl
  have c4 := hB.av 4 rfl
  have z0 := hZ.av 0 rfl
  have z1 := hZ.av 1 rfl
  have z2 := hZ.av 2 rfl
  have z3 := hZ.av 3 rfl
  have z4 := hZ.av 4 rfl
  have f0 := hZ.free
  simp only [qA0, qA1, qA2] at c0 c1 c2 c3 c4 z0 z1 z2 z3 z4
  clear hB hZ hxw m0 m1 m2 m3 d0 d1 d2
  go_wp2
  have h9 := store5 (b0 := .string ⟨#[98, 97, 115, 101]⟩) (b1 := .int .i64 x.x) (b2 := .int .i64 ((N : Int) + x.y)) (b3 := .int .i64 (k : Int)) (b4 := .slice none 0 0) HZ.out
  have x9 := Keep.new Hxw.out (store5_keep w2 (w.heap.size + 1) (.string ⟨#[98, 97, 115, 101]⟩) (.int .i64 x.x) (.int .i64 ((N : Int) + x.y)) (.int .i64 (k : Int)) (.slice none 0 0)) (fun b hb => by omega)
  exact bodyPost_ret (v := .agg #[.string ⟨#[98, 97, 115, 101]⟩, .int .i64 x.x, .int .i64 ((N : Int) + x.y), .int .i64 (k : Int), .slice none 0 0]) (by simp [results, Tryz.results73, go_sem, h9.av 0 rfl, h9.av 1 rfl, h9.av 2 rfl, h9.av 3 rfl, h9.av 4 rfl]) rfl ⟨_, by rw [Hr.out]; rfl, by rw [Hr.out]; exact intsR_nil _ _, x9⟩
theorem rruleof_any (a1 a2 a3 : Option Addr) (c1 c2 c3 : Nat) (P : PP) (k : Nat) (x : PS) (hxk : P.stmts[k]? = some x) (w : World) (n0 : Nat) (h : ProgR w n0 (.slice a1 P.vars.length c1) (.slice a2 P.funs.length c2) (.slice a3 P.stmts.length c3) P) (hw : P.Well) :
    Calls Tryz.prog 73 #[pval a1 a2 a3 c1 c2 c3 P, .int .i64 (k : Int)] w fun e w' => ∃ av, e = .returned ((P.ruleR k x).val av) ∧ IntsR w n0 av (P.ruleR k x).args ∧ Ext w w' := by
  have hk : k < P.stmts.length := by
    rcases Nat.lt_or_ge k P.stmts.length with h | h
    · exact h
    · rw [List.getElem?_eq_none h] at hxk; cases hxk
  have h0 := hw.2 k x hk hxk
  have hg := PP.good h0
  obtain ⟨f1, f2, f3⟩ := hw.few
  cases h1 : x.isK kAddr with
  | true =>
    have hy := hg.yv (isK_ne h1 (k' := kFun) rfl) (isK_ne h1 (k' := kNew) rfl)
    exact rruleof_addr a1 a2 a3 c1 c2 c3 P k x hxk w n0 h (by omega) (by omega) h1
  | false =>
    cases h2 : x.isK kNew with
    | true => exact rruleof_new a1 a2 a3 c1 c2 c3 P k x hxk w n0 h (by omega) (by omega) h2
    | false =>
      cases h3 : x.isK kFun with
      | true =>
        have hy := hg.yf h3
        exact rruleof_fun a1 a2 a3 c1 c2 c3 P k x hxk w n0 h (by omega) (by omega) h3 (by omega)
      | false => exact rruleof_rest a1 a2 a3 c1 c2 c3 P k x hxk w n0 h (by omega) (by omega) ⟨h1, h2, h3⟩
end Go.Proofs.YtihdpijgngooaaaGreatDoor
