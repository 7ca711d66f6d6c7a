/- Texts of one proof, put together: Own F6 FP Par F7 F8 FA FB ZZZE SE UP U1. -/
import Derived.Test.YtamblahkckaaaaaDoorHPB01
import Derived.Lib.IndexBytes
import Derived.RangeFuncBox
import Derived.RangeFuncLeaves
import Derived.RangeFuncBound
import Derived.OwnWalkIn
import Derived.TacticsInMore
import Derived.LoopNIn
import Derived.LoopIn
import Derived.Test.YtamblahkckaaaaaDoorProg
import Derived.Stop.LaidErr
import Derived.Stop.ErrReads
import Derived.Stop.Joined
import Derived.MakeChecks
import Derived.LaidSub
set_option linter.unusedSimpArgs false
set_option linter.unusedVariables false
namespace Go.Proofs.YtamblahkckaaaaaDoor
open Go Go.RowKit
theorem grown_keep {w w' : World} {row : Option Nat} (h : w.grownBy w' row) : Keep (fun k => row = some k) w w' :=
  ⟨h.os, h.tape, h.output, h.size, fun k hk hx => h.block k hk fun e => hx e.symm⟩
section
variable {P : Program} {ops : Array Oper}
theorem does_of_run {o : Oper} {a : Act} {w w' : World} {v : Value} {R : Value → World → Prop} (hg : o.guard = none) (hr : (execOp a.eval o).run P w = .ok (.value v) w') (h : R v w') : does P ops o a w R := by
  unfold does
  rw [if_pos (by simp [Region.wanted, hg]), hr]
  exact h
theorem run_exec_append {o : Oper} {a : Act} {w w' : World} (s x : Operand) (t : TypeId) (ho : o.op = .call { callee := .builtin .append, args := #[s, x], argTypes := #[t, t] })
    {v1 v2 v : Value} (h1 : a.eval s = v1) (h2 : a.eval x = v2) (hr : (Builtin.append_ #[t, t] o.type #[v1, v2]).run P w = .ok v w') : (execOp a.eval o).run P w = .ok (.value v) w' := by
  unfold execOp
  simp only [ho, resolve, invoke, builtin, Sem.run_bind, Sem.run_pure, Result.andThen_ok, List.map_toArray, List.map_cons, List.map_nil, h1, h2, hr]
end
def Fr.body (f : Fr) : List UInt8 := [f.kind, UInt8.ofNat f.fr.toNat, UInt8.ofNat f.to.toNat] ++ high4 f.seq.toNat ++ [UInt8.ofNat f.nums.length] ++ f.nums.flatMap fun n => high4 n.toNat
def Fr.text (f : Fr) : List UInt8 := f.body ++ low4 (crc f.body)
theorem ofNat_inj {a b : Nat} (ha : a < 256) (hb : b < 256) (h : UInt8.ofNat a = UInt8.ofNat b) : a = b := by
  have := congrArg UInt8.toNat h
  simp only [UInt8.toNat_ofNat'] at this
  omega
structure Fr.Fits (f : Fr) : Prop where
  fr : 0 ≤ f.fr ∧ f.fr ≤ 255
  to : 0 ≤ f.to ∧ f.to ≤ 255
  seq : 0 ≤ f.seq ∧ f.seq ≤ 4294967295
  nums : ∀ n ∈ f.nums, 0 ≤ n ∧ n ≤ 4294967295
def frOf (s : ByteArray) : Fr := ⟨at8 s 0, (at8 s 1).toNat, (at8 s 2).toNat, four s 3, (List.range (at8 s 7).toNat).map fun i => (four s (8 + 4 * i) : Int)⟩
section
variable {P : Program} {ops : Array Oper} {X : Nat → Prop} {w0 : World} {Q : Act → World → Prop} {L : List Nat}
theorem Flow.one {listed : Array Bool} {C : World → Prop} {a : Act} (i : Nat) (o : Oper) (ho : ops[i]? = some o) (hr : (Region.ready .any ops listed == [i]) = true) (R : Value → World → Prop)
    (hR : ∀ v w w', R v w → Ext w w' → R v w') (h : ∀ w, C w → Keep X w0 w → does P ops o a w (ActR X w0 R))
    (k : ∀ v, (∃ w, R v w) → Flow P ops w0 Q X L (listed.setIfInBounds i true) (R v) (a.put o.dst v)) : Flow P ops w0 Q X L listed C a :=
  Flow.acts [i] hr (by simp) (fun _ => o) (fun _ => R) (fun _ => hR) (fun j hj => by obtain rfl : j = i := by simpa using hj
                                                                                     exact ⟨ho, h⟩) (fun j hj => by obtain rfl : j = i := by simpa using hj
                                                                                                                    exact k)
end
def BRow (w0 w : World) (v : Value) (l : List UInt8) : Prop := w.ownsRow w0.heap.size 5 1 v l.length (bcells l)
theorem own_ext {w w' : World} {base : Nat} {e : TypeId} {size : Nat} {v : Value} {n : Nat} {xs : List Value} (h : w.ownsRow base e size v n xs) (x : Ext w w') : w'.ownsRow base e size v n xs := by
  obtain ⟨h1, h2⟩ := h
  refine ⟨h1, h2.imp id ?_⟩
  rintro ⟨g, cap, cur, rfl, hb, hg, h3⟩
  exact ⟨g, cap, cur, rfl, hb, x.get hg, h3⟩
theorem BRow.ext {w0 w w' : World} {v : Value} {l : List UInt8} (h : BRow w0 w v l) (x : Ext w w') : BRow w0 w' v l := own_ext h x
theorem BRow.made (w0 w : World) (h : w0.heap.size ≤ w.heap.size) (l : List UInt8) (hl : l.length ≤ 1000) : BRow w0 (w.alloc (.cells (bcells l).toArray 5)) (.slice (some ⟨w.heap.size, 0, none⟩) l.length l.length) l :=
  ⟨by simp [bcells], .inr ⟨w.heap.size, l.length, _, rfl, h, heap_alloc_new w _, Nat.le_refl _, by simp only [maxLen]; omega, by simp [bcells], by simp [bcells, List.take_of_length_le]⟩⟩
theorem Blk.av {w : World} {b : Nat} {c : Array Value} {e : TypeId} (h : Blk w b c e) (i : Nat) {v : Value} (hv : c[i]? = some v) : w.cell? ⟨b, i, none⟩ = some v := (h.cell i).trans hv
theorem BRow.text {w0 w : World} {v : Value} {l : List UInt8} (h : BRow w0 w v l) (hl : l ≠ []) : ∃ g cap cur, v = .slice (some ⟨g, 0, none⟩) l.length cap ∧ Blk w g cur 5 ∧ ∀ j, j < l.length → cur[j]? = (bcells l)[j]? := by
  rcases h.2 with ⟨_, h0⟩ | ⟨g, cap, cur, hv, _, hg, hnc, _, hcs, htake⟩
  · exact absurd (List.length_eq_zero_iff.1 h0) hl
  · refine ⟨g, cap, cur, hv, hg, fun j hj => ?_⟩
    rw [← htake, List.getElem?_take, if_pos (by omega)]
    simp
def fr0 : Value := .agg #[.int .u8 0, .int .i64 0, .int .i64 0, .int .i64 0, .slice none 0 0]
theorem Keep.cellx {X : Nat → Prop} {w w' : World} (h : Keep X w w') {x : Addr} {v : Value} (hc : w.cell? x = some v) (hx : ¬ X x.block) : w'.cell? x = some v := by
  have hb := h.block x.block (cell_lt hc) hx
  unfold World.cell? at *
  rw [hb]
  exact hc
theorem Errs.at_ {w : World} {ev : Nat → Value} (h : Errs w ev) {W : World} (x : Ext w W) (i c : Nat) (hc : w.cell? ⟨i, 0, none⟩ = some (ev c)) : ∀ w1, Keep (fun b => b = w.heap.size) W w1 → w1.cell? ⟨i, 0, none⟩ = some (ev c) :=
  fun _ hk => hk.cellx (x.cellx hc) (fun e => by have := cell_lt hc; simp only at e this; omega)
def icells (l : List Int) : List Value := l.map fun n => Value.int .i64 n
theorem ints_info : (Tryd.prog.info? 3).map (fun i => (i.zero, i.size, i.bytes)) = some (some (.int .i64 0), 1, 8) := by kernel_rfl
def IRow (base : Nat) (w : World) (v : Value) (l : List Int) : Prop := w.ownsRow base 3 1 v l.length (icells l)
theorem icells_append (l m : List Int) : icells (l ++ m) = icells l ++ icells m := by simp [icells]
theorem icells_one {l : List Int} : ∀ u ∈ icells l, u.oneCell' = true := by
  intro u hu
  simp only [icells, List.mem_map] at hu
  obtain ⟨b, _, rfl⟩ := hu
  rfl
theorem IRow.ext {base : Nat} {w w' : World} {v : Value} {l : List Int} (h : IRow base w v l) (x : Ext w w') : IRow base w' v l := own_ext h x
theorem IRow.keep {base : Nat} {X : Nat → Prop} {w w' : World} {v : Value} {l : List Int} (h : IRow base w v l) (k : Keep X w w') (hx : ∀ b, v.ownBlock = some b → ¬ X b) : IRow base w' v l := by
  obtain ⟨h1, h2⟩ := h
  refine ⟨h1, h2.imp id ?_⟩
  rintro ⟨g, cap, cur, rfl, hb, hg, h3⟩
  exact ⟨g, cap, cur, rfl, hb, Keep.get k hg (hx g rfl), h3⟩
theorem IRow.nil (base : Nat) (w : World) : IRow base w (.slice none 0 0) [] := World.ownsRow_nil _ _ _ _
theorem IRow.lt {base : Nat} {w : World} {v : Value} {l : List Int} (h : IRow base w v l) {b : Nat} (hb : v.ownBlock = some b) : base ≤ b ∧ b < w.heap.size := World.ownsRow.lt h b hb
theorem IRow.form {base : Nat} {w : World} {v : Value} {l : List Int} (h : IRow base w v l) : ∃ a cap, v = .slice a l.length cap := by
  rcases h.2 with ⟨h2, h3⟩ | ⟨g, cap, cur, h2, _⟩
  · exact ⟨none, 0, by rw [h2, h3]⟩
  · exact ⟨_, _, h2⟩
theorem IRow.ints {base : Nat} {w : World} {a : Option Addr} {n cap : Nat} {l : List Int} (h : IRow base w (.slice a n cap) l) (hi : ∀ i, l.getD i 0 ≤ 9223372036854775807) : Ints w a l.length l := by
  refine ⟨rfl, ?_, ?_, hi⟩
  · intro hp
    rcases h.2 with ⟨h2, h3⟩ | ⟨g, cap, cur, h2, _⟩
    · omega
    · simp only [Value.slice.injEq] at h2; exact ⟨_, h2.1⟩
  · intro x hx i hil
    rcases h.2 with ⟨h2, h3⟩ | ⟨g, cap, cur, h2, hb, hg, hnc, _, hcs, htake⟩
    · omega
    · simp only [Value.slice.injEq] at h2
      obtain ⟨rfl, _, _⟩ := h2
      obtain rfl := Option.some.inj hx
      have hc : Blk w g cur 3 := hg
      rw [show (⟨g, 0, none⟩ : Addr).add i = ⟨g, i, none⟩ from by by_cases h0 : i = 0 <;> simp [Addr.add, h0], hc.cell i]
      have h2 : cur[i]? = (icells l)[i]? := by
        rw [← htake, List.getElem?_take, if_pos (by omega)]
        simp
      rw [h2]
      simp only [icells, List.getElem?_map, List.getElem?_eq_getElem hil, Option.map_some, List.getD_eq_getElem?_getD, Option.getD_some]
def nm (s : ByteArray) (k : Nat) : List Int := (List.range k).map fun i => (four s (8 + 4 * i) : Int)
def DecR (s : ByteArray) (ev : Nat → Value) (w : World) : Ending → World → Prop := fun e w' =>
  if (frOf s).code = 0 then ∃ a cap, e = .returned (.tuple #[frv (frOf s) a cap, .nilIface]) ∧ Ints w' a (frOf s).nums.length (frOf s).nums ∧ Ext w w'
  else e = .returned (.tuple #[fr0, ev (frOf s).code]) ∧ Ext w w'
theorem DecR.yes {s : ByteArray} {ev : Nat → Value} {w w' : World} {b0 : UInt8} {fr to seq : Int} {nums : List Int} {n cap : Nat} {a : Option Addr} (hf : frOf s = ⟨b0, fr, to, seq, nums⟩) (hl : nums.length = n) (hc : Fr.code ⟨b0, fr, to, seq, nums⟩ = 0) (hi : Ints w' a n nums) (hx : Ext w w') :
    DecR s ev w (.returned (.tuple #[.agg #[.int .u8 (b0.toNat : Int), .int .i64 fr, .int .i64 to, .int .i64 seq, .slice a n cap], .nilIface])) w' := by
  subst hl
  unfold DecR
  rw [hf, if_pos hc]
  exact ⟨a, cap, rfl, hi, hx⟩
theorem DecR.no {s : ByteArray} {ev : Nat → Value} {w w' : World} {f : Fr} {v : Value} (hf : frOf s = f) (hc : f.code ≠ 0) (hv : v = ev f.code) (hx : Ext w w') : DecR s ev w (.returned (.tuple #[fr0, v])) w' := by
  unfold DecR
  rw [hf, if_neg hc, hv]
  exact ⟨rfl, hx⟩
theorem ret_bool {b c : Bool} (h : b = c) : Ending.returned (.bool b) = Ending.returned (.bool c) := by rw [h]
theorem IRow.base {base b2 : Nat} {w : World} {v : Value} {l : List Int} (h : IRow base w v l) (hb : b2 ≤ base) : IRow b2 w v l := by
  obtain ⟨h1, h2⟩ := h
  refine ⟨h1, h2.imp id ?_⟩
  rintro ⟨g, cap, cur, rfl, hg, h3⟩
  exact ⟨g, cap, cur, rfl, Nat.le_trans hb hg, h3⟩
set_option maxRecDepth 100000 in
set_option maxHeartbeats 1600000 in
theorem sameints_any (a b : Option Addr) (n m cap cap2 : Nat) (vs us : List Int) (w : World) (hr : Ints w a n vs) (hr2 : Ints w b m us) (hl : (n : Int) ≤ 9223372036854775807) (hl2 : (m : Int) ≤ 9223372036854775807) :
    Calls Tryd.prog 28 #[.slice a n cap, .slice b m cap2] w fun e w' => e = .returned (.bool (decide (vs = us))) ∧ Ext w w' := by
  have Hr := hid hr
  have Hr2 := hid hr2
  clear hr hr2
  by_cases hnm : n = m
  · subst hnm
    go_enter Tryd.func28, Tryd.ntmps28
    go_wp2
    go_loopw [5] (fun t5 wr => ∃ k : Nat, t5 = .int .i64 (k : Int) ∧ k ≤ n ∧ (∀ j, j < k → vs.getD j 0 = us.getD j 0) ∧ Ext w wr) (fun t5 _ => n - (intOf t5).toNat)
    case atStart => exact ⟨0, rfl, Nat.zero_le _, fun j h => by omega, Ext.refl _⟩
    case round =>
      obtain ⟨k, rfl, hk, hne, hx⟩ := hrel
      have Hne := hid hne
      clear hne
      by_cases hlt : k < n
      · obtain ⟨x, rfl⟩ := Hr.out.sm (by omega)
        obtain ⟨y, rfl⟩ := Hr2.out.sm (by omega)
        have hc : ∀ w1, Keep (fun _ => False) wr w1 → w1.cell? (x.add k) = some (.int .i64 (vs.getD k 0)) := fun w1 hk => hk.cellx (hx.cellx (Hr.out.cl x rfl k hlt)) (fun h => h)
        have hd : ∀ w1, Keep (fun _ => False) wr w1 → w1.cell? (y.add k) = some (.int .i64 (us.getD k 0)) := fun w1 hk => hk.cellx (hx.cellx (Hr2.out.cl y rfl k hlt)) (fun h => h)
        have Heq : Hid (vs.getD k 0 ≠ us.getD k 0 → decide (vs = us) = false) := hid fun h => decide_eq_false fun e => h (by rw [e])
        obtain ⟨p, hp⟩ : ∃ p, p = vs.getD k 0 := ⟨_, rfl⟩
        obtain ⟨q, hq⟩ : ∃ q, q = us.getD k 0 := ⟨_, rfl⟩
        rw [← hp] at hc Heq
        rw [← hq] at hd Heq
        have Hp := hid hp
        have Hq := hid hq
        clear hp hq
        by_cases hpq : p = q
        · subst hpq
          go_wp2
          refine wp_flowT (fun _ => False) (by kernel_rfl) (by kernel_rfl) ?_
          repeat (apply FlowT.d; (intro w1 hk; unfold does; go_simp; (try go_ints); (first | exact DetR.mk | (simp only [↓IntWalk.iteOmega, Oper.doesUpon_value]; exact DetR.mk) | (simp only [↓IntWalk.iteOmega]; go_simp; (try go_ints); exact DetR.mk))); simp only [Act.put, qS0, qS1, qS2])
          refine FlowT.fin fun w1 hxx hk => ?_
          have hxx2 := hx.trans hxx
          clear hk hc hd hx hxx Heq
          go_wp2
          go_roundw
          case rel => exact ⟨k + 1, by go_num, by omega, fun j hj => by
            by_cases hjk : j = k
            · subst hjk; rw [← Hp.out, ← Hq.out]
            · exact Hne.out j (by omega), hxx2⟩
          case measure => simp [intOf]; omega
        · have Hpq := hid (Heq.out hpq)
          clear Heq
          go_wp2
          refine wp_flowT (fun _ => False) (by kernel_rfl) (by kernel_rfl) ?_
          repeat (apply FlowT.d; (intro w1 hk; unfold does; go_simp; (try go_ints); (first | exact DetR.mk | (simp only [↓IntWalk.iteOmega, Oper.doesUpon_value]; exact DetR.mk) | (simp only [↓IntWalk.iteOmega]; go_simp; (try go_ints); exact DetR.mk))); simp only [Act.put, qS0, qS1, qS2])
          refine FlowT.fin fun w1 hxx hk => ?_
          have hxx2 := hx.trans hxx
          clear hk hc hd hx hxx
          go_wp2
          go_ret
          exact ⟨ret_bool Hpq.out.symm, hxx2⟩
      · obtain rfl : k = n := by omega
        have hyes : decide (vs = us) = true := decide_eq_true (List.ext_getElem (by rw [Hr.out.ln, Hr2.out.ln]) fun i h1 h2 => by
          have := Hne.out i (by have := Hr.out.ln; omega)
          simpa [List.getD_eq_getElem?_getD, List.getElem?_eq_getElem h1, List.getElem?_eq_getElem h2] using this)
        have Hyes := hid hyes
        clear hyes
        go_wp2
        go_ret
        exact ⟨ret_bool Hyes.out.symm, hx⟩
  · have Hno := hid (decide_eq_false (p := vs = us) fun e => hnm (by rw [← Hr.out.ln, ← Hr2.out.ln, e]))
    have hi : ¬ (n : Int) = (m : Int) := by omega
    go_enter Tryd.func28, Tryd.ntmps28
    go_wp2
    go_ret
    exact ⟨ret_bool Hno.out.symm, Ext.refl _⟩
end Go.Proofs.YtamblahkckaaaaaDoor
namespace Go.Proofs.YtamblahkckaaaaaDoor
open Go Go.RowKit Go.Shelf Go.Maps Go.Sort
theorem bs_list (b : ByteArray) : b.data.toList.length = b.size := by rw [Array.length_toList]; rfl
end Go.Proofs.YtamblahkckaaaaaDoor
namespace Go.Proofs.YtamblahkckaaaaaDoor
open Go Go.RowKit Go.ChangeShapes
theorem errStar : "*" ++ "errors.errorString" = "*errors.errorString" := by decide
theorem errRow (u : TypeId) (h : Tryd.prog.typeName? 3 u = some "*errors.errorString") : u = 130 :=
  typeName_ptr_named (nm := "errors.errorString") (by rw [errStar]; kernel_rfl) (by kernel_rfl) (by decide) u (by rw [errStar]; exact h)
theorem errCells : Tryd.prog.cellsOf 145 = 1 := by kernel_rfl
theorem strCells : Tryd.prog.cellsOf 9 = 1 := by kernel_rfl
structure SentAt (W : World) (g : Nat) (a : Addr) : Prop where
  var : W.cell? ⟨g, 0, none⟩ = some (.iface 130 (.pointer (some a)))
  row : ∃ c t, W.heap[a.block]? = some (.cells c t (0, 0))
  text : ∃ s, W.cell? a = some (.string s)
def sentD (t : List UInt8) : DataW Unit := .iface "*errors.errorString" (.ptr (.agg [.lit (.string t)]))
set_option maxRecDepth 100000 in
theorem sents_of {W : World} : ∀ (l : List (String × Nat × List UInt8)) (ps : List MemPlace), DataW.LaidVars Tryd.prog W (l.map fun x => (x.1, sentD x.2.2)) ps → ps.Nodup →
    (∀ b off, MemPlace.cell b off ∈ ps → (∃ c t, W.heap[b]? = some (.cells c t (0, 0))) ∧ ∀ u v, W.cell? ⟨b, off, none⟩ = some (.iface u v) → Value.okWide Tryd.prog W .any 0 u v) →
    (∀ x ∈ l, Tryd.prog.globalNamed x.1 = some x.2.1 ∧ (Tryd.prog.globals[x.2.1]?).map (·.type) = some 31) →
    ∃ pa : List Addr, pa.length = l.length ∧ (∀ (i : Nat) (x : String × Nat × List UInt8) (a : Addr), l[i]? = some x → pa[i]? = some a → SentAt W x.2.1 a) ∧ pa.Nodup ∧ ∀ a ∈ pa, MemPlace.cell a.block a.off ∈ ps
  | [], ps, _, _, _, _ => ⟨[], rfl, fun i x a h => by simp at h, List.nodup_nil, fun a h => by simp at h⟩
  | (n, k, tx) :: r, ps, h, hnd, hrows, hg => by
    obtain ⟨g, t, cs, fuel, p, q, hg0, ht0, hv0, hd0, hq, rfl⟩ := h
    obtain ⟨hk1, hk2⟩ := hg (n, k, tx) (by simp)
    obtain rfl := Option.some.inj (hk1.symm.trans hg0)
    obtain rfl := Option.some.inj (hk2.symm.trans ht0)
    obtain ⟨l0⟩ := cs
    have ok0 : ∀ u v, l0 = [.iface u v] → Value.okWide Tryd.prog W .any 0 u v := fun u v e => by
      subst e
      exact (hrows k 0 (by simp [MemPlace.row])).2 u v (by simpa using World.var?_cell hk1 hv0 0)
    obtain ⟨a0, s0, rfl, hc0, hs0, hz0, rfl⟩ := errorString_of_trod Tryd.underlying31 errRow Tryd.underlying130 Tryd.underlying145 rfl rfl Tryd.underlying9 errCells strCells hd0 ok0
    have hnd' := hnd
    rw [List.append_assoc] at hnd'
    have hq' : q.Nodup := (List.nodup_append.1 (List.nodup_append.1 hnd').2.1).2.1
    obtain ⟨pa, e1, e2, e3, e4⟩ := sents_of r q hq hq' (fun b off hm => hrows b off (List.mem_append_right _ hm)) (fun x hx => hg x (List.mem_cons_of_mem _ hx))
    have hin : MemPlace.cell a0.block a0.off ∈ MemPlace.row a0 1 := by simp [MemPlace.row]
    refine ⟨a0 :: pa, by simp [e1], ?_, ?_, ?_⟩
    · intro i x a hx ha
      cases i with
      | zero =>
        simp only [List.getElem?_cons_zero, Option.some.injEq] at hx ha
        subst hx ha
        exact ⟨by simpa using World.var?_cell hk1 hv0 0, (hrows a0.block a0.off (by simp [hin])).1, s0, hc0⟩
      | succ i =>
        simp only [List.getElem?_cons_succ] at hx ha
        exact e2 i x a hx ha
    · refine List.nodup_cons.2 ⟨fun hm => ?_, e3⟩
      have h1 := e4 a0 hm
      have h2 := (List.nodup_append.1 (List.nodup_append.1 hnd').2.1).2.2 _ hin _ h1
      exact h2 rfl
    · intro a ha
      rcases List.mem_cons.1 ha with rfl | ha
      · simp [hin]
      · simp [e4 a ha]
theorem sents_met {W : World} (l : List (String × Nat × List UInt8)) (h : laidMet Tryd.prog (l.map fun x => (x.1, sentD x.2.2)) W) (hg : ∀ x ∈ l, Tryd.prog.globalNamed x.1 = some x.2.1 ∧ (Tryd.prog.globals[x.2.1]?).map (·.type) = some 31) :
    ∃ pa : List Addr, pa.length = l.length ∧ (∀ (i : Nat) (x : String × Nat × List UInt8) (a : Addr), l[i]? = some x → pa[i]? = some a → SentAt W x.2.1 a) ∧ pa.Nodup := by
  obtain ⟨ps, h1, h2, h3⟩ := h
  obtain ⟨pa, e1, e2, e3, _⟩ := sents_of l ps h1 h2 h3 hg
  exact ⟨pa, e1, e2, e3⟩
def sRow : Nat → String × Nat × List UInt8
  | 1 => ("fingerpost/api.ErrText", 4, [102, 105, 110, 103, 101, 114, 112, 111, 115, 116, 58, 32, 116, 101, 120, 116])
  | 2 => ("fingerpost/api.ErrBound", 3, [102, 105, 110, 103, 101, 114, 112, 111, 115, 116, 58, 32, 98, 111, 117, 110, 100])
  | 3 => ("fingerpost/api.ErrShape", 7, [102, 105, 110, 103, 101, 114, 112, 111, 115, 116, 58, 32, 115, 104, 97, 112, 101])
  | 4 => ("fingerpost/api.ErrKind", 6, [102, 105, 110, 103, 101, 114, 112, 111, 115, 116, 58, 32, 107, 105, 110, 100])
  | 5 => ("fingerpost/api.ErrName", 1, [102, 105, 110, 103, 101, 114, 112, 111, 115, 116, 58, 32, 110, 97, 109, 101])
  | 6 => ("fingerpost/api.ErrNone", 9, [102, 105, 110, 103, 101, 114, 112, 111, 115, 116, 58, 32, 110, 111, 110, 101])
  | 7 => ("fingerpost/api.ErrExist", 2, [102, 105, 110, 103, 101, 114, 112, 111, 115, 116, 58, 32, 101, 120, 105, 115, 116])
  | 8 => ("fingerpost/api.ErrFull", 0, [102, 105, 110, 103, 101, 114, 112, 111, 115, 116, 58, 32, 102, 117, 108, 108])
  | 9 => ("fingerpost/api.ErrArgs", 5, [102, 105, 110, 103, 101, 114, 112, 111, 115, 116, 58, 32, 97, 114, 103, 115])
  | 10 => ("fingerpost/api.ErrOrder", 99999, [102, 105, 110, 103, 101, 114, 112, 111, 115, 116, 58, 32, 111, 114, 100, 101, 114])
  | 11 => ("fingerpost/api.ErrSum", 99999, [102, 105, 110, 103, 101, 114, 112, 111, 115, 116, 58, 32, 115, 117, 109])
  | _ => ("", 0, [])
theorem sRow_ok {c : Nat} (h1 : 1 ≤ c) (h2 : c ≤ 11) (h3 : (sRow c).2.1 ≠ 99999) : Tryd.prog.globalNamed (sRow c).1 = some (sRow c).2.1 ∧ (Tryd.prog.globals[(sRow c).2.1]?).map (·.type) = some 31 := by
  rcases (by omega : c = 1 ∨ c = 2 ∨ c = 3 ∨ c = 4 ∨ c = 5 ∨ c = 6 ∨ c = 7 ∨ c = 8 ∨ c = 9 ∨ c = 10 ∨ c = 11) with rfl | rfl | rfl | rfl | rfl | rfl | rfl | rfl | rfl | rfl | rfl <;> first | exact absurd rfl h3 | exact ⟨by kernel_rfl, by kernel_rfl⟩
theorem sRow_g {c : Nat} (h1 : 1 ≤ c) (h2 : c ≤ 11) : (sRow c).2.1 = gE c := by
  rcases (by omega : c = 1 ∨ c = 2 ∨ c = 3 ∨ c = 4 ∨ c = 5 ∨ c = 6 ∨ c = 7 ∨ c = 8 ∨ c = 9 ∨ c = 10 ∨ c = 11) with rfl | rfl | rfl | rfl | rfl | rfl | rfl | rfl | rfl | rfl | rfl <;> rfl
def sentL (codes : List Nat) : List (String × DataW Unit) := codes.map fun c => ((sRow c).1, sentD (sRow c).2.2)
theorem sent_noHandle (t : List UInt8) : (sentD t).handleName? = none := by
  unfold sentD DataW.handleName?
  simp
theorem met_plain {W : World} {codes : List Nat} (h : laidMetH Tryd.prog (sentL codes) W) : laidMet Tryd.prog (sentL codes) W := by
  have h1 := (laidMetH_iff.1 h).1
  rw [List.filter_eq_self.2 fun x hx => by
    obtain ⟨c, _, rfl⟩ := List.mem_map.1 hx
    simp [sent_noHandle]] at h1
  exact h1
def evOf (ad : Nat → Addr) (c : Nat) : Value := .iface 130 (.pointer (some (ad c)))
theorem sents_ad {W : World} (codes : List Nat) (hc : ∀ c ∈ codes, 1 ≤ c ∧ c ≤ 11 ∧ (sRow c).2.1 ≠ 99999) (h : laidMet Tryd.prog (sentL codes) W) :
    ∃ ad : Nat → Addr, (∀ c ∈ codes, SentAt W (gE c) (ad c)) ∧ ∀ c ∈ codes, ∀ d ∈ codes, ad c = ad d → c = d := by
  obtain ⟨pa, h1, h2, h3⟩ := sents_met (codes.map sRow) (by simpa [sentL, List.map_map, Function.comp_def] using h) (fun x hx => by
    obtain ⟨c, hm, rfl⟩ := List.mem_map.1 hx
    exact sRow_ok (hc c hm).1 (hc c hm).2.1 (hc c hm).2.2)
  rw [List.length_map] at h1
  have hix : ∀ c ∈ codes, ∃ a, pa[codes.idxOf c]? = some a := fun c hm => by
    have := List.idxOf_lt_length_of_mem hm
    exact ⟨_, List.getElem?_eq_getElem (by omega)⟩
  refine ⟨fun c => (pa[codes.idxOf c]?).getD ⟨0, 0, none⟩, fun c hm => ?_, fun c hm d hd e => ?_⟩
  · obtain ⟨a, ha⟩ := hix c hm
    have hi := List.idxOf_lt_length_of_mem hm
    have := h2 (codes.idxOf c) (sRow c) a (by rw [List.getElem?_map, List.getElem?_eq_getElem hi]; simp) ha
    rw [sRow_g (hc c hm).1 (hc c hm).2.1] at this
    simp only [ha, Option.getD_some]
    exact this
  · obtain ⟨a, ha⟩ := hix c hm
    obtain ⟨b, hb⟩ := hix d hd
    simp only [ha, hb, Option.getD_some] at e
    subst e
    have l1 := List.idxOf_lt_length_of_mem hm
    have l2 := List.idxOf_lt_length_of_mem hd
    have hii : codes.idxOf c = codes.idxOf d := (List.getElem?_inj (by omega) h3).1 (ha.trans hb.symm)
    have g1 : codes[codes.idxOf c]'l1 = c := by simp
    have g2 : codes[codes.idxOf d]'l2 = d := by simp
    rw [← g1, ← g2]
    congr 1
end Go.Proofs.YtamblahkckaaaaaDoor
namespace Go.Proofs.YtamblahkckaaaaaDoor
open Go Go.RowKit
structure PF where
  name : ByteArray
  params : List Int
  ret : Int
structure PS where
  kind : ByteArray
  x : Int
  y : Int
  args : List Int
structure PP where
  vars : List ByteArray
  funs : List PF
  stmts : List PS
structure ElR (n0 : Nat) (v : Value) (n : Nat) (E : Nat → Addr → Prop) : Prop where
  form : ∃ a cap, v = .slice a n cap ∧ n ≤ cap ∧ (cap : Int) ≤ 9223372036854775807 ∧ (0 < n → ∃ y, a = some y) ∧ ∀ y, a = some y → 0 < n → y.block < n0 ∧ ∀ i, i < n → E i y
theorem ElR.mono {n0 n1 n : Nat} {v : Value} {E F : Nat → Addr → Prop} (h : ElR n0 v n E) (hn : n0 ≤ n1) (hE : ∀ i y, i < n → y.block < n0 → E i y → F i y) : ElR n1 v n F := by
  obtain ⟨a, cap, h1, h2, h3, h4, h5⟩ := h
  refine ⟨a, cap, h1, h2, h3, h4, fun y hy h0 => ⟨Nat.lt_of_lt_of_le (h5 y hy h0).1 hn, fun i hi => hE i y hi (h5 y hy h0).1 ((h5 y hy h0).2 i hi)⟩⟩
def StrsR (w : World) (n0 : Nat) (v : Value) (l : List ByteArray) : Prop := ElR n0 v l.length fun i y => ∀ s, l[i]? = some s → w.cell? (y.add i) = some (.string s)
def IntsR (w : World) (n0 : Nat) (v : Value) (l : List Int) : Prop := ElR n0 v l.length fun i y => ∀ s, l[i]? = some s → w.cell? (y.add i) = some (.int .i64 s)
def FunsR (w : World) (n0 : Nat) (v : Value) (l : List PF) : Prop := ElR n0 v l.length fun i y => ∀ f, l[i]? = some f → ∃ pv, w.cell? (y.add (i * 3)) = some (.string f.name) ∧ w.cell? ((y.add (i * 3)).add 1) = some pv ∧ w.cell? ((y.add (i * 3)).add 2) = some (.int .i64 f.ret) ∧ IntsR w n0 pv f.params
def StmtsR (w : World) (n0 : Nat) (v : Value) (l : List PS) : Prop := ElR n0 v l.length fun i y => ∀ s, l[i]? = some s → ∃ av, w.cell? (y.add (i * 4)) = some (.string s.kind) ∧ w.cell? ((y.add (i * 4)).add 1) = some (.int .i64 s.x) ∧ w.cell? ((y.add (i * 4)).add 2) = some (.int .i64 s.y) ∧ w.cell? ((y.add (i * 4)).add 3) = some av ∧ IntsR w n0 av s.args
structure ProgR (w : World) (n0 : Nat) (v1 v2 v3 : Value) (P : PP) : Prop where
  vars : StrsR w n0 v1 P.vars
  funs : FunsR w n0 v2 P.funs
  stmts : StmtsR w n0 v3 P.stmts
def Old (n0 : Nat) (w w' : World) : Prop := Keep (fun b => n0 ≤ b) w w'
theorem Old.refl (n0 : Nat) (w : World) : Old n0 w w := Keep.refl _ _
theorem Old.trans {n0 : Nat} {a b c : World} (h : Old n0 a b) (k : Old n0 b c) : Old n0 a c := Keep.trans h k
theorem Ext.old {w w' : World} (h : Ext w w') (n0 : Nat) : Old n0 w w' := h.keep _
theorem Old.cellx {n0 : Nat} {w w' : World} (h : Old n0 w w') {x : Addr} {v : Value} (hc : w.cell? x = some v) (hx : x.block < n0) : w'.cell? x = some v := Keep.cellx h hc (by omega)
theorem StrsR.old {w w' : World} {n0 : Nat} {v : Value} {l : List ByteArray} (h : StrsR w n0 v l) (k : Old n0 w w') : StrsR w' n0 v l :=
  ElR.mono h (Nat.le_refl _) fun i y _ hy hE s hs => k.cellx (hE s hs) (by rw [add_block]; exact hy)
theorem IntsR.old {w w' : World} {n0 : Nat} {v : Value} {l : List Int} (h : IntsR w n0 v l) (k : Old n0 w w') : IntsR w' n0 v l :=
  ElR.mono h (Nat.le_refl _) fun i y _ hy hE s hs => k.cellx (hE s hs) (by rw [add_block]; exact hy)
theorem FunsR.old {w w' : World} {n0 : Nat} {v : Value} {l : List PF} (h : FunsR w n0 v l) (k : Old n0 w w') : FunsR w' n0 v l :=
  ElR.mono h (Nat.le_refl _) fun i y _ hy hE s hs => by
    obtain ⟨pv, h1, h2, h3, h4⟩ := hE s hs
    exact ⟨pv, k.cellx h1 (by rw [add_block]; exact hy), k.cellx h2 (by rw [add_block, add_block]; exact hy), k.cellx h3 (by rw [add_block, add_block]; exact hy), h4.old k⟩
theorem StmtsR.old {w w' : World} {n0 : Nat} {v : Value} {l : List PS} (h : StmtsR w n0 v l) (k : Old n0 w w') : StmtsR w' n0 v l :=
  ElR.mono h (Nat.le_refl _) fun i y _ hy hE s hs => by
    obtain ⟨pv, h1, h2, h3, h4, h5⟩ := hE s hs
    exact ⟨pv, k.cellx h1 (by rw [add_block]; exact hy), k.cellx h2 (by rw [add_block, add_block]; exact hy), k.cellx h3 (by rw [add_block, add_block]; exact hy), k.cellx h4 (by rw [add_block, add_block]; exact hy), h5.old k⟩
theorem ProgR.old {w w' : World} {n0 : Nat} {v1 v2 v3 : Value} {P : PP} (h : ProgR w n0 v1 v2 v3 P) (k : Old n0 w w') : ProgR w' n0 v1 v2 v3 P := ⟨h.vars.old k, h.funs.old k, h.stmts.old k⟩
theorem ProgR.ext {w w' : World} {n0 : Nat} {v1 v2 v3 : Value} {P : PP} (h : ProgR w n0 v1 v2 v3 P) (k : Ext w w') : ProgR w' n0 v1 v2 v3 P := h.old (k.old _)
theorem IntsR.ints {w : World} {n0 : Nat} {a : Option Addr} {n cap : Nat} {l : List Int} (h : IntsR w n0 (.slice a n cap) l) (hi : ∀ i, l.getD i 0 ≤ 9223372036854775807) : Ints w a l.length l := by
  obtain ⟨a', cap', h1, h2, h3, h4, h5⟩ := h
  obtain ⟨rfl, rfl, rfl⟩ : a = a' ∧ n = l.length ∧ cap = cap' := by simpa using h1
  refine ⟨rfl, h4, fun x hx i hi => ?_, hi⟩
  rw [(h5 x hx (by omega)).2 i hi (l[i]'hi) (List.getElem?_eq_getElem hi)]
  simp [List.getD_eq_getElem?_getD, hi]
def eqB (s t : ByteArray) : Bool := s.toList == t.toList
def memB (s : ByteArray) (l : List ByteArray) : Bool := l.any fun t => eqB s t
def dupS (l : List ByteArray) : Bool := (List.range l.length).any fun i => memB (l.getD i ⟨#[]⟩) (l.take i)
def dupI (l : List Int) : Bool := (List.range l.length).any fun i => decide (l.getD i 0 ∈ l.take i)
def PP.inV (P : PP) (n : Int) : Bool := !(decide (n < 0) || decide ((P.vars.length : Int) ≤ n))
def PP.allV (P : PP) (l : List Int) : Bool := l.all P.inV
set_option maxRecDepth 100000 in
set_option maxHeartbeats 800000 in
theorem indexs_any (v : Value) (l : List ByteArray) (s : ByteArray) (w : World) (n0 : Nat) (h : StrsR w n0 v l) : Calls Tryd.prog 46 #[v, .string s] w fun e w' => ∃ r : Int, e = .returned (.int .i64 r) ∧ IdxR (memB s l = true) r ∧ w = w' := by
  obtain ⟨a, cap, rfl, h2, h3, h4, h5⟩ := h
  have H4 := hid h4
  have H5 := hid h5
  have hml : (l.length : Int) ≤ 9223372036854775807 := by omega
  clear h2 h3 h4 h5
  go_enter Tryd.func46, Tryd.ntmps46
  go_wp2
  go_loop [8] (fun t8 => ∃ k : Nat, t8 = .int .i64 (k : Int) ∧ k ≤ l.length ∧ ∀ j t, j < k → l[j]? = some t → eqB s t = false) (fun t8 => l.length - (intOf t8).toNat)
  case atStart => exact ⟨0, rfl, Nat.zero_le _, fun j t h => by omega⟩
  case round =>
    obtain ⟨k, rfl, hk, hne⟩ := hrel
    have Hne := hid hne
    clear hne
    by_cases hlt : k < l.length
    · obtain ⟨y, rfl⟩ := H4.out (by omega)
      have hxk : l[k]? = some (l[k]'hlt) := List.getElem?_eq_getElem hlt
      obtain ⟨t, ht⟩ : ∃ t, t = l[k]'hlt := ⟨_, rfl⟩
      rw [← ht] at hxk
      have hc := (H5.out y rfl (by omega)).2 k hlt t hxk
      have Hxk := hid hxk
      clear hxk ht
      cases he : eqB s t with
      | true =>
        have Hin := hid (IdxR.yes (k := k) (show memB s l = true from List.any_eq_true.2 ⟨t, List.mem_of_getElem? Hxk.out, he⟩) (by omega))
        unfold eqB at he
        go_wp2
        go_ret
        exact ⟨(k : Int), rfl, Hin.out, rfl⟩
      | false =>
        have Hf := hid he
        unfold eqB at he
        go_wp2
        refine ⟨⟨k + 1, by go_num, by omega, fun j u hj hu => ?_⟩, by simp [intOf]; omega⟩
        by_cases hjk : j = k
        · subst hjk
          obtain rfl := Option.some.inj (Hxk.out.symm.trans hu)
          exact Hf.out
        · exact Hne.out j u (by omega) hu
    · obtain rfl : k = l.length := by omega
      have Hnot := hid (IdxR.no (show ¬ memB s l = true from fun hm => by
        obtain ⟨t, ht, e⟩ := List.any_eq_true.1 hm
        obtain ⟨j, hj, e2⟩ := List.mem_iff_getElem.1 ht
        rw [Hne.out j t hj (by rw [List.getElem?_eq_getElem hj, e2])] at e
        cases e))
      go_wp2
      go_ret
      exact ⟨(-1 : Int), rfl, Hnot.out, rfl⟩
set_option maxRecDepth 100000 in
set_option maxHeartbeats 800000 in
theorem containss_any (v : Value) (l : List ByteArray) (s : ByteArray) (w : World) (n0 : Nat) (h : StrsR w n0 v l) : Calls Tryd.prog 33 #[v, .string s] w fun e w' => e = .returned (.bool (memB s l)) ∧ w = w' := by
  have H := hid (indexs_any v l s w n0 h)
  obtain ⟨a, cap, rfl, _⟩ := h
  go_enter Tryd.func33, Tryd.ntmps33
  go_wp2_with fail
  refine H.out.mono ?_
  intro e w1 hx
  obtain ⟨r, rfl, hiff, rfl⟩ := hx
  have hr := hiff.1
  have Hiff := hid hiff.2
  clear hiff H
  go_wp2
  go_ret
  refine ⟨congrArg (fun n => Ending.returned (Value.bool n)) ?_, rfl⟩
  have h1 := Hiff.out
  cases hv : memB s l with
  | true => rw [hv] at h1; simpa using h1
  | false => rw [hv] at h1; simpa using h1
set_option maxRecDepth 100000 in
set_option maxHeartbeats 800000 in
theorem indexi_any (v : Value) (l : List Int) (s : Int) (w : World) (n0 : Nat) (h : IntsR w n0 v l) : Calls Tryd.prog 70 #[v, .int .i64 s] w fun e w' => ∃ r : Int, e = .returned (.int .i64 r) ∧ IdxR (s ∈ l) r ∧ w = w' := by
  obtain ⟨a, cap, rfl, h2, h3, h4, h5⟩ := h
  have H4 := hid h4
  have H5 := hid h5
  have hml : (l.length : Int) ≤ 9223372036854775807 := by omega
  clear h2 h3 h4 h5
  go_enter Tryd.func70, Tryd.ntmps70
  go_wp2
  go_loop [8] (fun t8 => ∃ k : Nat, t8 = .int .i64 (k : Int) ∧ k ≤ l.length ∧ ∀ j t, j < k → l[j]? = some t → s ≠ t) (fun t8 => l.length - (intOf t8).toNat)
  case atStart => exact ⟨0, rfl, Nat.zero_le _, fun j t h => by omega⟩
  case round =>
    obtain ⟨k, rfl, hk, hne⟩ := hrel
    have Hne := hid hne
    clear hne
    by_cases hlt : k < l.length
    · obtain ⟨y, rfl⟩ := H4.out (by omega)
      have hxk : l[k]? = some (l[k]'hlt) := List.getElem?_eq_getElem hlt
      obtain ⟨t, ht⟩ : ∃ t, t = l[k]'hlt := ⟨_, rfl⟩
      rw [← ht] at hxk
      have hc := (H5.out y rfl (by omega)).2 k hlt t hxk
      have Hxk := hid hxk
      clear hxk ht
      by_cases he : s = t
      · subst he
        have Hin := hid (IdxR.yes (k := k) (List.mem_of_getElem? Hxk.out) (by omega))
        go_wp2
        go_ret
        exact ⟨(k : Int), rfl, Hin.out, rfl⟩
      · have Hf := hid he
        go_wp2
        refine ⟨⟨k + 1, by go_num, by omega, fun j u hj hu => ?_⟩, by simp [intOf]; omega⟩
        by_cases hjk : j = k
        · subst hjk
          obtain rfl := Option.some.inj (Hxk.out.symm.trans hu)
          exact Hf.out
        · exact Hne.out j u (by omega) hu
    · obtain rfl : k = l.length := by omega
      have Hnot := hid (IdxR.no (show ¬ s ∈ l from fun ht => by
        obtain ⟨j, hj, e2⟩ := List.mem_iff_getElem.1 ht
        exact Hne.out j s hj (by rw [List.getElem?_eq_getElem hj, e2]) rfl))
      go_wp2
      go_ret
      exact ⟨(-1 : Int), rfl, Hnot.out, rfl⟩
set_option maxRecDepth 100000 in
set_option maxHeartbeats 800000 in
theorem containsi_any (v : Value) (l : List Int) (s : Int) (w : World) (n0 : Nat) (h : IntsR w n0 v l) : Calls Tryd.prog 49 #[v, .int .i64 s] w fun e w' => e = .returned (.bool (decide (s ∈ l))) ∧ w = w' := by
  have H := hid (indexi_any v l s w n0 h)
  obtain ⟨a, cap, rfl, _⟩ := h
  go_enter Tryd.func49, Tryd.ntmps49
  go_wp2_with fail
  refine H.out.mono ?_
  intro e w1 hx
  obtain ⟨r, rfl, hiff, rfl⟩ := hx
  have hr := hiff.1
  have Hiff := hid hiff.2
  clear hiff H
  go_wp2
  go_ret
  refine ⟨?_, rfl⟩
  exact congrArg (fun n => Ending.returned (Value.bool n)) (decide_eq_decide.2 Hiff.out)
theorem IntsR.take {w : World} {n0 : Nat} {a : Option Addr} {n cap : Nat} {l : List Int} (h : IntsR w n0 (.slice a n cap) l) (i : Nat) (hi : i ≤ l.length) : IntsR w n0 (.slice a i cap) (l.take i) := by
  obtain ⟨a', cap', h1, h2, h3, h4, h5⟩ := h
  obtain ⟨rfl, rfl, rfl⟩ : a = a' ∧ n = l.length ∧ cap = cap' := by simpa using h1
  have hl : (l.take i).length = i := by simp; omega
  unfold IntsR
  rw [hl]
  refine ⟨a, cap, rfl, by omega, h3, fun h0 => h4 (by omega), fun y hy h0 => ⟨(h5 y hy (by omega)).1, fun j hj s hs => (h5 y hy (by omega)).2 j (by omega) s ?_⟩⟩
  rwa [List.getElem?_take, if_pos hj] at hs
theorem StrsR.take {w : World} {n0 : Nat} {a : Option Addr} {n cap : Nat} {l : List ByteArray} (h : StrsR w n0 (.slice a n cap) l) (i : Nat) (hi : i ≤ l.length) : StrsR w n0 (.slice a i cap) (l.take i) := by
  obtain ⟨a', cap', h1, h2, h3, h4, h5⟩ := h
  obtain ⟨rfl, rfl, rfl⟩ : a = a' ∧ n = l.length ∧ cap = cap' := by simpa using h1
  have hl : (l.take i).length = i := by simp; omega
  unfold StrsR
  rw [hl]
  refine ⟨a, cap, rfl, by omega, h3, fun h0 => h4 (by omega), fun y hy h0 => ⟨(h5 y hy (by omega)).1, fun j hj s hs => (h5 y hy (by omega)).2 j (by omega) s ?_⟩⟩
  rwa [List.getElem?_take, if_pos hj] at hs
set_option maxRecDepth 100000 in
set_option maxHeartbeats 800000 in
theorem twice_any (v : Value) (l : List Int) (w : World) (n0 : Nat) (h : IntsR w n0 v l) : Calls Tryd.prog 35 #[v] w fun e w' => e = .returned (.bool (dupI l)) ∧ w = w' := by
  have HI := hid h
  obtain ⟨a, cap, rfl, h2, h3, h4, h5⟩ := h
  have H4 := hid h4
  have H5 := hid h5
  have hml : (l.length : Int) ≤ 9223372036854775807 := by omega
  clear h4 h5
  go_enter Tryd.func35, Tryd.ntmps35
  go_wp2
  go_loop [7] (fun t7 => ∃ k : Nat, t7 = .int .i64 (k : Int) ∧ k ≤ l.length ∧ ∀ j, j < k → ¬ l.getD j 0 ∈ l.take j) (fun t7 => l.length - (intOf t7).toNat)
  case atStart => exact ⟨0, rfl, Nat.zero_le _, fun j h => by omega⟩
  case round =>
    obtain ⟨k, rfl, hk, hne⟩ := hrel
    have Hne := hid hne
    clear hne
    by_cases hlt : k < l.length
    · obtain ⟨y, rfl⟩ := H4.out (by omega)
      have hxk : l[k]? = some (l.getD k 0) := by simp [List.getD_eq_getElem?_getD, hlt]
      have hc := (H5.out y rfl (by omega)).2 k hlt _ hxk
      have HC := hid (containsi_any _ _ (l.getD k 0) w n0 (HI.out.take k hk))
      obtain ⟨t, ht⟩ : ∃ t, t = l.getD k 0 := ⟨_, rfl⟩
      rw [← ht] at hc HC
      have Ht := hid ht
      clear ht hxk
      go_wp2_with fail
      refine HC.out.mono ?_
      intro e w1 hx
      obtain ⟨rfl, rfl⟩ := hx
      clear HC
      by_cases he : t ∈ l.take k
      · have Hin : Hid (dupI l = true) := hid (List.any_eq_true.2 ⟨k, List.mem_range.2 hlt, by simp only [decide_eq_true_eq]; rw [← Ht.out]; exact he⟩)
        rw [decide_eq_true he]
        go_wp2
        go_ret
        exact ⟨by rw [Hin.out]; rfl, rfl⟩
      · have Hf := hid he
        rw [decide_eq_false he]
        clear he
        go_wp2
        refine ⟨⟨k + 1, by go_num, by omega, fun j hj => ?_⟩, by simp [intOf]; omega⟩
        by_cases hjk : j = k
        · subst hjk; rw [← Ht.out]; exact Hf.out
        · exact Hne.out j (by omega)
    · obtain rfl : k = l.length := by omega
      have Hnot : Hid (dupI l = false) := hid (List.any_eq_false.2 fun j hj => by simp only [decide_eq_true_eq]; exact Hne.out j (List.mem_range.1 hj))
      go_wp2
      go_ret
      exact ⟨by rw [Hnot.out]; rfl, rfl⟩
end Go.Proofs.YtamblahkckaaaaaDoor
