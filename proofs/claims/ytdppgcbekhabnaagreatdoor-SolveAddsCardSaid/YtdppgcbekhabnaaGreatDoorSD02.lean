/- Texts of one proof, put together: F6 FP Ow2 Par F7 F8 F9 FA FB MP L1 MQ. -/
import Derived.Test.YtdppgcbekhabnaaGreatDoorSD01
import Derived.Lib.IndexBytes
import Derived.MapKept
import Derived.Maps.OwnSet
import Derived.Maps.Keyed

/- The frame: it is written. -/
namespace Go.Proofs.YtdppgcbekhabnaaGreatDoor
set_option linter.unusedSimpArgs false
set_option linter.unusedVariables false
open Go Go.RowKit

/-- The body of a frame's text; the text. -/
def Fr.body (f : Fr) : List UInt8 := [f.kind, UInt8.ofNat f.fr.toNat, UInt8.ofNat f.to.toNat] ++ high4 f.seq.toNat ++ [UInt8.ofNat f.nums.length] ++ f.nums.flatMap fun n => high4 n.toNat
def Fr.text (f : Fr) : List UInt8 := f.body ++ low4 (crc f.body)

end Go.Proofs.YtdppgcbekhabnaaGreatDoor



/- The frame, plainly: its text tells it; a text is a frame's or none. -/
namespace Go.Proofs.YtdppgcbekhabnaaGreatDoor
set_option linter.unusedSimpArgs false
set_option linter.unusedVariables false
open Go Go.RowKit

theorem ofNat_inj {a b : Nat} (ha : a < 256) (hb : b < 256) (h : UInt8.ofNat a = UInt8.ofNat b) : a = b := by
  have := congrArg UInt8.toNat h
  simp only [UInt8.toNat_ofNat'] at this
  omega
/-- All that a text can hold. -/
structure Fr.Fits (f : Fr) : Prop where
  fr : 0 ≤ f.fr ∧ f.fr ≤ 255
  to : 0 ≤ f.to ∧ f.to ≤ 255
  seq : 0 ≤ f.seq ∧ f.seq ≤ 4294967295
  nums : ∀ n ∈ f.nums, 0 ≤ n ∧ n ≤ 4294967295
/-! ### what a text tells -/
def frOf (s : ByteArray) : Fr := ⟨at8 s 0, (at8 s 1).toNat, (at8 s 2).toNat, four s 3, (List.range (at8 s 7).toNat).map fun i => (four s (8 + 4 * i) : Int)⟩
def sumOk (s : ByteArray) : Bool := low4 (crc (s.data.toList.take (s.size - 4))) == s.data.toList.drop (s.size - 4)
def sizeOk (s : ByteArray) : Bool := decide (12 ≤ s.size) && decide (s.size = 12 + 4 * (at8 s 7).toNat)
/-- The error of a text. -/
def textCode (s : ByteArray) : Nat := if sizeOk s then (if sumOk s then (frOf s).code else 11) else 1

end Go.Proofs.YtdppgcbekhabnaaGreatDoor



/- Slices that grow, all of one's own: nothing of old is written. -/
namespace Go.Proofs.YtdppgcbekhabnaaGreatDoor
set_option linter.unusedSimpArgs false
set_option linter.unusedVariables false
open Go Go.RowKit
section
variable {P : Program} {ops : Array Oper}
end
end Go.Proofs.YtdppgcbekhabnaaGreatDoor



/- Operations that make memory and wait for none of each other: any order, one end. -/
namespace Go.Proofs.YtdppgcbekhabnaaGreatDoor
set_option linter.unusedSimpArgs false
set_option linter.unusedVariables false
open Go Go.RowKit
section
variable {P : Program} {ops : Array Oper} {X : Nat → Prop} {w0 : World} {Q : Act → World → Prop} {L : List Nat}

def GenR (w : World) (R : Value → World → Prop) : Value → World → Prop := fun v w' => Ext w w' ∧ R v w'
/-- One alone. -/
theorem Flow.one {listed : Array Bool} {C : World → Prop} {a : Act} (i : Nat) (o : Oper) (ho : ops[i]? = some o) (hr : (Region.ready .any ops listed == [i]) = true) (R : Value → World → Prop)
    (hR : ∀ v w w', R v w → Ext w w' → R v w') (h : ∀ w, C w → Keep X w0 w → does P ops o a w (ActR X w0 R))
    (k : ∀ v, (∃ w, R v w) → Flow P ops w0 Q X L (listed.setIfInBounds i true) (R v) (a.put o.dst v)) : Flow P ops w0 Q X L listed C a :=
  Flow.acts [i] hr (by simp) (fun _ => o) (fun _ => R) (fun _ => hR) (fun j hj => by obtain rfl : j = i := by simpa using hj
                                                                                     exact ⟨ho, h⟩) (fun j hj => by obtain rfl : j = i := by simpa using hj
                                                                                                                    exact k)
end
end Go.Proofs.YtdppgcbekhabnaaGreatDoor



/- The frame: a right one is written. -/
namespace Go.Proofs.YtdppgcbekhabnaaGreatDoor
set_option linter.unusedSimpArgs false
set_option linter.unusedVariables false
open Go Go.RowKit

/-- A row of bytes of the call's own. -/
def BRow (w0 w : World) (v : Value) (l : List UInt8) : Prop := w.ownsRow w0.heap.size 5 1 v l.length (bcells l)
theorem own_ext {w w' : World} {base : Nat} {e : TypeId} {size : Nat} {v : Value} {n : Nat} {xs : List Value} (h : w.ownsRow base e size v n xs) (x : Ext w w') : w'.ownsRow base e size v n xs := by
  obtain ⟨h1, h2⟩ := h
  refine ⟨h1, h2.imp id ?_⟩
  rintro ⟨g, cap, cur, rfl, hb, hg, h3⟩
  exact ⟨g, cap, cur, rfl, hb, x.get hg, h3⟩
theorem BRow.ext {w0 w w' : World} {v : Value} {l : List UInt8} (h : BRow w0 w v l) (x : Ext w w') : BRow w0 w' v l := own_ext h x
theorem BRow.made (w0 w : World) (h : w0.heap.size ≤ w.heap.size) (l : List UInt8) (hl : l.length ≤ 1000) : BRow w0 (w.alloc (.cells (bcells l).toArray 5)) (.slice (some ⟨w.heap.size, 0, none⟩) l.length l.length) l :=
  ⟨by simp [bcells], .inr ⟨w.heap.size, l.length, _, rfl, h, heap_alloc_new w _, Nat.le_refl _, by simp only [maxLen]; omega, by simp [bcells], by simp [bcells, List.take_of_length_le]⟩⟩

/-- The region's two makers. -/
def HighR (n : Nat) : Value → World → Prop := fun v w => ∃ g, v = .slice (some ⟨g, 0, none⟩) 4 4 ∧ Blk w g (bcells (high4 n)).toArray 5
theorem Blk.av {w : World} {b : Nat} {c : Array Value} {e : TypeId} (h : Blk w b c e) (i : Nat) {v : Value} (hv : c[i]? = some v) : w.cell? ⟨b, i, none⟩ = some v := (h.cell i).trans hv
theorem BRow.text {w0 w : World} {v : Value} {l : List UInt8} (h : BRow w0 w v l) (hl : l ≠ []) : ∃ g cap cur, v = .slice (some ⟨g, 0, none⟩) l.length cap ∧ Blk w g cur 5 ∧ ∀ j, j < l.length → cur[j]? = (bcells l)[j]? := by
  rcases h.2 with ⟨_, h0⟩ | ⟨g, cap, cur, hv, _, hg, hnc, _, hcs, htake⟩
  · exact absurd (List.length_eq_zero_iff.1 h0) hl
  · refine ⟨g, cap, cur, hv, hg, fun j hj => ?_⟩
    rw [← htake, List.getElem?_take, if_pos (by omega)]
    simp

end Go.Proofs.YtdppgcbekhabnaaGreatDoor



/- The frame: it is read. -/
namespace Go.Proofs.YtdppgcbekhabnaaGreatDoor
set_option linter.unusedSimpArgs false
set_option linter.unusedVariables false
open Go Go.RowKit

def fr0 : Value := .agg #[.int .u8 0, .int .i64 0, .int .i64 0, .int .i64 0, .slice none 0 0]

def frz : Array Value := #[.int .u8 0, .int .i64 0, .int .i64 0, .int .i64 0, .slice none 0 0]
theorem Keep.cellx {X : Nat → Prop} {w w' : World} (h : Keep X w w') {x : Addr} {v : Value} (hc : w.cell? x = some v) (hx : ¬ X x.block) : w'.cell? x = some v := by
  have hb := h.block x.block (cell_lt hc) hx
  unfold World.cell? at *
  rw [hb]
  exact hc
theorem store5 {w : World} {n : Nat} {a0 a1 a2 a3 a4 b0 b1 b2 b3 b4 : Value} {e : TypeId} (h : Blk w n #[a0, a1, a2, a3, a4] e) :
    Blk (((((w.setCell ⟨n, 0, none⟩ b0).setCell ⟨n, 1, none⟩ b1).setCell ⟨n, 2, none⟩ b2).setCell ⟨n, 3, none⟩ b3).setCell ⟨n, 4, none⟩ b4) n #[b0, b1, b2, b3, b4] e := by
  have := ((((h.set 0 b0).set 1 b1).set 2 b2).set 3 b3).set 4 b4
  simpa using this
theorem store5_keep (w : World) (n : Nat) (b0 b1 b2 b3 b4 : Value) : Keep (fun b => b = n) w (((((w.setCell ⟨n, 0, none⟩ b0).setCell ⟨n, 1, none⟩ b1).setCell ⟨n, 2, none⟩ b2).setCell ⟨n, 3, none⟩ b3).setCell ⟨n, 4, none⟩ b4) :=
  have k : ∀ (u : World) i v, Keep (fun b => b = n) w u → Keep (fun b => b = n) w (u.setCell ⟨n, i, none⟩ v) := fun _ _ v h => h.set rfl v
  k _ _ _ (k _ _ _ (k _ _ _ (k _ _ _ (k _ _ _ (Keep.refl _ w)))))

theorem Errs.at_ {w : World} {ev : Nat → Value} (h : Errs w ev) {W : World} (x : Ext w W) (i c : Nat) (hc : w.cell? ⟨i, 0, none⟩ = some (ev c)) : ∀ w1, Keep (fun b => b = w.heap.size) W w1 → w1.cell? ⟨i, 0, none⟩ = some (ev c) :=
  fun _ hk => hk.cellx (x.cellx hc) (fun e => by have := cell_lt hc; simp only at e this; omega)


end Go.Proofs.YtdppgcbekhabnaaGreatDoor



/- The frame: what the sum tells. -/
namespace Go.Proofs.YtdppgcbekhabnaaGreatDoor
set_option linter.unusedSimpArgs false
set_option linter.unusedVariables false
open Go Go.RowKit

end Go.Proofs.YtdppgcbekhabnaaGreatDoor



/- The frame: a text whose sum is right is read, number by number, and checked. -/
namespace Go.Proofs.YtdppgcbekhabnaaGreatDoor
set_option linter.unusedSimpArgs false
set_option linter.unusedVariables false
open Go Go.RowKit

def icells (l : List Int) : List Value := l.map fun n => Value.int .i64 n
theorem ints_info : (Tryz.prog.info? 3).map (fun i => (i.zero, i.size, i.bytes)) = some (some (.int .i64 0), 1, 8) := by kernel_rfl
/-- A row of numbers of the call's own. -/
def IRow (base : Nat) (w : World) (v : Value) (l : List Int) : Prop := w.ownsRow base 3 1 v l.length (icells l)
theorem icells_append (l m : List Int) : icells (l ++ m) = icells l ++ icells m := by simp [icells]
theorem icells_one {l : List Int} : ∀ u ∈ icells l, u.oneCell' = true := by
  intro u hu
  simp only [icells, List.mem_map] at hu
  obtain ⟨b, _, rfl⟩ := hu
  rfl
theorem IRow.ext {base : Nat} {w w' : World} {v : Value} {l : List Int} (h : IRow base w v l) (x : Ext w w') : IRow base w' v l := own_ext h x
theorem IRow.keep {base : Nat} {X : Nat → Prop} {w w' : World} {v : Value} {l : List Int} (h : IRow base w v l) (k : Keep X w w') (hx : ∀ b, v.ownBlock = some b → ¬ X b) : IRow base w' v l := by
  obtain ⟨h1, h2⟩ := h
  refine ⟨h1, h2.imp id ?_⟩
  rintro ⟨g, cap, cur, rfl, hb, hg, h3⟩
  exact ⟨g, cap, cur, rfl, hb, Keep.get k hg (hx g rfl), h3⟩
theorem IRow.nil (base : Nat) (w : World) : IRow base w (.slice none 0 0) [] := World.ownsRow_nil _ _ _ _
theorem IRow.lt {base : Nat} {w : World} {v : Value} {l : List Int} (h : IRow base w v l) {b : Nat} (hb : v.ownBlock = some b) : base ≤ b ∧ b < w.heap.size := World.ownsRow.lt h b hb
theorem IRow.form {base : Nat} {w : World} {v : Value} {l : List Int} (h : IRow base w v l) : ∃ a cap, v = .slice a l.length cap := by
  rcases h.2 with ⟨h2, h3⟩ | ⟨g, cap, cur, h2, _⟩
  · exact ⟨none, 0, by rw [h2, h3]⟩
  · exact ⟨_, _, h2⟩
theorem IRow.ints {base : Nat} {w : World} {a : Option Addr} {n cap : Nat} {l : List Int} (h : IRow base w (.slice a n cap) l) (hi : ∀ i, l.getD i 0 ≤ 9223372036854775807) : Ints w a l.length l := by
  refine ⟨rfl, ?_, ?_, hi⟩
  · intro hp
    rcases h.2 with ⟨h2, h3⟩ | ⟨g, cap, cur, h2, _⟩
    · omega
    · simp only [Value.slice.injEq] at h2; exact ⟨_, h2.1⟩
  · intro x hx i hil
    rcases h.2 with ⟨h2, h3⟩ | ⟨g, cap, cur, h2, hb, hg, hnc, _, hcs, htake⟩
    · omega
    · simp only [Value.slice.injEq] at h2
      obtain ⟨rfl, _, _⟩ := h2
      obtain rfl := Option.some.inj hx
      have hc : Blk w g cur 3 := hg
      rw [show (⟨g, 0, none⟩ : Addr).add i = ⟨g, i, none⟩ from by by_cases h0 : i = 0 <;> simp [Addr.add, h0], hc.cell i]
      have h2 : cur[i]? = (icells l)[i]? := by
        rw [← htake, List.getElem?_take, if_pos (by omega)]
        simp
      rw [h2]
      simp only [icells, List.getElem?_map, List.getElem?_eq_getElem hil, Option.map_some, List.getD_eq_getElem?_getD, Option.getD_some]

def nm (s : ByteArray) (k : Nat) : List Int := (List.range k).map fun i => (four s (8 + 4 * i) : Int)
def DecR (s : ByteArray) (ev : Nat → Value) (w : World) : Ending → World → Prop := fun e w' =>
  if (frOf s).code = 0 then ∃ a cap, e = .returned (.tuple #[frv (frOf s) a cap, .nilIface]) ∧ Ints w' a (frOf s).nums.length (frOf s).nums ∧ Ext w w'
  else e = .returned (.tuple #[fr0, ev (frOf s).code]) ∧ Ext w w'

theorem DecR.yes {s : ByteArray} {ev : Nat → Value} {w w' : World} {b0 : UInt8} {fr to seq : Int} {nums : List Int} {n cap : Nat} {a : Option Addr} (hf : frOf s = ⟨b0, fr, to, seq, nums⟩) (hl : nums.length = n) (hc : Fr.code ⟨b0, fr, to, seq, nums⟩ = 0) (hi : Ints w' a n nums) (hx : Ext w w') :
    DecR s ev w (.returned (.tuple #[.agg #[.int .u8 (b0.toNat : Int), .int .i64 fr, .int .i64 to, .int .i64 seq, .slice a n cap], .nilIface])) w' := by
  subst hl
  unfold DecR
  rw [hf, if_pos hc]
  exact ⟨a, cap, rfl, hi, hx⟩
theorem DecR.no {s : ByteArray} {ev : Nat → Value} {w w' : World} {f : Fr} {v : Value} (hf : frOf s = f) (hc : f.code ≠ 0) (hv : v = ev f.code) (hx : Ext w w') : DecR s ev w (.returned (.tuple #[fr0, v])) w' := by
  unfold DecR
  rw [hf, if_neg hc, hv]
  exact ⟨rfl, hx⟩

end Go.Proofs.YtdppgcbekhabnaaGreatDoor



/- The frame's laws: what they use of their own. -/
namespace Go.Proofs.YtdppgcbekhabnaaGreatDoor
set_option linter.unusedSimpArgs false
set_option linter.unusedVariables false
open Go Go.RowKit

theorem ret_bool {b c : Bool} (h : b = c) : Ending.returned (.bool b) = Ending.returned (.bool c) := by rw [h]
theorem IRow.base {base b2 : Nat} {w : World} {v : Value} {l : List Int} (h : IRow base w v l) (hb : b2 ≤ base) : IRow b2 w v l := by
  obtain ⟨h1, h2⟩ := h
  refine ⟨h1, h2.imp id ?_⟩
  rintro ⟨g, cap, cur, rfl, hg, h3⟩
  exact ⟨g, cap, cur, rfl, Nat.le_trans hb hg, h3⟩
set_option maxRecDepth 100000 in
set_option maxHeartbeats 1600000 in
theorem sameints_any (a b : Option Addr) (n m cap cap2 : Nat) (vs us : List Int) (w : World) (hr : Ints w a n vs) (hr2 : Ints w b m us) (hl : (n : Int) ≤ 9223372036854775807) (hl2 : (m : Int) ≤ 9223372036854775807) :
    Calls Tryz.prog 22 #[.slice a n cap, .slice b m cap2] w fun e w' => e = .returned (.bool (decide (vs = us))) ∧ Ext w w' := by
  have Hr := hid hr
  have Hr2 := hid hr2
  clear hr hr2
  by_cases hnm : n = m
  · subst hnm
    go_enter Tryz.func22, Tryz.ntmps22
    go_wp2
    go_loopw [5] (fun t5 wr => ∃ k : Nat, t5 = .int .i64 (k : Int) ∧ k ≤ n ∧ (∀ j, j < k → vs.getD j 0 = us.getD j 0) ∧ Ext w wr) (fun t5 _ => n - (intOf t5).toNat)
    case atStart => exact ⟨0, rfl, Nat.zero_le _, fun j h => by omega, Ext.refl _⟩
    case round =>
      obtain ⟨k, rfl, hk, hne, hx⟩ := hrel
      have Hne := hid hne
      clear hne
      by_cases hlt : k < n
      · obtain ⟨x, rfl⟩ := Hr.out.sm (by omega)
        obtain ⟨y, rfl⟩ := Hr2.out.sm (by omega)
        have hc : ∀ w1, Keep (fun _ => False) wr w1 → w1.cell? (x.add k) = some (.int .i64 (vs.getD k 0)) := fun w1 hk => hk.cellx (hx.cellx (Hr.out.cl x rfl k hlt)) (fun h => h)
        have hd : ∀ w1, Keep (fun _ => False) wr w1 → w1.cell? (y.add k) = some (.int .i64 (us.getD k 0)) := fun w1 hk => hk.cellx (hx.cellx (Hr2.out.cl y rfl k hlt)) (fun h => h)
        have Heq : Hid (vs.getD k 0 ≠ us.getD k 0 → decide (vs = us) = false) := hid fun h => decide_eq_false fun e => h (by rw [e])
        obtain ⟨p, hp⟩ : ∃ p, p = vs.getD k 0 := ⟨_, rfl⟩
        obtain ⟨q, hq⟩ : ∃ q, q = us.getD k 0 := ⟨_, rfl⟩
        rw [← hp] at hc Heq
        rw [← hq] at hd Heq
        have Hp := hid hp
        have Hq := hid hq
        clear hp hq
        by_cases hpq : p = q
        · subst hpq
          go_wp2
          refine wp_flowT (fun _ => False) (by kernel_rfl) (by kernel_rfl) ?_
          repeat (apply FlowT.d; (intro w1 hk; unfold does; go_simp; (try go_ints); (first | exact DetR.mk | (simp only [↓IntWalk.iteOmega, Oper.doesUpon_value]; exact DetR.mk) | (simp only [↓IntWalk.iteOmega]; go_simp; (try go_ints); exact DetR.mk))); simp only [Act.put, List.setIfInBounds_toArray, List.set_cons_zero, List.set_cons_succ])
          refine FlowT.fin fun w1 hxx hk => ?_
          have hxx2 := hx.trans hxx
          clear hk hc hd hx hxx Heq
          go_wp2
          go_roundw
          case rel => exact ⟨k + 1, by go_num, by omega, fun j hj => by
            by_cases hjk : j = k
            · subst hjk; rw [← Hp.out, ← Hq.out]
            · exact Hne.out j (by omega), hxx2⟩
          case measure => simp [intOf]; omega
        · have Hpq := hid (Heq.out hpq)
          clear Heq
          go_wp2
          refine wp_flowT (fun _ => False) (by kernel_rfl) (by kernel_rfl) ?_
          repeat (apply FlowT.d; (intro w1 hk; unfold does; go_simp; (try go_ints); (first | exact DetR.mk | (simp only [↓IntWalk.iteOmega, Oper.doesUpon_value]; exact DetR.mk) | (simp only [↓IntWalk.iteOmega]; go_simp; (try go_ints); exact DetR.mk))); simp only [Act.put, List.setIfInBounds_toArray, List.set_cons_zero, List.set_cons_succ])
          refine FlowT.fin fun w1 hxx hk => ?_
          have hxx2 := hx.trans hxx
          clear hk hc hd hx hxx
          go_wp2
          go_ret
          exact ⟨ret_bool Hpq.out.symm, hxx2⟩
      · obtain rfl : k = n := by omega
        have hyes : decide (vs = us) = true := decide_eq_true (List.ext_getElem (by rw [Hr.out.ln, Hr2.out.ln]) fun i h1 h2 => by
          have := Hne.out i (by have := Hr.out.ln; omega)
          simpa [List.getD_eq_getElem?_getD, List.getElem?_eq_getElem h1, List.getElem?_eq_getElem h2] using this)
        have Hyes := hid hyes
        clear hyes
        go_wp2
        go_ret
        exact ⟨ret_bool Hyes.out.symm, hx⟩
  · have Hno := hid (decide_eq_false (p := vs = us) fun e => hnm (by rw [← Hr.out.ln, ← Hr2.out.ln, e]))
    have hi : ¬ (n : Int) = (m : Int) := by omega
    go_enter Tryz.func22, Tryz.ntmps22
    go_wp2
    go_ret
    exact ⟨ret_bool Hno.out.symm, Ext.refl _⟩

end Go.Proofs.YtdppgcbekhabnaaGreatDoor



/- A map keyed by ints, its entries in the order in which they came: looked up, written, struck. -/
namespace Go.Proofs.YtdppgcbekhabnaaGreatDoor
set_option linter.unusedSimpArgs false
set_option linter.unusedVariables false
open Go Go.RowKit Go.MapKept

/-- Block b is a map whose entries are m, in their order. -/
def MapAt (w : World) (b : Nat) (m : List (Int × Value)) : Prop := ∃ es clock, w.heap[b]? = some (.map es clock) ∧ es.toList.map (fun x => (x.key, x.val)) = m.map fun x => (Value.int .i64 x.1, x.2)
/-- The first entry at a key. -/
def mfind (m : List (Int × Value)) (k : Int) (i : Nat) : Option (Nat × Value) := match m with
  | [] => none
  | x :: r => if k == x.1 then some (i, x.2) else mfind r k (i + 1)
def mval (m : List (Int × Value)) (k : Int) : Option Value := (mfind m k 0).map (·.2)
theorem MapAt.ext {w w' : World} {b : Nat} {m : List (Int × Value)} (h : MapAt w b m) (x : Ext w w') : MapAt w' b m := by
  obtain ⟨es, c, hb, he⟩ := h
  exact ⟨es, c, Ext.get x hb, he⟩
theorem MapAt.keep {X : Nat → Prop} {w w' : World} {b : Nat} {m : List (Int × Value)} (h : MapAt w b m) (x : Keep X w w') (hx : ¬ X b) : MapAt w' b m := by
  obtain ⟨es, c, hb, he⟩ := h
  exact ⟨es, c, Keep.get x hb hx, he⟩
theorem MapAt.lt {w : World} {b : Nat} {m : List (Int × Value)} (h : MapAt w b m) : b < w.heap.size := by
  obtain ⟨es, c, hb, he⟩ := h
  exact (Array.getElem?_eq_some_iff.1 hb).1
theorem MapAt.ne {w : World} {b g : Nat} {m : List (Int × Value)} (h : MapAt w b m) {c : Array Value} {e : TypeId} (hb : Blk w g c e) : g ≠ b := by
  rintro rfl
  obtain ⟨es, c, h1, _⟩ := h
  have := h1.symm.trans hb
  cases this
theorem MapAt.new (w : World) : MapAt (w.alloc (.map #[] 0)) w.heap.size [] := ⟨#[], 0, heap_alloc_new w _, rfl⟩

section
variable {P : Program} {w : World} {t kt et : TypeId} {b : Nat} {m : List (Int × Value)}
theorem map_setBlock {es : Array MapEntry} {c : Nat} (hb : w.heap[b]? = some (.map es c)) (o : Obj) : Keep (fun k => k = b) w { w with heap := w.heap.setIfInBounds b o } :=
  ⟨rfl, rfl, rfl, by simp, fun k hk hx => (heap_set (o' := o) hb).2 k hx⟩
variable {ops : Array Oper} {Q : Exit → Act → World → Prop} {rest : List Oper} {o : Oper} {a : Act}
end
end Go.Proofs.YtdppgcbekhabnaaGreatDoor



/- Rows of elements of several cells, of one's own: read, written in place, cut; numbers that lie where nobody writes. -/
namespace Go.Proofs.YtdppgcbekhabnaaGreatDoor
set_option linter.unusedSimpArgs false
set_option linter.unusedVariables false
open Go Go.RowKit

section
variable {w : World} {base : Nat} {e : TypeId} {size g n cap : Nat} {xs : List Value}
theorem own_blk (h : w.ownsRow base e size (.slice (some ⟨g, 0, none⟩) n cap) n xs) : ∃ cur, Blk w g cur e ∧ base ≤ g ∧ n ≤ cap ∧ cap ≤ maxLen ∧ cur.size = cap * size ∧ cur.toList.take (n * size) = xs := by
  rcases h.2 with ⟨h1, _⟩ | ⟨g', cap', cur, h1, h2, h3, h4, h5, h6, h7⟩
  · cases h1
  · simp only [Value.slice.injEq, Option.some.injEq, Addr.mk.injEq, and_true] at h1
    obtain ⟨rfl, _, rfl⟩ := h1
    exact ⟨cur, h3, h2, h4, h5, h6, h7⟩
theorem own_of_blk {cur : Array Value} (hb : Blk w g cur e) (h2 : base ≤ g) (h4 : n ≤ cap) (h5 : cap ≤ maxLen) (h6 : cur.size = cap * size) (h7 : cur.toList.take (n * size) = xs) : w.ownsRow base e size (.slice (some ⟨g, 0, none⟩) n cap) n xs := by
  refine ⟨?_, .inr ⟨g, cap, cur, rfl, h2, hb, h4, h5, h6, h7⟩⟩
  rw [← h7, List.length_take, Array.length_toList, h6]
  exact Nat.min_eq_left (Nat.mul_le_mul_right _ h4)
theorem own_get (h : w.ownsRow base e size (.slice (some ⟨g, 0, none⟩) n cap) n xs) (i : Nat) {u : Value} (hu : xs[i]? = some u) : w.cell? ⟨g, i, none⟩ = some u := by
  have := h.cells (g := g) rfl i u hu
  rwa [show (⟨g, 0, none⟩ : Addr).add i = ⟨g, i, none⟩ from by by_cases h0 : i = 0 <;> simp [Addr.add, h0]] at this
theorem own_free (h : w.ownsRow base e size (.slice (some ⟨g, 0, none⟩) n cap) n xs) (i : Nat) : w.frozen? ⟨g, i, none⟩ = false := by
  obtain ⟨cur, hb, _⟩ := own_blk h
  exact hb.free i
theorem own_set (h : w.ownsRow base e size (.slice (some ⟨g, 0, none⟩) n cap) n xs) (i : Nat) (hi : i < xs.length) (v : Value) : (w.setCell ⟨g, i, none⟩ v).ownsRow base e size (.slice (some ⟨g, 0, none⟩) n cap) n (xs.set i v) := by
  obtain ⟨cur, hb, h2, h4, h5, h6, h7⟩ := own_blk h
  refine own_of_blk (hb.set i v) h2 h4 h5 (by simpa using h6) ?_
  rw [Array.toList_setIfInBounds, List.take_set, h7]
theorem row_form {v : Value} (h : w.ownsRow base e size v n xs) : ∃ a c, v = .slice a n c := by
  rcases h.2 with ⟨h2, h3⟩ | ⟨g, cap, cur, h2, _⟩
  · exact ⟨none, 0, by rw [h2, h3]⟩
  · exact ⟨_, _, h2⟩
theorem row_keep {w' : World} {v : Value} {X : Nat → Prop} (h : w.ownsRow base e size v n xs) (k : Keep X w w') (hx : ∀ i, v.ownBlock = some i → ¬ X i) : w'.ownsRow base e size v n xs := by
  obtain ⟨h1, h2⟩ := h
  refine ⟨h1, h2.imp id ?_⟩
  rintro ⟨g, cap, cur, rfl, hb, hg, h3⟩
  exact ⟨g, cap, cur, rfl, hb, Keep.get k hg (hx g rfl), h3⟩
theorem own_some {v : Value} (h : w.ownsRow base e size v n xs) (hn : 0 < n) : ∃ g cap, v = .slice (some ⟨g, 0, none⟩) n cap := by
  rcases h.2 with ⟨_, h1⟩ | ⟨g', cap', cur, h1, _⟩
  · omega
  · exact ⟨g', cap', h1⟩
theorem own_ty {v : Value} (h : w.ownsRow base e size v n xs) {k : Nat} (hk : v.ownBlock = some k) : ∃ c, Blk w k c e := by
  rcases h.2 with ⟨rfl, _⟩ | ⟨g, cap, cur, rfl, _, hg, _⟩
  · simp [Value.ownBlock] at hk
  · simp only [Value.ownBlock, Option.some.injEq] at hk
    subst hk
    exact ⟨cur, hg⟩
end
theorem Blk.inj {w : World} {b : Nat} {c c' : Array Value} {e e' : TypeId} (h : Blk w b c e) (h' : Blk w b c' e') : c = c' ∧ e = e' := by
  unfold Blk at h h'
  rw [h] at h'
  simp only [Option.some.injEq, Obj.cells.injEq, and_true] at h'
  exact h'
theorem Blk.ty_ne {w : World} {a b : Nat} {c c' : Array Value} {e e' : TypeId} (h : Blk w a c e) (h' : Blk w b c' e') (hne : e ≠ e') : a ≠ b := fun q => hne (by subst q; exact (h.inj h').2)

theorem fm_len {α : Type} (f : α → List Value) (m : Nat) (hf : ∀ x, (f x).length = m) (l : List α) : (l.flatMap f).length = l.length * m := by
  induction l with
  | nil => simp
  | cons x l ih => simp only [List.flatMap_cons, List.length_append, hf, ih, List.length_cons, Nat.add_mul]; omega
theorem fm_get {α : Type} (f : α → List Value) (m : Nat) (hf : ∀ x, (f x).length = m) : ∀ (l : List α) (i j : Nat) (x : α), l[i]? = some x → j < m → (l.flatMap f)[i * m + j]? = (f x)[j]?
  | [], i, j, x, h, _ => by simp at h
  | y :: l, 0, j, x, h, hj => by
    simp only [List.getElem?_cons_zero, Option.some.injEq] at h
    subst h
    rw [List.flatMap_cons, Nat.zero_mul, Nat.zero_add, List.getElem?_append_left (by rw [hf]; exact hj)]
  | y :: l, i + 1, j, x, h, hj => by
    have ih := fm_get f m hf l i j x (by simpa using h) hj
    rw [List.flatMap_cons, List.getElem?_append_right (by rw [hf, Nat.add_mul]; omega), hf, ← ih]
    congr 1
    rw [Nat.add_mul]; omega
theorem fm_take {α : Type} (f : α → List Value) (m : Nat) (hf : ∀ x, (f x).length = m) : ∀ (l : List α) (k : Nat), (l.flatMap f).take (k * m) = (l.take k).flatMap f
  | l, 0 => by simp
  | [], k + 1 => by simp
  | y :: l, k + 1 => by
    rw [List.take_succ_cons, List.flatMap_cons, List.flatMap_cons, List.take_append, hf, List.take_of_length_le (by rw [hf, Nat.add_mul]; omega), ← fm_take f m hf l k]
    congr 2
    rw [Nat.add_mul]; omega
theorem fm_drop {α : Type} (f : α → List Value) (m : Nat) (hf : ∀ x, (f x).length = m) : ∀ (l : List α) (k : Nat), (l.flatMap f).drop (k * m) = (l.drop k).flatMap f
  | l, 0 => by simp
  | [], k + 1 => by simp
  | y :: l, k + 1 => by
    rw [List.drop_succ_cons, List.flatMap_cons, List.drop_append, hf, List.drop_of_length_le (by rw [hf, Nat.add_mul]; omega), ← fm_drop f m hf l k, List.nil_append]
    congr 1
    rw [Nat.add_mul]; omega
/-- Block b holds numbers. -/
def IsInt (w : World) (b : Nat) : Prop := ∃ c z, w.heap[b]? = some (.cells c 3 z)
theorem IsInt.keep {X : Nat → Prop} {w w' : World} {b : Nat} (h : IsInt w b) (k : Keep X w w') (hx : ¬ X b) : IsInt w' b := by
  obtain ⟨c, z, h⟩ := h
  exact ⟨c, z, Keep.get k h hx⟩
theorem IsInt.not {w : World} {b : Nat} {c : Array Value} {e : TypeId} (h : Blk w b c e) (hne : e ≠ 3) : ¬ IsInt w b := by
  rintro ⟨c', z, h'⟩
  unfold Blk at h
  rw [h] at h'
  simp only [Option.some.injEq, Obj.cells.injEq] at h'
  exact hne h'.2.1

/-- A slice of numbers that lies where nobody writes: in what came in, or in a block of numbers that is not the one that is written. -/
structure NumsAt (w : World) (n0 : Nat) (t : Option Nat) (v : Value) (l : List Int) : Prop where
  form : ∃ a cap, v = .slice a l.length cap ∧ Ints w a l.length l ∧ ∀ x, a = some x → 0 < l.length → x.block < n0 ∨ (IsInt w x.block ∧ t ≠ some x.block)
/-- What may be written beside them. -/
def Wr (w : World) (n0 : Nat) (t : Option Nat) (X : Nat → Prop) : Prop := ∀ b, X b → b < w.heap.size → n0 ≤ b ∧ (IsInt w b → t = some b)
theorem Ints.keep {X : Nat → Prop} {w w' : World} {a : Option Addr} {len : Nat} {vs : List Int} (h : Ints w a len vs) (k : Keep X w w') (hx : ∀ x, a = some x → 0 < len → ¬ X x.block) : Ints w' a len vs :=
  ⟨h.ln, h.sm, fun y hy i hi => k.cellx (h.cl y hy i hi) (by rw [add_block]; exact hx y hy (by omega)), h.hi⟩
theorem Ints.blt {w : World} {a : Option Addr} {len : Nat} {vs : List Int} (h : Ints w a len vs) {x : Addr} (hx : a = some x) (hl : 0 < len) : x.block < w.heap.size := by
  have := cell_lt (h.cl x hx 0 hl)
  rwa [add_block] at this
section
variable {w w' : World} {n0 : Nat} {t : Option Nat} {v : Value} {l : List Int}
theorem NumsAt.keep {X : Nat → Prop} (h : NumsAt w n0 t v l) (k : Keep X w w') (hx : Wr w n0 t X) : NumsAt w' n0 t v l := by
  obtain ⟨a, cap, rfl, hi, hb⟩ := h
  have hne : ∀ x, a = some x → 0 < l.length → ¬ X x.block := fun x hx' hl hX => by
    obtain ⟨h1, h2⟩ := hx _ hX (hi.blt hx' hl)
    rcases hb x hx' hl with h3 | h3
    · omega
    · exact h3.2 (h2 h3.1)
  exact ⟨a, cap, rfl, hi.keep k hne, fun x hx' hl => (hb x hx' hl).imp id fun h => ⟨h.1.keep k (hne x hx' hl), h.2⟩⟩
theorem Wr.none {w : World} {n0 : Nat} {t : Option Nat} : Wr w n0 t fun _ => False := fun _ h => h.elim
theorem NumsAt.ext (h : NumsAt w n0 t v l) (x : Ext w w') : NumsAt w' n0 t v l := h.keep (x.keep fun _ => False) Wr.none
theorem NumsAt.turn (h : NumsAt w n0 t v l) {t' : Option Nat} (ht : ∀ b, t' = some b → t = some b ∨ w.heap.size ≤ b) : NumsAt w n0 t' v l := by
  obtain ⟨a, cap, rfl, hi, hb⟩ := h
  refine ⟨a, cap, rfl, hi, fun x hx hl => (hb x hx hl).imp id fun h => ⟨h.1, fun e => ?_⟩⟩
  rcases ht _ e with h1 | h1
  · exact h.2 h1
  · have := hi.blt hx hl; omega
theorem NumsAt.of_row {base : Nat} (h : IRow base w v l) (hi : ∀ i, l.getD i 0 ≤ 9223372036854775807) (ht : ∀ b, v.ownBlock = some b → t ≠ some b) : NumsAt w n0 t v l := by
  obtain ⟨a, cap, rfl⟩ := h.form
  refine ⟨a, cap, rfl, h.ints hi, fun x hx hl => .inr ⟨?_, ht _ (by subst hx; rfl)⟩⟩
  subst hx
  obtain ⟨c, hc⟩ := own_ty (show w.ownsRow base 3 1 _ l.length (icells l) from h) (k := x.block) rfl
  exact ⟨c, _, hc⟩
theorem NumsAt.hi (h : NumsAt w n0 t v l) : ∀ i, l.getD i 0 ≤ 9223372036854775807 := by
  obtain ⟨a, cap, rfl, hi, hb⟩ := h
  exact hi.hi
end

/-- A frame with the slice in which its numbers lie. -/
structure FV where
  f : Fr
  v : Value
def FV.cells (x : FV) : List Value := [.int .u8 (x.f.kind.toNat : Int), .int .i64 x.f.fr, .int .i64 x.f.to, .int .i64 x.f.seq, x.v]
def FV.val (x : FV) : Value := .agg #[.int .u8 (x.f.kind.toNat : Int), .int .i64 x.f.fr, .int .i64 x.f.to, .int .i64 x.f.seq, x.v]
def FV.At (w : World) (n0 : Nat) (t : Option Nat) (x : FV) : Prop := NumsAt w n0 t x.v x.f.nums
theorem FV.cells_len (x : FV) : x.cells.length = 5 := rfl
theorem FV.At.form {w : World} {n0 : Nat} {t : Option Nat} {x : FV} (h : x.At w n0 t) : ∃ a cap, x.val = frv x.f a cap ∧ x.v = .slice a x.f.nums.length cap ∧ Ints w a x.f.nums.length x.f.nums := by
  obtain ⟨a, cap, hv, hi, _⟩ := NumsAt.form h
  exact ⟨a, cap, by unfold FV.val frv; rw [hv], hv, hi⟩
/-- A row of frames of one's own. -/
structure FRow (w : World) (n0 : Nat) (t : Option Nat) (base : Nat) (e : TypeId) (v : Value) (fs : List FV) : Prop where
  row : w.ownsRow base e 5 v fs.length (fs.flatMap FV.cells)
  nums : ∀ x ∈ fs, x.At w n0 t
theorem FRow.nil (w : World) (n0 : Nat) (t : Option Nat) (base : Nat) (e : TypeId) : FRow w n0 t base e (.slice none 0 0) [] := ⟨World.ownsRow_nil _ _ _ _, fun _ h => by cases h⟩
theorem FRow.keep {w w' : World} {n0 : Nat} {t : Option Nat} {base : Nat} {e : TypeId} {v : Value} {fs : List FV} {X : Nat → Prop} (h : FRow w n0 t base e v fs) (k : Keep X w w') (hx : Wr w n0 t X) (hr : ∀ b, v.ownBlock = some b → ¬ X b) : FRow w' n0 t base e v fs :=
  ⟨row_keep h.row k hr, fun x hm => NumsAt.keep (h.nums x hm) k hx⟩
theorem FRow.ext {w w' : World} {n0 : Nat} {t : Option Nat} {base : Nat} {e : TypeId} {v : Value} {fs : List FV} (h : FRow w n0 t base e v fs) (x : Ext w w') : FRow w' n0 t base e v fs := h.keep (x.keep fun _ => False) Wr.none fun _ _ h => h
theorem FRow.form {w : World} {n0 : Nat} {t : Option Nat} {base : Nat} {e : TypeId} {v : Value} {fs : List FV} (h : FRow w n0 t base e v fs) : ∃ a cap, v = .slice a fs.length cap := row_form h.row
end Go.Proofs.YtdppgcbekhabnaaGreatDoor



/- A map by its keys: what is found at a key (keys of any kind that the reader reads). -/
namespace Go.Proofs.YtdppgcbekhabnaaGreatDoor
set_option linter.unusedSimpArgs false
set_option linter.unusedVariables false
open Go Go.RowKit Go.MapKept
open Go.Maps (Keyed)

section
variable {κ : Type} [DecidableEq κ]
/-- What stands at a key. -/
def kget (m : List (κ × Value)) (k : κ) : Option Value := (m.find? fun x => decide (x.1 = k)).map (·.2)
theorem kget_none {m : List (κ × Value)} {k : κ} (h : ∀ x ∈ m, x.1 ≠ k) : kget m k = none := by
  unfold kget
  rw [List.find?_eq_none.2 fun x hx => by simpa using h x hx]; rfl
theorem kget_at {m : List (κ × Value)} (hn : (m.map (·.1)).Nodup) {j : Nat} {k : κ} {v : Value} (h : m[j]? = some (k, v)) : kget m k = some v := by
  induction m generalizing j with
  | nil => simp at h
  | cons x r ih =>
    rw [List.map_cons, List.nodup_cons] at hn
    unfold kget
    rw [List.find?_cons]
    cases j with
    | zero =>
      rw [List.getElem?_cons_zero] at h
      obtain rfl := Option.some.inj h
      simp
    | succ j =>
      rw [List.getElem?_cons_succ] at h
      have hx : x.1 ≠ k := fun e => hn.1 (by rw [e]; exact List.mem_map.2 ⟨(k, v), List.mem_of_getElem? h, rfl⟩)
      rw [decide_eq_false hx]
      exact ih hn.2 h
/-- Block b is a map; f tells what is found in it. -/
def KMap (P : Program) (kt : TypeId) (enc : κ → Value) (w : World) (b : Nat) (f : κ → Option Value) : Prop :=
  ∃ es clock, ∃ m : List (κ × Value), w.heap[b]? = some (.map es clock) ∧ es.toList.map (fun x => (x.key, x.val)) = m.map (fun x => (enc x.1, x.2)) ∧ (m.map (·.1)).Nodup ∧ (∀ x ∈ m, ∃ l, keyOf P kt (enc x.1) = some l) ∧ ∀ k, kget m k = f k
variable {P : Program} {kt : TypeId} {enc : κ → Value} {w : World} {b : Nat} {f : κ → Option Value}
theorem KMap.keep {X : Nat → Prop} {w' : World} (h : KMap P kt enc w b f) (x : Keep X w w') (hx : ¬ X b) : KMap P kt enc w' b f := by
  obtain ⟨es, c, m, hb, he⟩ := h
  exact ⟨es, c, m, Keep.get x hb hx, he⟩
theorem KMap.ext {w' : World} (h : KMap P kt enc w b f) (x : Ext w w') : KMap P kt enc w' b f := by
  obtain ⟨es, c, m, hb, he⟩ := h
  exact ⟨es, c, m, Ext.get x hb, he⟩
theorem KMap.lt (h : KMap P kt enc w b f) : b < w.heap.size := by
  obtain ⟨es, c, m, hb, he⟩ := h
  exact (Array.getElem?_eq_some_iff.1 hb).1
theorem KMap.ne {g : Nat} (h : KMap P kt enc w b f) {c : Array Value} {e : TypeId} (hb : Blk w g c e) : g ≠ b := by
  rintro rfl
  obtain ⟨es, c, m, h1, _⟩ := h
  have := h1.symm.trans hb
  cases this
theorem KMap.eq {g : κ → Option Value} (h : KMap P kt enc w b f) (e : ∀ k, f k = g k) : KMap P kt enc w b g := by
  obtain ⟨es, c, m, h1, h2, h3, h4, h5⟩ := h
  exact ⟨es, c, m, h1, h2, h3, h4, fun k => (h5 k).trans (e k)⟩
theorem KMap.new (P : Program) (kt : TypeId) (enc : κ → Value) (w : World) : KMap P kt enc (w.alloc (.map #[] 0)) w.heap.size (fun _ => none) := ⟨#[], 0, [], heap_alloc_new w _, rfl, List.nodup_nil, fun _ h => by simp at h, fun _ => rfl⟩
omit [DecidableEq κ] in
theorem KMap.found (K : Keyed P kt) (hinj : ∀ a c : κ, enc a = enc c → a = c) {es : Array MapEntry} {m : List (κ × Value)} (he : es.toList.map (fun x => (x.key, x.val)) = m.map (fun x => (enc x.1, x.2))) (hn : (m.map (·.1)).Nodup) (hk : ∀ x ∈ m, ∃ l, keyOf P kt (enc x.1) = some l)
    {k : κ} {l : Lit} (hl : keyOf P kt (enc k) = some l) : ((Instr.findKey kt (enc k) es.toList).run P w = .ok none w ∧ ∀ x ∈ m, x.1 ≠ k) ∨ ∃ j e v, (Instr.findKey kt (enc k) es.toList).run P w = .ok (some (j, v)) w ∧ m[j]? = some (k, v) ∧ es[j]? = some e ∧ e.key = enc k := by
  have hall : ∀ e ∈ es.toList, ∃ l, keyOf P kt e.key = some l := fun e h => by
    have : (e.key, e.val) ∈ m.map (fun x => (enc x.1, x.2)) := by rw [← he]; exact List.mem_map.2 ⟨e, h, rfl⟩
    obtain ⟨x, hx, h2⟩ := List.mem_map.1 this
    obtain ⟨l, hl⟩ := hk x hx
    exact ⟨l, by rw [← (Prod.mk.inj h2).1]; exact hl⟩
  rcases K.find w hl es.toList hall with ⟨h1, h2⟩ | ⟨j, e, h1, h2, h3⟩
  · refine .inl ⟨h1, fun x hx hxk => ?_⟩
    have : (enc x.1, x.2) ∈ es.toList.map (fun x => (x.key, x.val)) := by rw [he]; exact List.mem_map.2 ⟨x, hx, rfl⟩
    obtain ⟨e, he1, he2⟩ := List.mem_map.1 this
    exact h2 e he1 (by rw [(Prod.mk.inj he2).1, hxk])
  · have h2' : es.toList[j]? = some e := by simpa using h2
    have h4 : (es.toList.map (fun x => (x.key, x.val)))[j]? = some (e.key, e.val) := by rw [List.getElem?_map, h2']; rfl
    rw [he, List.getElem?_map] at h4
    obtain ⟨x, hx⟩ : ∃ x, m[j]? = some x := by
      cases hx : m[j]? with
      | none => rw [hx] at h4; simp at h4
      | some x => exact ⟨x, rfl⟩
    rw [hx] at h4
    obtain ⟨q1, q2⟩ := Prod.mk.inj (Option.some.inj h4)
    refine .inr ⟨j, e, e.val, h1, ?_, by simpa using h2', h3⟩
    rw [hx]
    have : x.1 = k := hinj _ _ (by rw [q1, h3])
    rw [← this, ← q2]
theorem run_kmap_lookup (K : Keyed P kt) (hinj : ∀ a c : κ, enc a = enc c → a = c) {t et : TypeId} (ht : P.underlying t = some (.map kt et)) (h : KMap P kt enc w b f) {k : κ} {l : Lit} (hl : keyOf P kt (enc k) = some l) {z : Value} (hz : (zeroValue et).run P w = .ok z w) (c : Bool) :
    (Instr.lookup t (.map (some b)) (enc k) c).run P w = .ok (if c then .tuple #[(f k).getD z, .bool (f k).isSome] else (f k).getD z) w := by
  obtain ⟨es, cl, m, hb, he, hn, hk, hf⟩ := h
  unfold Instr.lookup
  rcases KMap.found (w := w) K hinj he hn hk hl with ⟨h1, h2⟩ | ⟨j, e, v, h1, h2, h3, h4⟩
  · rw [← hf k, kget_none h2]
    cases c <;> simp [run_underlying ht, Go.MapKept.run_getObj_map hb, K.check w _ hl, h1, hz, Result.andThen]
  · rw [← hf k, kget_at hn h2]
    cases c <;> simp [run_underlying ht, Go.MapKept.run_getObj_map hb, K.check w _ hl, h1, Result.andThen]
theorem run_kmap_put (K : Keyed P kt) (hinj : ∀ a c : κ, enc a = enc c → a = c) {t et : TypeId} (ht : P.underlying t = some (.map kt et)) (h : KMap P kt enc w b f) {k : κ} {l : Lit} (hl : keyOf P kt (enc k) = some l) (v : Value) :
    ∃ w', (Instr.mapUpdate t (.map (some b)) (enc k) v).run P w = .ok () w' ∧ KMap P kt enc w' b (fun q => if q = k then some v else f q) ∧ Keep (fun q => q = b) w w' := by
  obtain ⟨es, cl, m, hb, he, hn, hk, hf⟩ := h
  rcases KMap.found (w := w) K hinj he hn hk hl with ⟨h1, h2⟩ | ⟨j, e, u, h1, h2, h3, h4⟩
  · refine ⟨_, ?_, ⟨es.push { key := enc k, val := v, born := cl }, cl + 1, m ++ [(k, v)], (heap_set hb).1, ?_, ?_, ?_, fun q => ?_⟩, map_setBlock hb _⟩
    · unfold Instr.mapUpdate
      simp [run_underlying ht, Go.MapKept.run_getObj_map hb, K.check w _ hl, h1, Go.MapKept.run_setObj_map _ hb, Result.andThen]
    · simp [he]
    · rw [List.map_append, List.nodup_append]
      refine ⟨hn, by simp, fun a ha c hc => ?_⟩
      obtain ⟨x, hx, rfl⟩ := List.mem_map.1 ha
      simp at hc
      rw [hc]; exact h2 x hx
    · intro x hx
      rcases List.mem_append.1 hx with hx | hx
      · exact hk x hx
      · rw [List.mem_singleton.1 hx]; exact ⟨l, hl⟩
    · show _ = if q = k then some v else f q
      rw [← hf q]
      unfold kget
      rw [List.find?_append]
      by_cases hq : q = k
      · subst hq
        rw [if_pos rfl, List.find?_eq_none.2 fun x hx => by simpa using h2 x hx]
        simp
      · rw [if_neg hq]
        have : List.find? (fun x : κ × Value => decide (x.1 = q)) [(k, v)] = none := by
          rw [List.find?_eq_none]
          intro x hx
          rw [List.mem_singleton.1 hx]
          simpa using fun e => hq e.symm
        rw [this]
        cases List.find? (fun x : κ × Value => decide (x.1 = q)) m <;> rfl
  · have hj : j < m.length := by
      rcases Nat.lt_or_ge j m.length with g | g
      · exact g
      · rw [List.getElem?_eq_none g] at h2; cases h2
    have hkeys : (m.set j (k, v)).map (·.1) = m.map (·.1) := by
      rw [List.map_set]
      refine List.ext_getElem? fun i => ?_
      rw [List.getElem?_set]
      by_cases hi : j = i
      · subst hi
        rw [if_pos rfl, List.getElem?_map, h2]; simp [hj]
      · rw [if_neg hi]
    refine ⟨_, ?_, ⟨es.modify j fun e => { e with key := enc k, val := v }, cl, m.set j (k, v), (heap_set hb).1, ?_, ?_, ?_, fun q => ?_⟩, map_setBlock hb _⟩
    · unfold Instr.mapUpdate
      simp [run_underlying ht, Go.MapKept.run_getObj_map hb, K.check w _ hl, h1, h3, h4, K.stays w hl, Go.MapKept.run_setObj_map _ hb, Result.andThen]
    · have e1 : (es.modify j fun e => { e with key := enc k, val := v }).toList.map (fun x => (x.key, x.val)) = (es.toList.map (fun x => (x.key, x.val))).set j (enc k, v) := by
        refine List.ext_getElem? fun i => ?_
        rw [List.getElem?_map, List.getElem?_set, Array.getElem?_toList, Array.getElem?_modify]
        have hjs : j < (es.toList.map (fun x => (x.key, x.val))).length := by rw [he, List.length_map]; exact hj
        by_cases hi : j = i
        · subst hi
          rw [if_pos rfl, if_pos rfl, if_pos hjs, h3]; rfl
        · rw [if_neg hi, if_neg hi, List.getElem?_map, Array.getElem?_toList]
      rw [e1, he, List.map_set]
    · rw [hkeys]; exact hn
    · intro x hx
      rcases List.mem_or_eq_of_mem_set hx with hx | rfl
      · exact hk x hx
      · exact ⟨l, hl⟩
    · show _ = if q = k then some v else f q
      by_cases hq : q = k
      · subst hq
        rw [if_pos rfl]
        exact kget_at (by rw [hkeys]; exact hn) (j := j) (by rw [List.getElem?_set_self hj])
      · rw [if_neg hq, ← hf q]
        cases hg : kget m q with
        | none =>
          refine kget_none fun x hx => ?_
          rcases List.mem_or_eq_of_mem_set hx with hx | rfl
          · intro e
            unfold kget at hg
            have := List.find?_eq_none.1 (Option.map_eq_none_iff.1 hg) x hx
            simp [e] at this
          · exact fun e => hq e.symm
        | some u2 =>
          unfold kget at hg
          obtain ⟨x, hx, hx2⟩ := Option.map_eq_some_iff.1 hg
          have hxq : x.1 = q := by simpa using List.find?_some hx
          obtain ⟨i, hi⟩ := List.getElem?_of_mem (List.mem_of_find?_eq_some hx)
          have hij : j ≠ i := by
            rintro rfl
            rw [h2] at hi
            obtain rfl := Option.some.inj hi
            exact hq hxq.symm
          refine kget_at (by rw [hkeys]; exact hn) (j := i) ?_
          rw [List.getElem?_set_ne hij, hi, ← hxq, ← hx2]
variable {ops : Array Oper} {Q : Exit → Act → World → Prop} {rest : List Oper} {o : Oper} {a : Act}
theorem does_kmap_put (hg : o.guard = none) (mo x vo : Operand) (t et : TypeId) (hop : o.op = Op.mapUpdate t mo x vo) (K : Keyed P kt) (hinj : ∀ a c : κ, enc a = enc c → a = c) (ht : P.underlying t = some (.map kt et)) (h : KMap P kt enc w b f)
    (hm : a.eval mo = .map (some b)) (k : κ) (hx : a.eval x = enc k) {l : Lit} (hl : keyOf P kt (enc k) = some l) (v : Value) (hv : a.eval vo = v) {R : Value → World → Prop}
    (hK : ∀ w', KMap P kt enc w' b (fun q => if q = k then some v else f q) → Keep (fun q => q = b) w w' → R undef w') : does P ops o a w R := by
  obtain ⟨w', hrun, r1, r2⟩ := run_kmap_put K hinj ht h hl v
  unfold does
  rw [if_pos (by simp [Region.wanted, hg])]
  simp [execOp, hop, hm, hx, hv, hrun, Result.andThen]
  exact hK w' r1 r2
end
end Go.Proofs.YtdppgcbekhabnaaGreatDoor

