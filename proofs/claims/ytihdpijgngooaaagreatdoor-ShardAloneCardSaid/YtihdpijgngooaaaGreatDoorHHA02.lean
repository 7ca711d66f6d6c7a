/- Texts of one proof, put together: F7 F8 UP U1 US SE U2. -/
import Derived.Test.YtihdpijgngooaaaGreatDoorHHA01
import Derived.Test.YtihdpijgngooaaaGreatDoorProg
import Derived.Shelf.Strings.SlTrimAscii
import Derived.Stop.LaidErr
import Derived.Stop.ErrReads
import Derived.Stop.Joined
import Derived.MakeChecks
import Derived.LaidSub
set_option linter.unusedSimpArgs false
set_option linter.unusedVariables false
namespace Go.Proofs.YtihdpijgngooaaaGreatDoor
open Go Go.RowKit
def BRow (w0 w : World) (v : Value) (l : List UInt8) : Prop := w.ownsRow w0.heap.size 5 1 v l.length (bcells l)
theorem own_ext {w w' : World} {base : Nat} {e : TypeId} {size : Nat} {v : Value} {n : Nat} {xs : List Value} (h : w.ownsRow base e size v n xs) (x : Ext w w') : w'.ownsRow base e size v n xs := by
  obtain ⟨h1, h2⟩ := h
  refine ⟨h1, h2.imp id ?_⟩
  rintro ⟨g, cap, cur, rfl, hb, hg, h3⟩
  exact ⟨g, cap, cur, rfl, hb, x.get hg, h3⟩
theorem BRow.ext {w0 w w' : World} {v : Value} {l : List UInt8} (h : BRow w0 w v l) (x : Ext w w') : BRow w0 w' v l := own_ext h x
theorem BRow.made (w0 w : World) (h : w0.heap.size ≤ w.heap.size) (l : List UInt8) (hl : l.length ≤ 1000) : BRow w0 (w.alloc (.cells (bcells l).toArray 5)) (.slice (some ⟨w.heap.size, 0, none⟩) l.length l.length) l :=
  ⟨by simp [bcells], .inr ⟨w.heap.size, l.length, _, rfl, h, heap_alloc_new w _, Nat.le_refl _, by simp only [maxLen]; omega, by simp [bcells], by simp [bcells, List.take_of_length_le]⟩⟩
def HighR (n : Nat) : Value → World → Prop := fun v w => ∃ g, v = .slice (some ⟨g, 0, none⟩) 4 4 ∧ Blk w g (bcells (high4 n)).toArray 5
theorem Blk.av {w : World} {b : Nat} {c : Array Value} {e : TypeId} (h : Blk w b c e) (i : Nat) {v : Value} (hv : c[i]? = some v) : w.cell? ⟨b, i, none⟩ = some v := (h.cell i).trans hv
theorem BRow.text {w0 w : World} {v : Value} {l : List UInt8} (h : BRow w0 w v l) (hl : l ≠ []) : ∃ g cap cur, v = .slice (some ⟨g, 0, none⟩) l.length cap ∧ Blk w g cur 5 ∧ ∀ j, j < l.length → cur[j]? = (bcells l)[j]? := by
  rcases h.2 with ⟨_, h0⟩ | ⟨g, cap, cur, hv, _, hg, hnc, _, hcs, htake⟩
  · exact absurd (List.length_eq_zero_iff.1 h0) hl
  · refine ⟨g, cap, cur, hv, hg, fun j hj => ?_⟩
    rw [← htake, List.getElem?_take, if_pos (by omega)]
    simp
def fr0 : Value := .agg #[.int .u8 0, .int .i64 0, .int .i64 0, .int .i64 0, .slice none 0 0]
def frz : Array Value := #[.int .u8 0, .int .i64 0, .int .i64 0, .int .i64 0, .slice none 0 0]
theorem Keep.cellx {X : Nat → Prop} {w w' : World} (h : Keep X w w') {x : Addr} {v : Value} (hc : w.cell? x = some v) (hx : ¬ X x.block) : w'.cell? x = some v := by
  have hb := h.block x.block (cell_lt hc) hx
  unfold World.cell? at *
  rw [hb]
  exact hc
theorem store5 {w : World} {n : Nat} {a0 a1 a2 a3 a4 b0 b1 b2 b3 b4 : Value} {e : TypeId} (h : Blk w n #[a0, a1, a2, a3, a4] e) :
    Blk (((((w.setCell ⟨n, 0, none⟩ b0).setCell ⟨n, 1, none⟩ b1).setCell ⟨n, 2, none⟩ b2).setCell ⟨n, 3, none⟩ b3).setCell ⟨n, 4, none⟩ b4) n #[b0, b1, b2, b3, b4] e := by
  have := ((((h.set 0 b0).set 1 b1).set 2 b2).set 3 b3).set 4 b4
  simpa using this
theorem store5_keep (w : World) (n : Nat) (b0 b1 b2 b3 b4 : Value) : Keep (fun b => b = n) w (((((w.setCell ⟨n, 0, none⟩ b0).setCell ⟨n, 1, none⟩ b1).setCell ⟨n, 2, none⟩ b2).setCell ⟨n, 3, none⟩ b3).setCell ⟨n, 4, none⟩ b4) :=
  have k : ∀ (u : World) i v, Keep (fun b => b = n) w u → Keep (fun b => b = n) w (u.setCell ⟨n, i, none⟩ v) := fun _ _ v h => h.set rfl v
  k _ _ _ (k _ _ _ (k _ _ _ (k _ _ _ (k _ _ _ (Keep.refl _ w)))))
theorem Keep.tr {X Y : Nat → Prop} {a b c : World} (h : Keep X a b) (k : Keep Y b c) (hx : ∀ n, Y n → a.heap.size ≤ n ∨ X n) : Keep X a c :=
  ⟨k.os.trans h.os, k.tape.trans h.tape, k.output.trans h.output, Nat.le_trans h.size k.size, fun i hi hX => (k.block i (Nat.lt_of_lt_of_le hi h.size) fun hY => (hx i hY).elim (fun h => by omega) hX).trans (h.block i hi hX)⟩
theorem Errs.at_ {w : World} {ev : Nat → Value} (h : Errs w ev) {W : World} (x : Ext w W) (i c : Nat) (hc : w.cell? ⟨i, 0, none⟩ = some (ev c)) : ∀ w1, Keep (fun b => b = w.heap.size) W w1 → w1.cell? ⟨i, 0, none⟩ = some (ev c) :=
  fun _ hk => hk.cellx (x.cellx hc) (fun e => by have := cell_lt hc; simp only at e this; omega)
structure PF where
  name : ByteArray
  params : List Int
  ret : Int
structure PS where
  kind : ByteArray
  x : Int
  y : Int
  args : List Int
structure PP where
  vars : List ByteArray
  funs : List PF
  stmts : List PS
structure ElR (n0 : Nat) (v : Value) (n : Nat) (E : Nat → Addr → Prop) : Prop where
  form : ∃ a cap, v = .slice a n cap ∧ n ≤ cap ∧ (cap : Int) ≤ 9223372036854775807 ∧ (0 < n → ∃ y, a = some y) ∧ ∀ y, a = some y → 0 < n → y.block < n0 ∧ ∀ i, i < n → E i y
theorem ElR.mono {n0 n1 n : Nat} {v : Value} {E F : Nat → Addr → Prop} (h : ElR n0 v n E) (hn : n0 ≤ n1) (hE : ∀ i y, i < n → y.block < n0 → E i y → F i y) : ElR n1 v n F := by
  obtain ⟨a, cap, h1, h2, h3, h4, h5⟩ := h
  refine ⟨a, cap, h1, h2, h3, h4, fun y hy h0 => ⟨Nat.lt_of_lt_of_le (h5 y hy h0).1 hn, fun i hi => hE i y hi (h5 y hy h0).1 ((h5 y hy h0).2 i hi)⟩⟩
def StrsR (w : World) (n0 : Nat) (v : Value) (l : List ByteArray) : Prop := ElR n0 v l.length fun i y => ∀ s, l[i]? = some s → w.cell? (y.add i) = some (.string s)
def IntsR (w : World) (n0 : Nat) (v : Value) (l : List Int) : Prop := ElR n0 v l.length fun i y => ∀ s, l[i]? = some s → w.cell? (y.add i) = some (.int .i64 s)
def FunsR (w : World) (n0 : Nat) (v : Value) (l : List PF) : Prop := ElR n0 v l.length fun i y => ∀ f, l[i]? = some f → ∃ pv, w.cell? (y.add (i * 3)) = some (.string f.name) ∧ w.cell? ((y.add (i * 3)).add 1) = some pv ∧ w.cell? ((y.add (i * 3)).add 2) = some (.int .i64 f.ret) ∧ IntsR w n0 pv f.params
def StmtsR (w : World) (n0 : Nat) (v : Value) (l : List PS) : Prop := ElR n0 v l.length fun i y => ∀ s, l[i]? = some s → ∃ av, w.cell? (y.add (i * 4)) = some (.string s.kind) ∧ w.cell? ((y.add (i * 4)).add 1) = some (.int .i64 s.x) ∧ w.cell? ((y.add (i * 4)).add 2) = some (.int .i64 s.y) ∧ w.cell? ((y.add (i * 4)).add 3) = some av ∧ IntsR w n0 av s.args
structure ProgR (w : World) (n0 : Nat) (v1 v2 v3 : Value) (P : PP) : Prop where
  vars : StrsR w n0 v1 P.vars
  funs : FunsR w n0 v2 P.funs
  stmts : StmtsR w n0 v3 P.stmts
def Old (n0 : Nat) (w w' : World) : Prop := Keep (fun b => n0 ≤ b) w w'
theorem Old.refl (n0 : Nat) (w : World) : Old n0 w w := Keep.refl _ _
theorem Old.trans {n0 : Nat} {a b c : World} (h : Old n0 a b) (k : Old n0 b c) : Old n0 a c := Keep.trans h k
theorem Ext.old {w w' : World} (h : Ext w w') (n0 : Nat) : Old n0 w w' := h.keep _
theorem Old.cellx {n0 : Nat} {w w' : World} (h : Old n0 w w') {x : Addr} {v : Value} (hc : w.cell? x = some v) (hx : x.block < n0) : w'.cell? x = some v := Keep.cellx h hc (by omega)
theorem StrsR.old {w w' : World} {n0 : Nat} {v : Value} {l : List ByteArray} (h : StrsR w n0 v l) (k : Old n0 w w') : StrsR w' n0 v l :=
  ElR.mono h (Nat.le_refl _) fun i y _ hy hE s hs => k.cellx (hE s hs) (by rw [add_block]; exact hy)
theorem IntsR.old {w w' : World} {n0 : Nat} {v : Value} {l : List Int} (h : IntsR w n0 v l) (k : Old n0 w w') : IntsR w' n0 v l :=
  ElR.mono h (Nat.le_refl _) fun i y _ hy hE s hs => k.cellx (hE s hs) (by rw [add_block]; exact hy)
theorem FunsR.old {w w' : World} {n0 : Nat} {v : Value} {l : List PF} (h : FunsR w n0 v l) (k : Old n0 w w') : FunsR w' n0 v l :=
  ElR.mono h (Nat.le_refl _) fun i y _ hy hE s hs => by
    obtain ⟨pv, h1, h2, h3, h4⟩ := hE s hs
    exact ⟨pv, k.cellx h1 (by rw [add_block]; exact hy), k.cellx h2 (by rw [add_block, add_block]; exact hy), k.cellx h3 (by rw [add_block, add_block]; exact hy), h4.old k⟩
theorem StmtsR.old {w w' : World} {n0 : Nat} {v : Value} {l : List PS} (h : StmtsR w n0 v l) (k : Old n0 w w') : StmtsR w' n0 v l :=
  ElR.mono h (Nat.le_refl _) fun i y _ hy hE s hs => by
    obtain ⟨pv, h1, h2, h3, h4, h5⟩ := hE s hs
    exact ⟨pv, k.cellx h1 (by rw [add_block]; exact hy), k.cellx h2 (by rw [add_block, add_block]; exact hy), k.cellx h3 (by rw [add_block, add_block]; exact hy), k.cellx h4 (by rw [add_block, add_block]; exact hy), h5.old k⟩
theorem ProgR.old {w w' : World} {n0 : Nat} {v1 v2 v3 : Value} {P : PP} (h : ProgR w n0 v1 v2 v3 P) (k : Old n0 w w') : ProgR w' n0 v1 v2 v3 P := ⟨h.vars.old k, h.funs.old k, h.stmts.old k⟩
theorem ProgR.ext {w w' : World} {n0 : Nat} {v1 v2 v3 : Value} {P : PP} (h : ProgR w n0 v1 v2 v3 P) (k : Ext w w') : ProgR w' n0 v1 v2 v3 P := h.old (k.old _)
theorem IntsR.ints {w : World} {n0 : Nat} {a : Option Addr} {n cap : Nat} {l : List Int} (h : IntsR w n0 (.slice a n cap) l) (hi : ∀ i, l.getD i 0 ≤ 9223372036854775807) : Ints w a l.length l := by
  obtain ⟨a', cap', h1, h2, h3, h4, h5⟩ := h
  obtain ⟨rfl, rfl, rfl⟩ : a = a' ∧ n = l.length ∧ cap = cap' := by simpa using h1
  refine ⟨rfl, h4, fun x hx i hi => ?_, hi⟩
  rw [(h5 x hx (by omega)).2 i hi (l[i]'hi) (List.getElem?_eq_getElem hi)]
  simp [List.getD_eq_getElem?_getD, hi]
def eqB (s t : ByteArray) : Bool := s.toList == t.toList
def memB (s : ByteArray) (l : List ByteArray) : Bool := l.any fun t => eqB s t
def dupS (l : List ByteArray) : Bool := (List.range l.length).any fun i => memB (l.getD i ⟨#[]⟩) (l.take i)
def dupI (l : List Int) : Bool := (List.range l.length).any fun i => decide (l.getD i 0 ∈ l.take i)
def letters : List UInt8 := [97, 98, 99, 100, 101, 102, 103, 104, 105, 106, 107, 108, 109, 110, 111, 112, 113, 114, 115, 116, 117, 118, 119, 120, 121, 122, 48, 49, 50, 51, 52, 53, 54, 55, 56, 57]
def PP.inV (P : PP) (n : Int) : Bool := !(decide (n < 0) || decide ((P.vars.length : Int) ≤ n))
def PP.allV (P : PP) (l : List Int) : Bool := l.all P.inV
set_option maxRecDepth 100000 in
set_option maxHeartbeats 800000 in
theorem indexs_any (v : Value) (l : List ByteArray) (s : ByteArray) (w : World) (n0 : Nat) (h : StrsR w n0 v l) : Calls Tryz.prog 161 #[v, .string s] w fun e w' => ∃ r : Int, e = .returned (.int .i64 r) ∧ IdxR (memB s l = true) r ∧ w = w' := by
  obtain ⟨a, cap, rfl, h2, h3, h4, h5⟩ := h
  have H4 := hid h4
  have H5 := hid h5
  have hml : (l.length : Int) ≤ 9223372036854775807 := by omega
  clear h2 h3 h4 h5
  go_enter Tryz.func161, Tryz.ntmps161
  go_wp2
  go_loop [8] (fun t8 => ∃ k : Nat, t8 = .int .i64 (k : Int) ∧ k ≤ l.length ∧ ∀ j t, j < k → l[j]? = some t → eqB s t = false) (fun t8 => l.length - (intOf t8).toNat)
  case atStart => exact ⟨0, rfl, Nat.zero_le _, fun j t h => by omega⟩
  case round =>
    obtain ⟨k, rfl, hk, hne⟩ := hrel
    have Hne := hid hne
    clear hne
    by_cases hlt : k < l.length
    · obtain ⟨y, rfl⟩ := H4.out (by omega)
      have hxk : l[k]? = some (l[k]'hlt) := List.getElem?_eq_getElem hlt
      obtain ⟨t, ht⟩ : ∃ t, t = l[k]'hlt := ⟨_, rfl⟩
      rw [← ht] at hxk
      have hc := (H5.out y rfl (by omega)).2 k hlt t hxk
      have Hxk := hid hxk
      clear hxk ht
      cases he : eqB s t with
      | true =>
        have Hin := hid (IdxR.yes (k := k) (show memB s l = true from List.any_eq_true.2 ⟨t, List.mem_of_getElem? Hxk.out, he⟩) (by omega))
        unfold eqB at he
        go_wp2
        go_ret
        exact ⟨(k : Int), rfl, Hin.out, rfl⟩
      | false =>
        have Hf := hid he
        unfold eqB at he
        go_wp2
        refine ⟨⟨k + 1, by go_num, by omega, fun j u hj hu => ?_⟩, by simp [intOf]; omega⟩
        by_cases hjk : j = k
        · subst hjk
          obtain rfl := Option.some.inj (Hxk.out.symm.trans hu)
          exact Hf.out
        · exact Hne.out j u (by omega) hu
    · obtain rfl : k = l.length := by omega
      have Hnot := hid (IdxR.no (show ¬ memB s l = true from fun hm => by
        obtain ⟨t, ht, e⟩ := List.any_eq_true.1 hm
        obtain ⟨j, hj, e2⟩ := List.mem_iff_getElem.1 ht
        rw [Hne.out j t hj (by rw [List.getElem?_eq_getElem hj, e2])] at e
        cases e))
      go_wp2
      go_ret
      exact ⟨(-1 : Int), rfl, Hnot.out, rfl⟩
set_option maxRecDepth 100000 in
set_option maxHeartbeats 800000 in
theorem containss_any (v : Value) (l : List ByteArray) (s : ByteArray) (w : World) (n0 : Nat) (h : StrsR w n0 v l) : Calls Tryz.prog 131 #[v, .string s] w fun e w' => e = .returned (.bool (memB s l)) ∧ w = w' := by
  have H := hid (indexs_any v l s w n0 h)
  obtain ⟨a, cap, rfl, _⟩ := h
  go_enter Tryz.func131, Tryz.ntmps131
  go_wp2_with fail
  refine H.out.mono ?_
  intro e w1 hx
  obtain ⟨r, rfl, hiff, rfl⟩ := hx
  have hr := hiff.1
  have Hiff := hid hiff.2
  clear hiff H
  go_wp2
  go_ret
  refine ⟨congrArg (fun n => Ending.returned (Value.bool n)) ?_, rfl⟩
  have h1 := Hiff.out
  cases hv : memB s l with
  | true => rw [hv] at h1; simpa using h1
  | false => rw [hv] at h1; simpa using h1
set_option maxRecDepth 100000 in
set_option maxHeartbeats 800000 in
theorem indexi_any (v : Value) (l : List Int) (s : Int) (w : World) (n0 : Nat) (h : IntsR w n0 v l) : Calls Tryz.prog 86 #[v, .int .i64 s] w fun e w' => ∃ r : Int, e = .returned (.int .i64 r) ∧ IdxR (s ∈ l) r ∧ w = w' := by
  obtain ⟨a, cap, rfl, h2, h3, h4, h5⟩ := h
  have H4 := hid h4
  have H5 := hid h5
  have hml : (l.length : Int) ≤ 9223372036854775807 := by omega
  clear h2 h3 h4 h5
  go_enter Tryz.func86, Tryz.ntmps86
  go_wp2
  go_loop [8] (fun t8 => ∃ k : Nat, t8 = .int .i64 (k : Int) ∧ k ≤ l.length ∧ ∀ j t, j < k → l[j]? = some t → s ≠ t) (fun t8 => l.length - (intOf t8).toNat)
  case atStart => exact ⟨0, rfl, Nat.zero_le _, fun j t h => by omega⟩
  case round =>
    obtain ⟨k, rfl, hk, hne⟩ := hrel
    have Hne := hid hne
    clear hne
    by_cases hlt : k < l.length
    · obtain ⟨y, rfl⟩ := H4.out (by omega)
      have hxk : l[k]? = some (l[k]'hlt) := List.getElem?_eq_getElem hlt
      obtain ⟨t, ht⟩ : ∃ t, t = l[k]'hlt := ⟨_, rfl⟩
      rw [← ht] at hxk
      have hc := (H5.out y rfl (by omega)).2 k hlt t hxk
      have Hxk := hid hxk
      clear hxk ht
      by_cases he : s = t
      · subst he
        have Hin := hid (IdxR.yes (k := k) (List.mem_of_getElem? Hxk.out) (by omega))
        go_wp2
        go_ret
        exact ⟨(k : Int), rfl, Hin.out, rfl⟩
      · have Hf := hid he
        go_wp2
        refine ⟨⟨k + 1, by go_num, by omega, fun j u hj hu => ?_⟩, by simp [intOf]; omega⟩
        by_cases hjk : j = k
        · subst hjk
          obtain rfl := Option.some.inj (Hxk.out.symm.trans hu)
          exact Hf.out
        · exact Hne.out j u (by omega) hu
    · obtain rfl : k = l.length := by omega
      have Hnot := hid (IdxR.no (show ¬ s ∈ l from fun ht => by
        obtain ⟨j, hj, e2⟩ := List.mem_iff_getElem.1 ht
        exact Hne.out j s hj (by rw [List.getElem?_eq_getElem hj, e2]) rfl))
      go_wp2
      go_ret
      exact ⟨(-1 : Int), rfl, Hnot.out, rfl⟩
set_option maxRecDepth 100000 in
set_option maxHeartbeats 800000 in
theorem containsi_any (v : Value) (l : List Int) (s : Int) (w : World) (n0 : Nat) (h : IntsR w n0 v l) : Calls Tryz.prog 54 #[v, .int .i64 s] w fun e w' => e = .returned (.bool (decide (s ∈ l))) ∧ w = w' := by
  have H := hid (indexi_any v l s w n0 h)
  obtain ⟨a, cap, rfl, _⟩ := h
  go_enter Tryz.func54, Tryz.ntmps54
  go_wp2_with fail
  refine H.out.mono ?_
  intro e w1 hx
  obtain ⟨r, rfl, hiff, rfl⟩ := hx
  have hr := hiff.1
  have Hiff := hid hiff.2
  clear hiff H
  go_wp2
  go_ret
  refine ⟨?_, rfl⟩
  exact congrArg (fun n => Ending.returned (Value.bool n)) (decide_eq_decide.2 Hiff.out)
theorem IntsR.take {w : World} {n0 : Nat} {a : Option Addr} {n cap : Nat} {l : List Int} (h : IntsR w n0 (.slice a n cap) l) (i : Nat) (hi : i ≤ l.length) : IntsR w n0 (.slice a i cap) (l.take i) := by
  obtain ⟨a', cap', h1, h2, h3, h4, h5⟩ := h
  obtain ⟨rfl, rfl, rfl⟩ : a = a' ∧ n = l.length ∧ cap = cap' := by simpa using h1
  have hl : (l.take i).length = i := by simp; omega
  unfold IntsR
  rw [hl]
  refine ⟨a, cap, rfl, by omega, h3, fun h0 => h4 (by omega), fun y hy h0 => ⟨(h5 y hy (by omega)).1, fun j hj s hs => (h5 y hy (by omega)).2 j (by omega) s ?_⟩⟩
  rwa [List.getElem?_take, if_pos hj] at hs
theorem StrsR.take {w : World} {n0 : Nat} {a : Option Addr} {n cap : Nat} {l : List ByteArray} (h : StrsR w n0 (.slice a n cap) l) (i : Nat) (hi : i ≤ l.length) : StrsR w n0 (.slice a i cap) (l.take i) := by
  obtain ⟨a', cap', h1, h2, h3, h4, h5⟩ := h
  obtain ⟨rfl, rfl, rfl⟩ : a = a' ∧ n = l.length ∧ cap = cap' := by simpa using h1
  have hl : (l.take i).length = i := by simp; omega
  unfold StrsR
  rw [hl]
  refine ⟨a, cap, rfl, by omega, h3, fun h0 => h4 (by omega), fun y hy h0 => ⟨(h5 y hy (by omega)).1, fun j hj s hs => (h5 y hy (by omega)).2 j (by omega) s ?_⟩⟩
  rwa [List.getElem?_take, if_pos hj] at hs
set_option maxRecDepth 100000 in
set_option maxHeartbeats 800000 in
theorem twice_any (v : Value) (l : List Int) (w : World) (n0 : Nat) (h : IntsR w n0 v l) : Calls Tryz.prog 133 #[v] w fun e w' => e = .returned (.bool (dupI l)) ∧ w = w' := by
  have HI := hid h
  obtain ⟨a, cap, rfl, h2, h3, h4, h5⟩ := h
  have H4 := hid h4
  have H5 := hid h5
  have hml : (l.length : Int) ≤ 9223372036854775807 := by omega
  clear h4 h5
  go_enter Tryz.func133, Tryz.ntmps133
  go_wp2
  go_loop [7] (fun t7 => ∃ k : Nat, t7 = .int .i64 (k : Int) ∧ k ≤ l.length ∧ ∀ j, j < k → ¬ l.getD j 0 ∈ l.take j) (fun t7 => l.length - (intOf t7).toNat)
  case atStart => exact ⟨0, rfl, Nat.zero_le _, fun j h => by omega⟩
  case round =>
    obtain ⟨k, rfl, hk, hne⟩ := hrel
    have Hne := hid hne
    clear hne
    by_cases hlt : k < l.length
    · obtain ⟨y, rfl⟩ := H4.out (by omega)
      have hxk : l[k]? = some (l.getD k 0) := by simp [List.getD_eq_getElem?_getD, hlt]
      have hc := (H5.out y rfl (by omega)).2 k hlt _ hxk
      have HC := hid (containsi_any _ _ (l.getD k 0) w n0 (HI.out.take k hk))
      obtain ⟨t, ht⟩ : ∃ t, t = l.getD k 0 := ⟨_, rfl⟩
      rw [← ht] at hc HC
      have Ht := hid ht
      clear ht hxk
      go_wp2_with fail
      refine HC.out.mono ?_
      intro e w1 hx
      obtain ⟨rfl, rfl⟩ := hx
      clear HC
      by_cases he : t ∈ l.take k
      · have Hin : Hid (dupI l = true) := hid (List.any_eq_true.2 ⟨k, List.mem_range.2 hlt, by simp only [decide_eq_true_eq]; rw [← Ht.out]; exact he⟩)
        rw [decide_eq_true he]
        go_wp2
        go_ret
        exact ⟨by rw [Hin.out]; rfl, rfl⟩
      · have Hf := hid he
        rw [decide_eq_false he]
        clear he
        go_wp2
        refine ⟨⟨k + 1, by go_num, by omega, fun j hj => ?_⟩, by simp [intOf]; omega⟩
        by_cases hjk : j = k
        · subst hjk; rw [← Ht.out]; exact Hf.out
        · exact Hne.out j (by omega)
    · obtain rfl : k = l.length := by omega
      have Hnot : Hid (dupI l = false) := hid (List.any_eq_false.2 fun j hj => by simp only [decide_eq_true_eq]; exact Hne.out j (List.mem_range.1 hj))
      go_wp2
      go_ret
      exact ⟨by rw [Hnot.out]; rfl, rfl⟩
end Go.Proofs.YtihdpijgngooaaaGreatDoor
namespace Go.Proofs
open Go.Shelf
def Tryz.lays160_ren : Go.Shelf.Ren := ⟨fun | 160 => 160 | 232 => 176 | 231 => 175 | 227 => 177 | 234 => 179 | 233 => 178 | 236 => 181 | 235 => 180 | 228 => 185 | 271 => 188 | 151 => 187 | 197 => 186 | 120 => 191 | 152 => 190 | 260 => 189 | 137 => 192 | 119 => 193 | 224 => 194 | 225 => 195 | 217 => 196 | 266 => 197 | n => n, fun | 9 => 9 | 4 => 4 | 3 => 3 | 5 => 5 | 117 => 243 | 116 => 242 | 0 => 0 | 124 => 246 | 21 => 21 | 105 => 251 | 46 => 142 | 119 => 255 | 139 => 258 | 138 => 257 | n => n, fun | 3 => 12 | 4 => 13 | n => n⟩
theorem Tryz.lays160 : Go.Proofs.Lays.n160 Tryz.prog Tryz.lays160_ren := {
  mixed := by kernel_rfl
  f119 := Tryz.func193.trans (congrArg some (by kernel_rfl))
  f120 := Tryz.func191.trans (congrArg some (by kernel_rfl))
  f137 := Tryz.func192.trans (congrArg some (by kernel_rfl))
  f151 := Tryz.func187.trans (congrArg some (by kernel_rfl))
  f152 := Tryz.func190.trans (congrArg some (by kernel_rfl))
  f160 := Tryz.func160.trans (congrArg some (by kernel_rfl))
  f197 := Tryz.func186.trans (congrArg some (by kernel_rfl))
  f217 := Tryz.func196.trans (congrArg some (by kernel_rfl))
  f224 := Tryz.func194.trans (congrArg some (by kernel_rfl))
  f225 := Tryz.func195.trans (congrArg some (by kernel_rfl))
  f227 := Tryz.func177.trans (congrArg some (by kernel_rfl))
  f228 := Tryz.func185.trans (congrArg some (by kernel_rfl))
  f231 := Tryz.func175.trans (congrArg some (by kernel_rfl))
  f232 := Tryz.func176.trans (congrArg some (by kernel_rfl))
  f233 := Tryz.func178.trans (congrArg some (by kernel_rfl))
  f234 := Tryz.func179.trans (congrArg some (by kernel_rfl))
  f235 := Tryz.func180.trans (congrArg some (by kernel_rfl))
  f236 := Tryz.func181.trans (congrArg some (by kernel_rfl))
  f260 := Tryz.func189.trans (congrArg some (by kernel_rfl))
  f266 := Tryz.func197.trans (congrArg some (by kernel_rfl))
  f271 := Tryz.func188.trans (congrArg some (by kernel_rfl))
  t0 := Tryz.underlying0
  a0 := Tryz.isAgg0
  z0 := Tryz.sizeOf0
  v0 := Tryz.zeroValue0
  t3 := Tryz.underlying3
  a3 := Tryz.isAgg3
  z3 := Tryz.sizeOf3
  v3 := Tryz.zeroValue3
  t4 := Tryz.underlying4
  a4 := Tryz.isAgg4
  z4 := Tryz.sizeOf4
  v4 := Tryz.zeroValue4
  t5 := Tryz.underlying5
  a5 := Tryz.isAgg5
  z5 := Tryz.sizeOf5
  v5 := Tryz.zeroValue5
  t9 := Tryz.underlying9
  a9 := Tryz.isAgg9
  z9 := Tryz.sizeOf9
  v9 := Tryz.zeroValue9
  t21 := Tryz.underlying21
  a21 := Tryz.isAgg21
  z21 := Tryz.sizeOf21
  v21 := Tryz.zeroValue21
  t46 := Tryz.underlying142
  a46 := Tryz.isAgg142
  z46 := Tryz.sizeOf142
  v46 := Tryz.zeroValue142
  t105 := Tryz.underlying251
  a105 := Tryz.isAgg251
  z105 := Tryz.sizeOf251
  v105 := Tryz.zeroValue251
  t116 := Tryz.underlying242
  a116 := Tryz.isAgg242
  z116 := Tryz.sizeOf242
  t117 := Tryz.underlying243
  a117 := Tryz.isAgg243
  z117 := Tryz.sizeOf243
  v117 := Tryz.zeroValue243
  t119 := Tryz.underlying255
  a119 := Tryz.isAgg255
  z119 := Tryz.sizeOf255
  t124 := Tryz.underlying246
  a124 := Tryz.isAgg246
  z124 := Tryz.sizeOf246
  v124 := Tryz.zeroValue246
  t138 := Tryz.underlying257
  a138 := Tryz.isAgg257
  z138 := Tryz.sizeOf257
  v138 := Tryz.zeroValue257
  t139 := Tryz.underlying258
  a139 := Tryz.isAgg258
  z139 := Tryz.sizeOf258
  v139 := Tryz.zeroValue258
  g3 := by kernel_rfl
  g4 := by kernel_rfl }
end Go.Proofs
namespace Go.Proofs.YtihdpijgngooaaaGreatDoor
open Go Go.RowKit Go.ChangeShapes
theorem errStar : "*" ++ "errors.errorString" = "*errors.errorString" := by decide
theorem errRow (u : TypeId) (h : Tryz.prog.typeName? 3 u = some "*errors.errorString") : u = 262 :=
  typeName_ptr_named (nm := "errors.errorString") (by rw [errStar]; kernel_rfl) (by kernel_rfl) (by decide) u (by rw [errStar]; exact h)
theorem errCells : Tryz.prog.cellsOf 283 = 1 := by kernel_rfl
theorem strCells : Tryz.prog.cellsOf 9 = 1 := by kernel_rfl
structure SentAt (W : World) (g : Nat) (a : Addr) : Prop where
  var : W.cell? ⟨g, 0, none⟩ = some (.iface 262 (.pointer (some a)))
  row : ∃ c t, W.heap[a.block]? = some (.cells c t (0, 0))
  text : ∃ s, W.cell? a = some (.string s)
def sentD (t : List UInt8) : DataW Unit := .iface "*errors.errorString" (.ptr (.agg [.lit (.string t)]))
set_option maxRecDepth 100000 in
theorem sents_of {W : World} : ∀ (l : List (String × Nat × List UInt8)) (ps : List MemPlace), DataW.LaidVars Tryz.prog W (l.map fun x => (x.1, sentD x.2.2)) ps → ps.Nodup →
    (∀ b off, MemPlace.cell b off ∈ ps → (∃ c t, W.heap[b]? = some (.cells c t (0, 0))) ∧ ∀ u v, W.cell? ⟨b, off, none⟩ = some (.iface u v) → Value.okWide Tryz.prog W .any 0 u v) →
    (∀ x ∈ l, Tryz.prog.globalNamed x.1 = some x.2.1 ∧ (Tryz.prog.globals[x.2.1]?).map (·.type) = some 38) →
    ∃ pa : List Addr, pa.length = l.length ∧ (∀ (i : Nat) (x : String × Nat × List UInt8) (a : Addr), l[i]? = some x → pa[i]? = some a → SentAt W x.2.1 a) ∧ pa.Nodup ∧ ∀ a ∈ pa, MemPlace.cell a.block a.off ∈ ps
  | [], ps, _, _, _, _ => ⟨[], rfl, fun i x a h => by simp at h, List.nodup_nil, fun a h => by simp at h⟩
  | (n, k, tx) :: r, ps, h, hnd, hrows, hg => by
    obtain ⟨g, t, cs, fuel, p, q, hg0, ht0, hv0, hd0, hq, rfl⟩ := h
    obtain ⟨hk1, hk2⟩ := hg (n, k, tx) (by simp)
    obtain rfl := Option.some.inj (hk1.symm.trans hg0)
    obtain rfl := Option.some.inj (hk2.symm.trans ht0)
    obtain ⟨l0⟩ := cs
    have ok0 : ∀ u v, l0 = [.iface u v] → Value.okWide Tryz.prog W .any 0 u v := fun u v e => by
      subst e
      exact (hrows k 0 (by simp [MemPlace.row])).2 u v (by simpa using World.var?_cell hk1 hv0 0)
    obtain ⟨a0, s0, rfl, hc0, hs0, hz0, rfl⟩ := errorString_of_trod Tryz.underlying38 errRow Tryz.underlying262 Tryz.underlying283 rfl rfl Tryz.underlying9 errCells strCells hd0 ok0
    have hnd' := hnd
    rw [List.append_assoc] at hnd'
    have hq' : q.Nodup := (List.nodup_append.1 (List.nodup_append.1 hnd').2.1).2.1
    obtain ⟨pa, e1, e2, e3, e4⟩ := sents_of r q hq hq' (fun b off hm => hrows b off (List.mem_append_right _ hm)) (fun x hx => hg x (List.mem_cons_of_mem _ hx))
    have hin : MemPlace.cell a0.block a0.off ∈ MemPlace.row a0 1 := by simp [MemPlace.row]
    refine ⟨a0 :: pa, by simp [e1], ?_, ?_, ?_⟩
    · intro i x a hx ha
      cases i with
      | zero =>
        simp only [List.getElem?_cons_zero, Option.some.injEq] at hx ha
        subst hx ha
        exact ⟨by simpa using World.var?_cell hk1 hv0 0, (hrows a0.block a0.off (by simp [hin])).1, s0, hc0⟩
      | succ i =>
        simp only [List.getElem?_cons_succ] at hx ha
        exact e2 i x a hx ha
    · refine List.nodup_cons.2 ⟨fun hm => ?_, e3⟩
      have h1 := e4 a0 hm
      have h2 := (List.nodup_append.1 (List.nodup_append.1 hnd').2.1).2.2 _ hin _ h1
      exact h2 rfl
    · intro a ha
      rcases List.mem_cons.1 ha with rfl | ha
      · simp [hin]
      · simp [e4 a ha]
theorem sents_met {W : World} (l : List (String × Nat × List UInt8)) (h : laidMet Tryz.prog (l.map fun x => (x.1, sentD x.2.2)) W) (hg : ∀ x ∈ l, Tryz.prog.globalNamed x.1 = some x.2.1 ∧ (Tryz.prog.globals[x.2.1]?).map (·.type) = some 38) :
    ∃ pa : List Addr, pa.length = l.length ∧ (∀ (i : Nat) (x : String × Nat × List UInt8) (a : Addr), l[i]? = some x → pa[i]? = some a → SentAt W x.2.1 a) ∧ pa.Nodup := by
  obtain ⟨ps, h1, h2, h3⟩ := h
  obtain ⟨pa, e1, e2, e3, _⟩ := sents_of l ps h1 h2 h3 hg
  exact ⟨pa, e1, e2, e3⟩
def sRow : Nat → String × Nat × List UInt8
  | 1 => ("fingerpost/api.ErrText", 3, [102, 105, 110, 103, 101, 114, 112, 111, 115, 116, 58, 32, 116, 101, 120, 116])
  | 2 => ("fingerpost/api.ErrBound", 0, [102, 105, 110, 103, 101, 114, 112, 111, 115, 116, 58, 32, 98, 111, 117, 110, 100])
  | 3 => ("fingerpost/api.ErrShape", 2, [102, 105, 110, 103, 101, 114, 112, 111, 115, 116, 58, 32, 115, 104, 97, 112, 101])
  | 4 => ("fingerpost/api.ErrKind", 1, [102, 105, 110, 103, 101, 114, 112, 111, 115, 116, 58, 32, 107, 105, 110, 100])
  | 5 => ("fingerpost/api.ErrName", 4, [102, 105, 110, 103, 101, 114, 112, 111, 115, 116, 58, 32, 110, 97, 109, 101])
  | 6 => ("fingerpost/api.ErrNone", 5, [102, 105, 110, 103, 101, 114, 112, 111, 115, 116, 58, 32, 110, 111, 110, 101])
  | 7 => ("fingerpost/api.ErrExist", 6, [102, 105, 110, 103, 101, 114, 112, 111, 115, 116, 58, 32, 101, 120, 105, 115, 116])
  | 8 => ("fingerpost/api.ErrFull", 7, [102, 105, 110, 103, 101, 114, 112, 111, 115, 116, 58, 32, 102, 117, 108, 108])
  | 9 => ("fingerpost/api.ErrArgs", 8, [102, 105, 110, 103, 101, 114, 112, 111, 115, 116, 58, 32, 97, 114, 103, 115])
  | 10 => ("fingerpost/api.ErrOrder", 9, [102, 105, 110, 103, 101, 114, 112, 111, 115, 116, 58, 32, 111, 114, 100, 101, 114])
  | 11 => ("fingerpost/api.ErrSum", 10, [102, 105, 110, 103, 101, 114, 112, 111, 115, 116, 58, 32, 115, 117, 109])
  | _ => ("", 0, [])
theorem sRow_ok {c : Nat} (h1 : 1 ≤ c) (h2 : c ≤ 11) (h3 : (sRow c).2.1 ≠ 99999) : Tryz.prog.globalNamed (sRow c).1 = some (sRow c).2.1 ∧ (Tryz.prog.globals[(sRow c).2.1]?).map (·.type) = some 38 := by
  rcases (by omega : c = 1 ∨ c = 2 ∨ c = 3 ∨ c = 4 ∨ c = 5 ∨ c = 6 ∨ c = 7 ∨ c = 8 ∨ c = 9 ∨ c = 10 ∨ c = 11) with rfl | rfl | rfl | rfl | rfl | rfl | rfl | rfl | rfl | rfl | rfl <;> first | exact absurd rfl h3 | exact ⟨by kernel_rfl, by kernel_rfl⟩
theorem sRow_g {c : Nat} (h1 : 1 ≤ c) (h2 : c ≤ 11) : (sRow c).2.1 = gE c := by
  rcases (by omega : c = 1 ∨ c = 2 ∨ c = 3 ∨ c = 4 ∨ c = 5 ∨ c = 6 ∨ c = 7 ∨ c = 8 ∨ c = 9 ∨ c = 10 ∨ c = 11) with rfl | rfl | rfl | rfl | rfl | rfl | rfl | rfl | rfl | rfl | rfl <;> rfl
def sentL (codes : List Nat) : List (String × DataW Unit) := codes.map fun c => ((sRow c).1, sentD (sRow c).2.2)
theorem sent_noHandle (t : List UInt8) : (sentD t).handleName? = none := by
  unfold sentD DataW.handleName?
  simp
theorem met_plain {W : World} {codes : List Nat} (h : laidMetH Tryz.prog (sentL codes) W) : laidMet Tryz.prog (sentL codes) W := by
  have h1 := (laidMetH_iff.1 h).1
  rw [List.filter_eq_self.2 fun x hx => by
    obtain ⟨c, _, rfl⟩ := List.mem_map.1 hx
    simp [sent_noHandle]] at h1
  exact h1
def evOf (ad : Nat → Addr) (c : Nat) : Value := .iface 262 (.pointer (some (ad c)))
theorem sents_ad {W : World} (codes : List Nat) (hc : ∀ c ∈ codes, 1 ≤ c ∧ c ≤ 11 ∧ (sRow c).2.1 ≠ 99999) (h : laidMet Tryz.prog (sentL codes) W) :
    ∃ ad : Nat → Addr, (∀ c ∈ codes, SentAt W (gE c) (ad c)) ∧ ∀ c ∈ codes, ∀ d ∈ codes, ad c = ad d → c = d := by
  obtain ⟨pa, h1, h2, h3⟩ := sents_met (codes.map sRow) (by simpa [sentL, List.map_map, Function.comp_def] using h) (fun x hx => by
    obtain ⟨c, hm, rfl⟩ := List.mem_map.1 hx
    exact sRow_ok (hc c hm).1 (hc c hm).2.1 (hc c hm).2.2)
  rw [List.length_map] at h1
  have hix : ∀ c ∈ codes, ∃ a, pa[codes.idxOf c]? = some a := fun c hm => by
    have := List.idxOf_lt_length_of_mem hm
    exact ⟨_, List.getElem?_eq_getElem (by omega)⟩
  refine ⟨fun c => (pa[codes.idxOf c]?).getD ⟨0, 0, none⟩, fun c hm => ?_, fun c hm d hd e => ?_⟩
  · obtain ⟨a, ha⟩ := hix c hm
    have hi := List.idxOf_lt_length_of_mem hm
    have := h2 (codes.idxOf c) (sRow c) a (by rw [List.getElem?_map, List.getElem?_eq_getElem hi]; simp) ha
    rw [sRow_g (hc c hm).1 (hc c hm).2.1] at this
    simp only [ha, Option.getD_some]
    exact this
  · obtain ⟨a, ha⟩ := hix c hm
    obtain ⟨b, hb⟩ := hix d hd
    simp only [ha, hb, Option.getD_some] at e
    subst e
    have l1 := List.idxOf_lt_length_of_mem hm
    have l2 := List.idxOf_lt_length_of_mem hd
    have hii : codes.idxOf c = codes.idxOf d := (List.getElem?_inj (by omega) h3).1 (ha.trans hb.symm)
    have g1 : codes[codes.idxOf c]'l1 = c := by simp
    have g2 : codes[codes.idxOf d]'l2 = d := by simp
    rw [← g1, ← g2]
    congr 1
end Go.Proofs.YtihdpijgngooaaaGreatDoor
namespace Go.Proofs.YtihdpijgngooaaaGreatDoor
open Go Go.RowKit Go.Shelf Go.Lib
theorem add0 (b i : Nat) : (⟨b, 0, none⟩ : Addr).add i = ⟨b, i, none⟩ := by
  by_cases h0 : i = 0 <;> simp [Addr.add, h0]
theorem StrsR.blk {w : World} {b : Nat} {c : Array Value} {t : TypeId} {l : List ByteArray} (h : Blk w b c t) (hc : c.toList = l.map .string) (hl : (l.length : Int) ≤ 1000000) : StrsR w w.heap.size (.slice (some ⟨b, 0, none⟩) l.length l.length) l := by
  refine ⟨_, _, rfl, Nat.le_refl _, by omega, fun _ => ⟨_, rfl⟩, fun y hy h0 => ?_⟩
  obtain rfl := Option.some.inj hy
  refine ⟨h.lt, fun i hi s hs => ?_⟩
  rw [add0, h.cell, ← Array.getElem?_toList, hc, List.getElem?_map, hs]
  rfl
theorem IntsR.blk {w : World} {b : Nat} {c : Array Value} {t : TypeId} {l : List Int} (h : Blk w b c t) (hc : c.toList = l.map (.int .i64)) (hl : (l.length : Int) ≤ 1000000): IntsR w w.heap.size (.slice (some ⟨b, 0, none⟩) l.length l.length) l := by
  refine ⟨_, _, rfl, Nat.le_refl _, by omega, fun _ => ⟨_, rfl⟩, fun y hy h0 => ?_⟩
  obtain rfl := Option.some.inj hy
  refine ⟨h.lt, fun i hi s hs => ?_⟩
  rw [add0, h.cell, ← Array.getElem?_toList, hc, List.getElem?_map, hs]
  rfl
def reserved : List ByteArray := [⟨#[118, 97, 114]⟩, ⟨#[102, 110]⟩, ⟨#[110, 101, 119]⟩, ⟨#[99, 97, 108, 108]⟩]
def lettersS : ByteArray := ⟨#[97, 98, 99, 100, 101, 102, 103, 104, 105, 106, 107, 108, 109, 110, 111, 112, 113, 114, 115, 116, 117, 118, 119, 120, 121, 122, 48, 49, 50, 51, 52, 53, 54, 55, 56, 57]⟩
def nameRest (s : ByteArray) : Bool := eqB ⟨(trimS s.data.toList lettersS.data.toList).toArray⟩ ⟨#[]⟩
def first (s : ByteArray) : Nat := if h : 0 < s.size then s[0].toNat else 0
def nameOk (s : ByteArray) : Bool := !memB s reserved && (!s.toList.isEmpty && decide (s.size ≤ 8) && decide (97 ≤ first s) && decide (first s ≤ 122) && nameRest s)
theorem strim_any (s : ByteArray) (w : World) (hs : s.size ≤ 9223372036854775807) : Calls Tryz.prog 160 #[.string s, .string ⟨#[97, 98, 99, 100, 101, 102, 103, 104, 105, 106, 107, 108, 109, 110, 111, 112, 113, 114, 115, 116, 117, 118, 119, 120, 121, 122, 48, 49, 50, 51, 52, 53, 54, 55, 56, 57]⟩] w fun e w' => ∃ r, e = .returned (.string r) ∧ eqB r ⟨#[]⟩ = nameRest s ∧ Ext w w' :=
  (Any.strings_Trim_laid Tryz.lays160 (by kernel_rfl) s lettersS w hs (by decide) (ascii_of_all (by decide))).mono fun _ _ h => ⟨_, h.1, rfl, h.2⟩
set_option maxRecDepth 100000 in
set_option maxHeartbeats 1600000 in
theorem name_any (s : ByteArray) (w : World) (hs : s.size ≤ 9223372036854775807) : Calls Tryz.prog 130 #[.string s] w fun e w' => e = .returned (.bool (nameOk s)) ∧ Ext w w' := by
  obtain ⟨W, hW⟩ : ∃ W, W = w.alloc (.cells #[.string ⟨#[118, 97, 114]⟩, .string ⟨#[102, 110]⟩, .string ⟨#[110, 101, 119]⟩, .string ⟨#[99, 97, 108, 108]⟩] 9) := ⟨_, rfl⟩
  have hx : Ext w W := by rw [hW]; exact (Ext.refl _).alloc _
  have HC : Hid (Calls Tryz.prog 131 #[.slice (some ⟨w.heap.size, 0, none⟩) 4 4, .string s] W fun e w' => e = .returned (.bool (memB s reserved)) ∧ W = w') := hid (by
    refine containss_any (.slice (some ⟨w.heap.size, 0, none⟩) 4 4) reserved s W W.heap.size (StrsR.blk (l := reserved) (c := #[.string ⟨#[118, 97, 114]⟩, .string ⟨#[102, 110]⟩, .string ⟨#[110, 101, 119]⟩, .string ⟨#[99, 97, 108, 108]⟩]) (t := 9) ?_ rfl (by decide))
    rw [hW]; exact Blk.new _ _ _)
  have HT := hid (strim_any s W hs)
  have HW := hid hW
  have Hs := hid hs
  clear hW hs
  go_enter Tryz.func130, Tryz.ntmps130
  go_wp2_with fail
  rw [← HW.out]
  refine HC.out.mono ?_
  intro e w1 hx1
  obtain ⟨rfl, rfl⟩ := hx1
  clear HC
  cases hm : memB s reserved with
  | true =>
    have Hr := hid (show nameOk s = false by unfold nameOk; rw [hm]; rfl)
    go_wp2
    go_ret
    exact ⟨by rw [Hr.out]; rfl, hx⟩
  | false =>
    have Hm := hid hm
    clear hm
    by_cases h0 : s.toList = []
    · have Hr := hid (show nameOk s = false by unfold nameOk; rw [h0]; simp)
      clear HT
      go_wp2
      go_ret
      exact ⟨by rw [Hr.out]; rfl, hx⟩
    have hz : 0 < s.size := by
      rcases Nat.eq_zero_or_pos s.size with h | h
      · exact absurd (by rw [toList_data]; exact List.eq_nil_of_length_eq_zero (by simpa using h)) h0
      · exact h
    have H0 := hid (show (!s.toList.isEmpty) = true by simpa using h0)
    have Hf := hid (show first s = s[0].toNat by unfold first; rw [dif_pos hz])
    by_cases h8 : s.size ≤ 8
    · by_cases h97 : 97 ≤ s[0].toNat
      · by_cases h122 : s[0].toNat ≤ 122
        · have Hd := hid (show nameOk s = nameRest s by unfold nameOk; rw [Hm.out, H0.out, Hf.out, decide_eq_true h8, decide_eq_true h97, decide_eq_true h122]; simp)
          clear Hf Hs Hm
          go_wp2_with fail
          refine HT.out.mono ?_
          intro e w2 hx2
          obtain ⟨r, rfl, hr, hx2⟩ := hx2
          clear HT
          cases hq : nameRest s with
          | true =>
            rw [hq] at hr
            have Hq := hid hq
            clear hq
            unfold eqB at hr
            simp at hr
            go_wp2
            go_ret
            exact ⟨by rw [Hd.out, Hq.out]; exact congrArg (fun b => Ending.returned (Value.bool b)) H0.out, hx.trans hx2⟩
          | false =>
            rw [hq] at hr
            have Hq := hid hq
            clear hq
            unfold eqB at hr
            simp at hr
            go_wp2
            go_ret
            exact ⟨by rw [Hd.out, Hq.out]; exact congrArg (fun b => Ending.returned (Value.bool b)) (by rw [H0.out]; simpa using hr), hx.trans hx2⟩
        · have Hr := hid (show nameOk s = false by unfold nameOk; rw [Hf.out, decide_eq_false h122]; simp)
          clear HT
          go_wp2
          go_ret
          exact ⟨by rw [Hr.out]; rfl, hx⟩
      · have Hr := hid (show nameOk s = false by unfold nameOk; rw [Hf.out, decide_eq_false h97]; simp)
        clear HT
        go_wp2
        go_ret
        exact ⟨by rw [Hr.out]; rfl, hx⟩
    · have Hr := hid (show nameOk s = false by unfold nameOk; rw [decide_eq_false h8]; simp)
      clear HT
      go_wp2
      go_ret
      exact ⟨by rw [Hr.out]; rfl, hx⟩
end Go.Proofs.YtihdpijgngooaaaGreatDoor
