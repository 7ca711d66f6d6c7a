/- Texts of one proof, put together: F8 UP U1 US. -/
import Derived.Test.YtohfdecefikinaaGreatDoorZCM02
import Derived.Test.YtohfdecefikinaaGreatDoorZCM04
import Derived.Test.YtohfdecefikinaaGreatDoorProg
import Derived.Shelf.Strings.SlTrimAscii

/- The frame: it is read. -/
namespace Go.Proofs.YtohfdecefikinaaGreatDoor
set_option linter.unusedSimpArgs false
set_option linter.unusedVariables false
open Go Go.RowKit

def fr0 : Value := .agg #[.int .u8 0, .int .i64 0, .int .i64 0, .int .i64 0, .slice none 0 0]

def frz : Array Value := #[.int .u8 0, .int .i64 0, .int .i64 0, .int .i64 0, .slice none 0 0]
theorem Keep.cellx {X : Nat → Prop} {w w' : World} (h : Keep X w w') {x : Addr} {v : Value} (hc : w.cell? x = some v) (hx : ¬ X x.block) : w'.cell? x = some v := by
  have hb := h.block x.block (cell_lt hc) hx
  unfold World.cell? at *
  rw [hb]
  exact hc
theorem store5 {w : World} {n : Nat} {a0 a1 a2 a3 a4 b0 b1 b2 b3 b4 : Value} {e : TypeId} (h : Blk w n #[a0, a1, a2, a3, a4] e) :
    Blk (((((w.setCell ⟨n, 0, none⟩ b0).setCell ⟨n, 1, none⟩ b1).setCell ⟨n, 2, none⟩ b2).setCell ⟨n, 3, none⟩ b3).setCell ⟨n, 4, none⟩ b4) n #[b0, b1, b2, b3, b4] e := by
  have := ((((h.set 0 b0).set 1 b1).set 2 b2).set 3 b3).set 4 b4
  simpa using this
theorem store5_keep (w : World) (n : Nat) (b0 b1 b2 b3 b4 : Value) : Keep (fun b => b = n) w (((((w.setCell ⟨n, 0, none⟩ b0).setCell ⟨n, 1, none⟩ b1).setCell ⟨n, 2, none⟩ b2).setCell ⟨n, 3, none⟩ b3).setCell ⟨n, 4, none⟩ b4) :=
  have k : ∀ (u : World) i v, Keep (fun b => b = n) w u → Keep (fun b => b = n) w (u.setCell ⟨n, i, none⟩ v) := fun _ _ v h => h.set rfl v
  k _ _ _ (k _ _ _ (k _ _ _ (k _ _ _ (k _ _ _ (Keep.refl _ w)))))

theorem Keep.tr {X Y : Nat → Prop} {a b c : World} (h : Keep X a b) (k : Keep Y b c) (hx : ∀ n, Y n → a.heap.size ≤ n ∨ X n) : Keep X a c :=
  ⟨k.os.trans h.os, k.tape.trans h.tape, k.output.trans h.output, Nat.le_trans h.size k.size, fun i hi hX => (k.block i (Nat.lt_of_lt_of_le hi h.size) fun hY => (hx i hY).elim (fun h => by omega) hX).trans (h.block i hi hX)⟩
theorem Errs.at_ {w : World} {ev : Nat → Value} (h : Errs w ev) {W : World} (x : Ext w W) (i c : Nat) (hc : w.cell? ⟨i, 0, none⟩ = some (ev c)) : ∀ w1, Keep (fun b => b = w.heap.size) W w1 → w1.cell? ⟨i, 0, none⟩ = some (ev c) :=
  fun _ hk => hk.cellx (x.cellx hc) (fun e => by have := cell_lt hc; simp only at e this; omega)


end Go.Proofs.YtohfdecefikinaaGreatDoor


/- Programs: what they are, plainly, and how they lie in memory. -/
namespace Go.Proofs.YtohfdecefikinaaGreatDoor
set_option linter.unusedSimpArgs false
set_option linter.unusedVariables false
open Go Go.RowKit

theorem Keep.get? {X : Nat → Prop} {w w' : World} (h : Keep X w w') {x : Addr} {v : Value} (hc : w.cell? x = some v) (hx : ¬ X x.block) : w'.cell? x = some v := h.cellx hc hx

structure PF where
  name : ByteArray
  params : List Int
  ret : Int
structure PS where
  kind : ByteArray
  x : Int
  y : Int
  args : List Int
structure PP where
  vars : List ByteArray
  funs : List PF
  stmts : List PS

/-- A slice of so many elements, wherever it lies below n0; what its elements are (by number and address). -/
structure ElR (n0 : Nat) (v : Value) (n : Nat) (E : Nat → Addr → Prop) : Prop where
  form : ∃ a cap, v = .slice a n cap ∧ n ≤ cap ∧ (cap : Int) ≤ 9223372036854775807 ∧ (0 < n → ∃ y, a = some y) ∧ ∀ y, a = some y → 0 < n → y.block < n0 ∧ ∀ i, i < n → E i y
theorem ElR.mono {n0 n1 n : Nat} {v : Value} {E F : Nat → Addr → Prop} (h : ElR n0 v n E) (hn : n0 ≤ n1) (hE : ∀ i y, i < n → y.block < n0 → E i y → F i y) : ElR n1 v n F := by
  obtain ⟨a, cap, h1, h2, h3, h4, h5⟩ := h
  refine ⟨a, cap, h1, h2, h3, h4, fun y hy h0 => ⟨Nat.lt_of_lt_of_le (h5 y hy h0).1 hn, fun i hi => hE i y hi (h5 y hy h0).1 ((h5 y hy h0).2 i hi)⟩⟩

/-- Strings. -/
def StrsR (w : World) (n0 : Nat) (v : Value) (l : List ByteArray) : Prop := ElR n0 v l.length fun i y => ∀ s, l[i]? = some s → w.cell? (y.add i) = some (.string s)
/-- Numbers. -/
def IntsR (w : World) (n0 : Nat) (v : Value) (l : List Int) : Prop := ElR n0 v l.length fun i y => ∀ s, l[i]? = some s → w.cell? (y.add i) = some (.int .i64 s)
def FunsR (w : World) (n0 : Nat) (v : Value) (l : List PF) : Prop := ElR n0 v l.length fun i y => ∀ f, l[i]? = some f → ∃ pv, w.cell? (y.add (i * 3)) = some (.string f.name) ∧ w.cell? ((y.add (i * 3)).add 1) = some pv ∧ w.cell? ((y.add (i * 3)).add 2) = some (.int .i64 f.ret) ∧ IntsR w n0 pv f.params
def StmtsR (w : World) (n0 : Nat) (v : Value) (l : List PS) : Prop := ElR n0 v l.length fun i y => ∀ s, l[i]? = some s → ∃ av, w.cell? (y.add (i * 4)) = some (.string s.kind) ∧ w.cell? ((y.add (i * 4)).add 1) = some (.int .i64 s.x) ∧ w.cell? ((y.add (i * 4)).add 2) = some (.int .i64 s.y) ∧ w.cell? ((y.add (i * 4)).add 3) = some av ∧ IntsR w n0 av s.args
/-- A program. -/
structure ProgR (w : World) (n0 : Nat) (v1 v2 v3 : Value) (P : PP) : Prop where
  vars : StrsR w n0 v1 P.vars
  funs : FunsR w n0 v2 P.funs
  stmts : StmtsR w n0 v3 P.stmts

/-- Nothing below n0 is written. -/
def Old (n0 : Nat) (w w' : World) : Prop := Keep (fun b => n0 ≤ b) w w'
theorem Old.refl (n0 : Nat) (w : World) : Old n0 w w := Keep.refl _ _
theorem Old.trans {n0 : Nat} {a b c : World} (h : Old n0 a b) (k : Old n0 b c) : Old n0 a c := Keep.trans h k
theorem Ext.old {w w' : World} (h : Ext w w') (n0 : Nat) : Old n0 w w' := h.keep _
theorem Old.cellx {n0 : Nat} {w w' : World} (h : Old n0 w w') {x : Addr} {v : Value} (hc : w.cell? x = some v) (hx : x.block < n0) : w'.cell? x = some v := Keep.cellx h hc (by omega)
theorem StrsR.old {w w' : World} {n0 : Nat} {v : Value} {l : List ByteArray} (h : StrsR w n0 v l) (k : Old n0 w w') : StrsR w' n0 v l :=
  ElR.mono h (Nat.le_refl _) fun i y _ hy hE s hs => k.cellx (hE s hs) (by rw [add_block]; exact hy)
theorem IntsR.old {w w' : World} {n0 : Nat} {v : Value} {l : List Int} (h : IntsR w n0 v l) (k : Old n0 w w') : IntsR w' n0 v l :=
  ElR.mono h (Nat.le_refl _) fun i y _ hy hE s hs => k.cellx (hE s hs) (by rw [add_block]; exact hy)
theorem FunsR.old {w w' : World} {n0 : Nat} {v : Value} {l : List PF} (h : FunsR w n0 v l) (k : Old n0 w w') : FunsR w' n0 v l :=
  ElR.mono h (Nat.le_refl _) fun i y _ hy hE s hs => by
    obtain ⟨pv, h1, h2, h3, h4⟩ := hE s hs
    exact ⟨pv, k.cellx h1 (by rw [add_block]; exact hy), k.cellx h2 (by rw [add_block, add_block]; exact hy), k.cellx h3 (by rw [add_block, add_block]; exact hy), h4.old k⟩
theorem StmtsR.old {w w' : World} {n0 : Nat} {v : Value} {l : List PS} (h : StmtsR w n0 v l) (k : Old n0 w w') : StmtsR w' n0 v l :=
  ElR.mono h (Nat.le_refl _) fun i y _ hy hE s hs => by
    obtain ⟨pv, h1, h2, h3, h4, h5⟩ := hE s hs
    exact ⟨pv, k.cellx h1 (by rw [add_block]; exact hy), k.cellx h2 (by rw [add_block, add_block]; exact hy), k.cellx h3 (by rw [add_block, add_block]; exact hy), k.cellx h4 (by rw [add_block, add_block]; exact hy), h5.old k⟩
theorem ProgR.old {w w' : World} {n0 : Nat} {v1 v2 v3 : Value} {P : PP} (h : ProgR w n0 v1 v2 v3 P) (k : Old n0 w w') : ProgR w' n0 v1 v2 v3 P := ⟨h.vars.old k, h.funs.old k, h.stmts.old k⟩
theorem ProgR.ext {w w' : World} {n0 : Nat} {v1 v2 v3 : Value} {P : PP} (h : ProgR w n0 v1 v2 v3 P) (k : Ext w w') : ProgR w' n0 v1 v2 v3 P := h.old (k.old _)
theorem IntsR.ints {w : World} {n0 : Nat} {a : Option Addr} {n cap : Nat} {l : List Int} (h : IntsR w n0 (.slice a n cap) l) (hi : ∀ i, l.getD i 0 ≤ 9223372036854775807) : Ints w a l.length l := by
  obtain ⟨a', cap', h1, h2, h3, h4, h5⟩ := h
  obtain ⟨rfl, rfl, rfl⟩ : a = a' ∧ n = l.length ∧ cap = cap' := by simpa using h1
  refine ⟨rfl, h4, fun x hx i hi => ?_, hi⟩
  rw [(h5 x hx (by omega)).2 i hi (l[i]'hi) (List.getElem?_eq_getElem hi)]
  simp [List.getD_eq_getElem?_getD, hi]

/-- Is a string one of these? -/
def eqB (s t : ByteArray) : Bool := s.toList == t.toList
def memB (s : ByteArray) (l : List ByteArray) : Bool := l.any fun t => eqB s t
/-- Is one there ahead of its place? -/
def dupS (l : List ByteArray) : Bool := (List.range l.length).any fun i => memB (l.getD i ⟨#[]⟩) (l.take i)
def dupI (l : List Int) : Bool := (List.range l.length).any fun i => decide (l.getD i 0 ∈ l.take i)
def letters : List UInt8 := [97, 98, 99, 100, 101, 102, 103, 104, 105, 106, 107, 108, 109, 110, 111, 112, 113, 114, 115, 116, 117, 118, 119, 120, 121, 122, 48, 49, 50, 51, 52, 53, 54, 55, 56, 57]
def PP.inV (P : PP) (n : Int) : Bool := !(decide (n < 0) || decide ((P.vars.length : Int) ≤ n))
def PP.allV (P : PP) (l : List Int) : Bool := l.all P.inV
end Go.Proofs.YtohfdecefikinaaGreatDoor


/- Programs: what is one of a list; what is there twice. -/
namespace Go.Proofs.YtohfdecefikinaaGreatDoor
set_option linter.unusedSimpArgs false
set_option linter.unusedVariables false
open Go Go.RowKit

set_option maxRecDepth 100000 in
set_option maxHeartbeats 800000 in
theorem indexs_any (v : Value) (l : List ByteArray) (s : ByteArray) (w : World) (n0 : Nat) (h : StrsR w n0 v l) : Calls Tryz.prog 107 #[v, .string s] w fun e w' => ∃ r : Int, e = .returned (.int .i64 r) ∧ IdxR (memB s l = true) r ∧ w = w' := by
  obtain ⟨a, cap, rfl, h2, h3, h4, h5⟩ := h
  have H4 := hid h4
  have H5 := hid h5
  have hml : (l.length : Int) ≤ 9223372036854775807 := by omega
  clear h2 h3 h4 h5
  go_enter Tryz.func107, Tryz.ntmps107
  go_wp2
  go_loop [8] (fun t8 => ∃ k : Nat, t8 = .int .i64 (k : Int) ∧ k ≤ l.length ∧ ∀ j t, j < k → l[j]? = some t → eqB s t = false) (fun t8 => l.length - (intOf t8).toNat)
  case atStart => exact ⟨0, rfl, Nat.zero_le _, fun j t h => by omega⟩
  case round =>
    obtain ⟨k, rfl, hk, hne⟩ := hrel
    have Hne := hid hne
    clear hne
    by_cases hlt : k < l.length
    · obtain ⟨y, rfl⟩ := H4.out (by omega)
      have hxk : l[k]? = some (l[k]'hlt) := List.getElem?_eq_getElem hlt
      obtain ⟨t, ht⟩ : ∃ t, t = l[k]'hlt := ⟨_, rfl⟩
      rw [← ht] at hxk
      have hc := (H5.out y rfl (by omega)).2 k hlt t hxk
      have Hxk := hid hxk
      clear hxk ht
      cases he : eqB s t with
      | true =>
        have Hin := hid (IdxR.yes (k := k) (show memB s l = true from List.any_eq_true.2 ⟨t, List.mem_of_getElem? Hxk.out, he⟩) (by omega))
        unfold eqB at he
        go_wp2
        go_ret
        exact ⟨(k : Int), rfl, Hin.out, rfl⟩
      | false =>
        have Hf := hid he
        unfold eqB at he
        go_wp2
        refine ⟨⟨k + 1, by go_num, by omega, fun j u hj hu => ?_⟩, by simp [intOf]; omega⟩
        by_cases hjk : j = k
        · subst hjk
          obtain rfl := Option.some.inj (Hxk.out.symm.trans hu)
          exact Hf.out
        · exact Hne.out j u (by omega) hu
    · obtain rfl : k = l.length := by omega
      have Hnot := hid (IdxR.no (show ¬ memB s l = true from fun hm => by
        obtain ⟨t, ht, e⟩ := List.any_eq_true.1 hm
        obtain ⟨j, hj, e2⟩ := List.mem_iff_getElem.1 ht
        rw [Hne.out j t hj (by rw [List.getElem?_eq_getElem hj, e2])] at e
        cases e))
      go_wp2
      go_ret
      exact ⟨(-1 : Int), rfl, Hnot.out, rfl⟩

set_option maxRecDepth 100000 in
set_option maxHeartbeats 800000 in
theorem containss_any (v : Value) (l : List ByteArray) (s : ByteArray) (w : World) (n0 : Nat) (h : StrsR w n0 v l) : Calls Tryz.prog 80 #[v, .string s] w fun e w' => e = .returned (.bool (memB s l)) ∧ w = w' := by
  have H := hid (indexs_any v l s w n0 h)
  obtain ⟨a, cap, rfl, _⟩ := h
  go_enter Tryz.func80, Tryz.ntmps80
  go_wp2_with fail
  refine H.out.mono ?_
  intro e w1 hx
  obtain ⟨r, rfl, hiff, rfl⟩ := hx
  have hr := hiff.1
  have Hiff := hid hiff.2
  clear hiff H
  go_wp2
  go_ret
  refine ⟨congrArg (fun n => Ending.returned (Value.bool n)) ?_, rfl⟩
  have h1 := Hiff.out
  cases hv : memB s l with
  | true => rw [hv] at h1; simpa using h1
  | false => rw [hv] at h1; simpa using h1

set_option maxRecDepth 100000 in
set_option maxHeartbeats 800000 in
theorem indexi_any (v : Value) (l : List Int) (s : Int) (w : World) (n0 : Nat) (h : IntsR w n0 v l) : Calls Tryz.prog 102 #[v, .int .i64 s] w fun e w' => ∃ r : Int, e = .returned (.int .i64 r) ∧ IdxR (s ∈ l) r ∧ w = w' := by
  obtain ⟨a, cap, rfl, h2, h3, h4, h5⟩ := h
  have H4 := hid h4
  have H5 := hid h5
  have hml : (l.length : Int) ≤ 9223372036854775807 := by omega
  clear h2 h3 h4 h5
  go_enter Tryz.func102, Tryz.ntmps102
  go_wp2
  go_loop [8] (fun t8 => ∃ k : Nat, t8 = .int .i64 (k : Int) ∧ k ≤ l.length ∧ ∀ j t, j < k → l[j]? = some t → s ≠ t) (fun t8 => l.length - (intOf t8).toNat)
  case atStart => exact ⟨0, rfl, Nat.zero_le _, fun j t h => by omega⟩
  case round =>
    obtain ⟨k, rfl, hk, hne⟩ := hrel
    have Hne := hid hne
    clear hne
    by_cases hlt : k < l.length
    · obtain ⟨y, rfl⟩ := H4.out (by omega)
      have hxk : l[k]? = some (l[k]'hlt) := List.getElem?_eq_getElem hlt
      obtain ⟨t, ht⟩ : ∃ t, t = l[k]'hlt := ⟨_, rfl⟩
      rw [← ht] at hxk
      have hc := (H5.out y rfl (by omega)).2 k hlt t hxk
      have Hxk := hid hxk
      clear hxk ht
      by_cases he : s = t
      · subst he
        have Hin := hid (IdxR.yes (k := k) (List.mem_of_getElem? Hxk.out) (by omega))
        go_wp2
        go_ret
        exact ⟨(k : Int), rfl, Hin.out, rfl⟩
      · have Hf := hid he
        go_wp2
        refine ⟨⟨k + 1, by go_num, by omega, fun j u hj hu => ?_⟩, by simp [intOf]; omega⟩
        by_cases hjk : j = k
        · subst hjk
          obtain rfl := Option.some.inj (Hxk.out.symm.trans hu)
          exact Hf.out
        · exact Hne.out j u (by omega) hu
    · obtain rfl : k = l.length := by omega
      have Hnot := hid (IdxR.no (show ¬ s ∈ l from fun ht => by
        obtain ⟨j, hj, e2⟩ := List.mem_iff_getElem.1 ht
        exact Hne.out j s hj (by rw [List.getElem?_eq_getElem hj, e2]) rfl))
      go_wp2
      go_ret
      exact ⟨(-1 : Int), rfl, Hnot.out, rfl⟩
set_option maxRecDepth 100000 in
set_option maxHeartbeats 800000 in
theorem containsi_any (v : Value) (l : List Int) (s : Int) (w : World) (n0 : Nat) (h : IntsR w n0 v l) : Calls Tryz.prog 71 #[v, .int .i64 s] w fun e w' => e = .returned (.bool (decide (s ∈ l))) ∧ w = w' := by
  have H := hid (indexi_any v l s w n0 h)
  obtain ⟨a, cap, rfl, _⟩ := h
  go_enter Tryz.func71, Tryz.ntmps71
  go_wp2_with fail
  refine H.out.mono ?_
  intro e w1 hx
  obtain ⟨r, rfl, hiff, rfl⟩ := hx
  have hr := hiff.1
  have Hiff := hid hiff.2
  clear hiff H
  go_wp2
  go_ret
  refine ⟨?_, rfl⟩
  exact congrArg (fun n => Ending.returned (Value.bool n)) (decide_eq_decide.2 Hiff.out)

theorem IntsR.take {w : World} {n0 : Nat} {a : Option Addr} {n cap : Nat} {l : List Int} (h : IntsR w n0 (.slice a n cap) l) (i : Nat) (hi : i ≤ l.length) : IntsR w n0 (.slice a i cap) (l.take i) := by
  obtain ⟨a', cap', h1, h2, h3, h4, h5⟩ := h
  obtain ⟨rfl, rfl, rfl⟩ : a = a' ∧ n = l.length ∧ cap = cap' := by simpa using h1
  have hl : (l.take i).length = i := by simp; omega
  unfold IntsR
  rw [hl]
  refine ⟨a, cap, rfl, by omega, h3, fun h0 => h4 (by omega), fun y hy h0 => ⟨(h5 y hy (by omega)).1, fun j hj s hs => (h5 y hy (by omega)).2 j (by omega) s ?_⟩⟩
  rwa [List.getElem?_take, if_pos hj] at hs
theorem StrsR.take {w : World} {n0 : Nat} {a : Option Addr} {n cap : Nat} {l : List ByteArray} (h : StrsR w n0 (.slice a n cap) l) (i : Nat) (hi : i ≤ l.length) : StrsR w n0 (.slice a i cap) (l.take i) := by
  obtain ⟨a', cap', h1, h2, h3, h4, h5⟩ := h
  obtain ⟨rfl, rfl, rfl⟩ : a = a' ∧ n = l.length ∧ cap = cap' := by simpa using h1
  have hl : (l.take i).length = i := by simp; omega
  unfold StrsR
  rw [hl]
  refine ⟨a, cap, rfl, by omega, h3, fun h0 => h4 (by omega), fun y hy h0 => ⟨(h5 y hy (by omega)).1, fun j hj s hs => (h5 y hy (by omega)).2 j (by omega) s ?_⟩⟩
  rwa [List.getElem?_take, if_pos hj] at hs

set_option maxRecDepth 100000 in
set_option maxHeartbeats 800000 in
theorem twice_any (v : Value) (l : List Int) (w : World) (n0 : Nat) (h : IntsR w n0 v l) : Calls Tryz.prog 82 #[v] w fun e w' => e = .returned (.bool (dupI l)) ∧ w = w' := by
  have HI := hid h
  obtain ⟨a, cap, rfl, h2, h3, h4, h5⟩ := h
  have H4 := hid h4
  have H5 := hid h5
  have hml : (l.length : Int) ≤ 9223372036854775807 := by omega
  clear h4 h5
  go_enter Tryz.func82, Tryz.ntmps82
  go_wp2
  go_loop [7] (fun t7 => ∃ k : Nat, t7 = .int .i64 (k : Int) ∧ k ≤ l.length ∧ ∀ j, j < k → ¬ l.getD j 0 ∈ l.take j) (fun t7 => l.length - (intOf t7).toNat)
  case atStart => exact ⟨0, rfl, Nat.zero_le _, fun j h => by omega⟩
  case round =>
    obtain ⟨k, rfl, hk, hne⟩ := hrel
    have Hne := hid hne
    clear hne
    by_cases hlt : k < l.length
    · obtain ⟨y, rfl⟩ := H4.out (by omega)
      have hxk : l[k]? = some (l.getD k 0) := by simp [List.getD_eq_getElem?_getD, hlt]
      have hc := (H5.out y rfl (by omega)).2 k hlt _ hxk
      have HC := hid (containsi_any _ _ (l.getD k 0) w n0 (HI.out.take k hk))
      obtain ⟨t, ht⟩ : ∃ t, t = l.getD k 0 := ⟨_, rfl⟩
      rw [← ht] at hc HC
      have Ht := hid ht
      clear ht hxk
      go_wp2_with fail
      refine HC.out.mono ?_
      intro e w1 hx
      obtain ⟨rfl, rfl⟩ := hx
      clear HC
      by_cases he : t ∈ l.take k
      · have Hin : Hid (dupI l = true) := hid (List.any_eq_true.2 ⟨k, List.mem_range.2 hlt, by simp only [decide_eq_true_eq]; rw [← Ht.out]; exact he⟩)
        rw [decide_eq_true he]
        go_wp2
        go_ret
        exact ⟨by rw [Hin.out]; rfl, rfl⟩
      · have Hf := hid he
        rw [decide_eq_false he]
        clear he
        go_wp2
        refine ⟨⟨k + 1, by go_num, by omega, fun j hj => ?_⟩, by simp [intOf]; omega⟩
        by_cases hjk : j = k
        · subst hjk; rw [← Ht.out]; exact Hf.out
        · exact Hne.out j (by omega)
    · obtain rfl : k = l.length := by omega
      have Hnot : Hid (dupI l = false) := hid (List.any_eq_false.2 fun j hj => by simp only [decide_eq_true_eq]; exact Hne.out j (List.mem_range.1 hj))
      go_wp2
      go_ret
      exact ⟨by rw [Hnot.out]; rfl, rfl⟩
end Go.Proofs.YtohfdecefikinaaGreatDoor


/- The contract of strings.Trim, laid at the numbers of this seat (written by the shelf's tool). -/
namespace Go.Proofs
open Go.Shelf
def Tryz.lays160_ren : Go.Shelf.Ren := ⟨fun | 160 => 106 | 232 => 126 | 231 => 125 | 227 => 127 | 234 => 129 | 233 => 128 | 236 => 131 | 235 => 130 | 228 => 137 | 271 => 140 | 151 => 139 | 197 => 138 | 120 => 144 | 152 => 143 | 260 => 142 | 137 => 145 | 119 => 146 | 224 => 147 | 225 => 148 | 217 => 149 | 266 => 150 | n => n, fun | 9 => 9 | 4 => 4 | 3 => 3 | 5 => 5 | 117 => 185 | 116 => 184 | 0 => 0 | 124 => 188 | 21 => 21 | 105 => 194 | 46 => 113 | 119 => 199 | 139 => 202 | 138 => 201 | n => n, fun | 3 => 12 | 4 => 13 | n => n⟩
theorem Tryz.lays160 : Go.Proofs.Lays.n160 Tryz.prog Tryz.lays160_ren := {
  mixed := by kernel_rfl
  f119 := Tryz.func146.trans (congrArg some (by kernel_rfl))
  f120 := Tryz.func144.trans (congrArg some (by kernel_rfl))
  f137 := Tryz.func145.trans (congrArg some (by kernel_rfl))
  f151 := Tryz.func139.trans (congrArg some (by kernel_rfl))
  f152 := Tryz.func143.trans (congrArg some (by kernel_rfl))
  f160 := Tryz.func106.trans (congrArg some (by kernel_rfl))
  f197 := Tryz.func138.trans (congrArg some (by kernel_rfl))
  f217 := Tryz.func149.trans (congrArg some (by kernel_rfl))
  f224 := Tryz.func147.trans (congrArg some (by kernel_rfl))
  f225 := Tryz.func148.trans (congrArg some (by kernel_rfl))
  f227 := Tryz.func127.trans (congrArg some (by kernel_rfl))
  f228 := Tryz.func137.trans (congrArg some (by kernel_rfl))
  f231 := Tryz.func125.trans (congrArg some (by kernel_rfl))
  f232 := Tryz.func126.trans (congrArg some (by kernel_rfl))
  f233 := Tryz.func128.trans (congrArg some (by kernel_rfl))
  f234 := Tryz.func129.trans (congrArg some (by kernel_rfl))
  f235 := Tryz.func130.trans (congrArg some (by kernel_rfl))
  f236 := Tryz.func131.trans (congrArg some (by kernel_rfl))
  f260 := Tryz.func142.trans (congrArg some (by kernel_rfl))
  f266 := Tryz.func150.trans (congrArg some (by kernel_rfl))
  f271 := Tryz.func140.trans (congrArg some (by kernel_rfl))
  t0 := Tryz.underlying0
  a0 := Tryz.isAgg0
  z0 := Tryz.sizeOf0
  v0 := Tryz.zeroValue0
  t3 := Tryz.underlying3
  a3 := Tryz.isAgg3
  z3 := Tryz.sizeOf3
  v3 := Tryz.zeroValue3
  t4 := Tryz.underlying4
  a4 := Tryz.isAgg4
  z4 := Tryz.sizeOf4
  v4 := Tryz.zeroValue4
  t5 := Tryz.underlying5
  a5 := Tryz.isAgg5
  z5 := Tryz.sizeOf5
  v5 := Tryz.zeroValue5
  t9 := Tryz.underlying9
  a9 := Tryz.isAgg9
  z9 := Tryz.sizeOf9
  v9 := Tryz.zeroValue9
  t21 := Tryz.underlying21
  a21 := Tryz.isAgg21
  z21 := Tryz.sizeOf21
  v21 := Tryz.zeroValue21
  t46 := Tryz.underlying113
  a46 := Tryz.isAgg113
  z46 := Tryz.sizeOf113
  v46 := Tryz.zeroValue113
  t105 := Tryz.underlying194
  a105 := Tryz.isAgg194
  z105 := Tryz.sizeOf194
  v105 := Tryz.zeroValue194
  t116 := Tryz.underlying184
  a116 := Tryz.isAgg184
  z116 := Tryz.sizeOf184
  t117 := Tryz.underlying185
  a117 := Tryz.isAgg185
  z117 := Tryz.sizeOf185
  v117 := Tryz.zeroValue185
  t119 := Tryz.underlying199
  a119 := Tryz.isAgg199
  z119 := Tryz.sizeOf199
  t124 := Tryz.underlying188
  a124 := Tryz.isAgg188
  z124 := Tryz.sizeOf188
  v124 := Tryz.zeroValue188
  t138 := Tryz.underlying201
  a138 := Tryz.isAgg201
  z138 := Tryz.sizeOf201
  v138 := Tryz.zeroValue201
  t139 := Tryz.underlying202
  a139 := Tryz.isAgg202
  z139 := Tryz.sizeOf202
  v139 := Tryz.zeroValue202
  g3 := by kernel_rfl
  g4 := by kernel_rfl }
end Go.Proofs
