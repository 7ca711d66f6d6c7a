
/- Links: a frame is copied; a sender and a receiver are made. -/
import Derived.Test.YtcfopaopcbjkeaaDoorL1
import Derived.Test.YtcfopaopcbjkeaaDoorLM
import Derived.Lib.SliceRun
import Derived.Carry
namespace Go.Proofs.YtcfopaopcbjkeaaDoor
set_option linter.unusedSimpArgs false
set_option linter.unusedVariables false
open Go Go.RowKit

set_option maxRecDepth 100000 in
set_option maxHeartbeats 800000 in
theorem clone_any (a : Option Addr) (n cap : Nat) (vs : List Int) (w : World) (hr : Ints w a n vs) (hl : n ≤ 1000) :
    Calls Tryd.prog 69 #[.slice a n cap] w fun e w' => ∃ v, e = .returned v ∧ Ext w w' ∧ IRow w.heap.size w' v vs := by
  cases a with
  | none =>
    obtain rfl : n = 0 := by
      rcases Nat.eq_zero_or_pos n with h | h
      · exact h
      · obtain ⟨x, hx⟩ := hr.sm h; cases hx
    obtain rfl : vs = [] := List.eq_nil_of_length_eq_zero hr.ln
    have he := Lib.run_eql_slice_nil (P := Tryd.prog) w 22 3 none 0 cap 0 0 Tryd.underlying22
    clear hr
    go_enter Tryd.func69, Tryd.ntmps69
    go_wp2
    go_ret
    exact ⟨_, rfl, Ext.refl _, IRow.nil _ _⟩
  | some x =>
    have Hr := hid hr
    have hl2 : ([] : List Int).length + n ≤ 1000000 := by simp; omega
    have hnil : IRow w.heap.size (w.alloc (.cells #[] 3)) (.slice (some ⟨w.heap.size, 0, none⟩) 0 0) [] := World.ownsRow_made w #[] 0 (Nat.le_refl _) (by unfold maxLen; omega) rfl
    have Hnil := hid hnil
    have hb : w.heap.size ≤ (w.alloc (.cells #[] 3)).heap.size := by simp
    have he := Lib.run_eql_slice_nil (P := Tryd.prog) w 22 3 (some x) n cap 0 0 Tryd.underlying22
    clear hr hnil
    go_enter Tryd.func69, Tryd.ntmps69
    go_wp2_with (at_builtin; refine wpList_append_ints w.heap.size hb rfl _ _ rfl (.slice (some ⟨w.heap.size, 0, none⟩) 0 0) [] rfl Hnil.out (some x) n cap vs rfl (Hr.out.ext ((Ext.refl _).alloc _)) hl2 ?_; intro v' w' h1 h2; have h3 := Keep.new ((Ext.refl w).alloc _) (grown_keep h2) (fun k hk => by simp [Value.ownBlock] at hk; omega))
    go_ret
    exact ⟨_, rfl, h3, h1⟩

set_option maxRecDepth 100000 in
set_option maxHeartbeats 1600000 in
theorem copied_any (f : Fr) (a : Option Addr) (cap : Nat) (w : World) (hr : Ints w a f.nums.length f.nums) (hl : f.nums.length ≤ 1000) :
    Calls Tryd.prog 49 #[frv f a cap] w fun e w' => ∃ v, e = .returned (FV.mk f v).val ∧ Ext w w' ∧ IRow w.heap.size w' v f.nums := by
  obtain ⟨kind, fr, to, seq, nums⟩ := f
  simp only at hr hl
  have HC := fun w1 (x : Ext w w1) => hid (clone_any a nums.length cap nums w1 (hr.ext x) hl)
  clear hr hl
  unfold frv
  simp only
  obtain ⟨W, hW⟩ : ∃ W, W = (w.alloc (.cells #[.int .u8 (kind.toNat : Int), .int .i64 fr, .int .i64 to, .int .i64 seq, .slice a nums.length cap] 34)).alloc (.cells frz 34) := ⟨_, rfl⟩
  have xW : Ext w W := by rw [hW]; exact ((Ext.refl w).alloc _).alloc _
  have bA : Blk W w.heap.size #[.int .u8 (kind.toNat : Int), .int .i64 fr, .int .i64 to, .int .i64 seq, .slice a nums.length cap] 34 := by rw [hW]; exact (Blk.new _ _ _).alloc _
  have bT : Blk W (w.heap.size + 1) frz 34 := by
    rw [hW]
    have := Blk.new (w.alloc (.cells #[.int .u8 (kind.toNat : Int), .int .i64 fr, .int .i64 to, .int .i64 seq, .slice a nums.length cap] 34)) frz 34
    rwa [heap_size_alloc] at this
  unfold frz at hW
  have hsz : W.heap.size = w.heap.size + 1 + 1 := by rw [hW]; simp
  have HW := hid hW
  clear hW
  have c4 := bA.av 4 rfl
  go_enter Tryd.func49, Tryd.ntmps49
  go_wp2_with fail
  rw [← HW.out]
  refine (HC W xW).out.mono ?_
  intro e w1 hx
  obtain ⟨v, rfl, hx1, hI⟩ := hx
  obtain ⟨a', c', rfl⟩ := hI.form
  have bA := bA.ext hx1
  have bT := bT.ext hx1
  have d0 := bA.av 0 rfl
  have d1 := bA.av 1 rfl
  have d2 := bA.av 2 rfl
  have d3 := bA.av 3 rfl
  have d4 := bA.av 4 rfl
  have e0 := bT.av 0 rfl
  have e1 := bT.av 1 rfl
  have e2 := bT.av 2 rfl
  have e3 := bT.av 3 rfl
  have e4 := bT.av 4 rfl
  have fA := bA.free
  have fT := bT.free
  have hne : w.heap.size ≠ w.heap.size + 1 := by omega
  have hBT := hid (store5 (b0 := .int .u8 (kind.toNat : Int)) (b1 := .int .i64 fr) (b2 := .int .i64 to) (b3 := .int .i64 seq) (b4 := .slice a' nums.length c') (bT.set_ne (p := ⟨w.heap.size, 4, none⟩) hne (.slice a' nums.length c')))
  have hk := hid ((Keep.set (X := fun b => b = w.heap.size ∨ b = w.heap.size + 1) (Keep.refl _ w1) (p := ⟨w.heap.size, 4, none⟩) (.inl rfl) (.slice a' nums.length c')).trans ((store5_keep (w1.setCell ⟨w.heap.size, 4, none⟩ (.slice a' nums.length c')) (w.heap.size + 1) (.int .u8 (kind.toNat : Int)) (.int .i64 fr) (.int .i64 to) (.int .i64 seq) (.slice a' nums.length c')).mono fun b _ h => .inr h))
  have bA' := hid bA
  have bT' := hid bT
  clear c4 bA bT HC
  have HI := hid hI
  have Hx := hid (xW.trans hx1)
  clear hI hx1 xW HW
  generalize hN : w.heap.size = N at *
  have HN := hid hN
  clear hN
  go_wp2
  exact bodyPost_ret (v := (FV.mk ⟨kind, fr, to, seq, nums⟩ (.slice a' nums.length c')).val) (by simp [results, Tryd.results49, go_sem, hBT.out.av 0 rfl, hBT.out.av 1 rfl, hBT.out.av 2 rfl, hBT.out.av 3 rfl, hBT.out.av 4 rfl]; rfl) rfl ⟨_, rfl, Keep.new Hx.out hk.out (fun b hb => by have := HN.out; rcases hb with hb | hb <;> omega), (HI.out.base (by have := HN.out; omega)).keep hk.out (fun b hb e => by have := (HI.out.lt hb).1; rcases e with e | e <;> omega)⟩

/-- Are the ends of a link so? -/
def endsCode (fr to : Int) : Nat := if fr < 0 ∨ 6 ≤ fr ∨ to < 0 ∨ 6 ≤ to then 2 else if fr = to then 3 else 0

set_option maxRecDepth 100000 in
set_option maxHeartbeats 800000 in
theorem ends_any (fr to : Int) (w : World) (ev : Nat → Value) (he : ErrsC w ev) : Calls Tryd.prog 48 #[.int .i64 fr, .int .i64 to] w fun e w' => e = .returned (errv ev (endsCode fr to)) ∧ w = w' := by
  have e2 := he.bound
  have e3 := he.shape
  clear he
  by_cases h1 : fr < 0
  · have Hc := hid (show endsCode fr to = 2 by unfold endsCode; rw [if_pos (.inl h1)])
    go_enter Tryd.func48, Tryd.ntmps48
    go_wp2
    go_ret
    exact ⟨by rw [Hc.out]; rfl, rfl⟩
  by_cases h2 : 6 ≤ fr
  · have Hc := hid (show endsCode fr to = 2 by unfold endsCode; rw [if_pos (.inr (.inl h2))])
    go_enter Tryd.func48, Tryd.ntmps48
    go_wp2
    go_ret
    exact ⟨by rw [Hc.out]; rfl, rfl⟩
  by_cases h3 : to < 0
  · have Hc := hid (show endsCode fr to = 2 by unfold endsCode; rw [if_pos (.inr (.inr (.inl h3)))])
    go_enter Tryd.func48, Tryd.ntmps48
    go_wp2
    go_ret
    exact ⟨by rw [Hc.out]; rfl, rfl⟩
  by_cases h4 : 6 ≤ to
  · have Hc := hid (show endsCode fr to = 2 by unfold endsCode; rw [if_pos (.inr (.inr (.inr h4)))])
    go_enter Tryd.func48, Tryd.ntmps48
    go_wp2
    go_ret
    exact ⟨by rw [Hc.out]; rfl, rfl⟩
  by_cases h5 : fr = to
  · have Hc := hid (show endsCode fr to = 3 by unfold endsCode; rw [if_neg (by omega), if_pos h5])
    subst h5
    go_enter Tryd.func48, Tryd.ntmps48
    go_wp2
    go_ret
    exact ⟨by rw [Hc.out]; rfl, rfl⟩
  · have Hc := hid (show endsCode fr to = 0 by unfold endsCode; rw [if_neg (by omega), if_neg h5])
    go_enter Tryd.func48, Tryd.ntmps48
    go_wp2
    go_ret
    exact ⟨by rw [Hc.out]; rfl, rfl⟩

def kcells (x : FV × Int) : List Value := x.1.cells ++ [.int .i64 x.2]
theorem kcells_len (x : FV × Int) : (kcells x).length = 6 := rfl
/-- A sender at p. -/
structure SndAt (w : World) (n0 : Nat) (t : Option Nat) (p : Nat) (s : Snd) (lv : Value) (ks : List (FV × Int)) : Prop where
  hp : Blk w p #[.int .i64 s.fr, .int .i64 s.to, .int .i64 s.next, .int .i64 s.now, lv] 106
  hl : w.ownsRow n0 113 6 lv ks.length (ks.flatMap kcells)
  hn : ∀ x ∈ ks, x.1.At w n0 t
  eq : s.l = ks.map fun x => (x.1.f, x.2)
  lo : n0 ≤ p
theorem SndAt.len {w : World} {n0 : Nat} {t : Option Nat} {p : Nat} {s : Snd} {lv : Value} {ks : List (FV × Int)} (h : SndAt w n0 t p s lv ks) : s.l.length = ks.length := by rw [h.eq]; simp
theorem SndAt.keep {w w' : World} {n0 : Nat} {t : Option Nat} {p : Nat} {s : Snd} {lv : Value} {ks : List (FV × Int)} {X : Nat → Prop} (h : SndAt w n0 t p s lv ks) (k : Keep X w w') (hx : Wr w n0 t X) (h1 : ¬ X p) (h2 : ∀ b, lv.ownBlock = some b → ¬ X b) : SndAt w' n0 t p s lv ks :=
  ⟨h.hp.keep k h1, row_keep h.hl k h2, fun x hm => NumsAt.keep (h.hn x hm) k hx, h.eq, h.lo⟩
theorem SndAt.ext {w w' : World} {n0 : Nat} {t : Option Nat} {p : Nat} {s : Snd} {lv : Value} {ks : List (FV × Int)} (h : SndAt w n0 t p s lv ks) (x : Ext w w') : SndAt w' n0 t p s lv ks :=
  h.keep (x.keep fun _ => False) Wr.none (fun e => e) fun _ _ e => e
/-- A receiver at q, its map in block b. -/
structure RcvAt (w : World) (n0 : Nat) (t : Option Nat) (q b : Nat) (r : Rcv) (ms : List FV) : Prop where
  hp : Blk w q #[.int .i64 r.fr, .int .i64 r.to, .int .i64 r.due, .map (some b)] 109
  hm : MapAt w b (ms.map fun x => (x.f.seq, x.val))
  hn : ∀ x ∈ ms, x.At w n0 t
  eq : r.wait = ms.map FV.f
  lo : n0 ≤ q ∧ n0 ≤ b
theorem RcvAt.keep {w w' : World} {n0 : Nat} {t : Option Nat} {q b : Nat} {r : Rcv} {ms : List FV} {X : Nat → Prop} (h : RcvAt w n0 t q b r ms) (k : Keep X w w') (hx : Wr w n0 t X) (h1 : ¬ X q) (h2 : ¬ X b) : RcvAt w' n0 t q b r ms :=
  ⟨h.hp.keep k h1, h.hm.keep k h2, fun x hm => NumsAt.keep (h.hn x hm) k hx, h.eq, h.lo⟩
theorem RcvAt.ext {w w' : World} {n0 : Nat} {t : Option Nat} {q b : Nat} {r : Rcv} {ms : List FV} (h : RcvAt w n0 t q b r ms) (x : Ext w w') : RcvAt w' n0 t q b r ms :=
  h.keep (x.keep fun _ => False) Wr.none (fun e => e) fun e => e

set_option maxRecDepth 100000 in
set_option maxHeartbeats 800000 in
theorem newS_bad (fr to : Int) (w : World) (ev : Nat → Value) (he : ErrsC w ev) (c : Nat) (hc : endsCode fr to = c) (h0 : c ≠ 0) (hev : ∃ t v, ev c = .iface t v) : Calls Tryd.prog 9 #[.int .i64 fr, .int .i64 to] w fun e w' => e = .returned (.tuple #[.pointer none, ev c]) ∧ w = w' := by
  have HE := hid (ends_any fr to w ev he)
  rw [hc] at HE
  unfold errv at HE
  rw [if_neg h0] at HE
  obtain ⟨t, v, hev⟩ := hev
  rw [hev] at HE ⊢
  clear he hc hev h0
  go_enter Tryd.func9, Tryd.ntmps9
  go_wp2_with fail
  refine HE.out.mono ?_
  intro e w1 hx
  obtain ⟨rfl, rfl⟩ := hx
  go_wp2
  go_ret2
  exact ⟨rfl, rfl⟩
set_option maxRecDepth 100000 in
set_option maxHeartbeats 800000 in
theorem newR_bad (fr to : Int) (w : World) (ev : Nat → Value) (he : ErrsC w ev) (c : Nat) (hc : endsCode fr to = c) (h0 : c ≠ 0) (hev : ∃ t v, ev c = .iface t v) : Calls Tryd.prog 10 #[.int .i64 fr, .int .i64 to] w fun e w' => e = .returned (.tuple #[.pointer none, ev c]) ∧ w = w' := by
  have HE := hid (ends_any fr to w ev he)
  rw [hc] at HE
  unfold errv at HE
  rw [if_neg h0] at HE
  obtain ⟨t, v, hev⟩ := hev
  rw [hev] at HE ⊢
  clear he hc hev h0
  go_enter Tryd.func10, Tryd.ntmps10
  go_wp2_with fail
  refine HE.out.mono ?_
  intro e w1 hx
  obtain ⟨rfl, rfl⟩ := hx
  go_wp2
  go_ret2
  exact ⟨rfl, rfl⟩
set_option maxRecDepth 100000 in
set_option maxHeartbeats 800000 in
theorem newS_ok (fr to : Int) (w : World) (ev : Nat → Value) (he : ErrsC w ev) (n0 : Nat) (t : Option Nat) (hn0 : n0 ≤ w.heap.size) (hc : endsCode fr to = 0) : Calls Tryd.prog 9 #[.int .i64 fr, .int .i64 to] w fun e w' => e = .returned (.tuple #[.pointer (some ⟨w.heap.size, 0, none⟩), .nilIface]) ∧ SndAt w' n0 t w.heap.size (Snd.new fr to) (.slice none 0 0) [] ∧ Ext w w' := by
  have HE := hid (ends_any fr to w ev he)
  rw [hc] at HE
  unfold errv at HE
  rw [if_pos rfl] at HE
  have hR := hid (show SndAt (w.alloc (.cells #[.int .i64 fr, .int .i64 to, .int .i64 0, .int .i64 0, .slice none 0 0] 106)) n0 t w.heap.size (Snd.new fr to) (.slice none 0 0) [] from ⟨Blk.new _ _ _, World.ownsRow_nil _ _ _ _, fun _ h => (by cases h), rfl, hn0⟩)
  clear he hc
  go_enter Tryd.func9, Tryd.ntmps9
  go_wp2_with fail
  refine HE.out.mono ?_
  intro e w1 hx
  obtain ⟨rfl, rfl⟩ := hx
  go_wp2
  go_ret2
  exact ⟨rfl, hR.out, (Ext.refl _).alloc _⟩
set_option maxRecDepth 100000 in
set_option maxHeartbeats 800000 in
theorem newR_ok (fr to : Int) (w : World) (ev : Nat → Value) (he : ErrsC w ev) (n0 : Nat) (t : Option Nat) (hn0 : n0 ≤ w.heap.size) (hc : endsCode fr to = 0) : Calls Tryd.prog 10 #[.int .i64 fr, .int .i64 to] w fun e w' => ∃ q b, e = .returned (.tuple #[.pointer (some ⟨q, 0, none⟩), .nilIface]) ∧ RcvAt w' n0 t q b (Rcv.new fr to) [] ∧ Ext w w' ∧ w.heap.size ≤ q ∧ w.heap.size ≤ b := by
  have HE := hid (ends_any fr to w ev he)
  rw [hc] at HE
  unfold errv at HE
  rw [if_pos rfl] at HE
  have hR := hid (show RcvAt ((w.alloc (.map #[] 0)).alloc (.cells #[.int .i64 fr, .int .i64 to, .int .i64 0, .map (some w.heap.size)] 109)) n0 t (w.heap.size + 1) w.heap.size (Rcv.new fr to) [] from by
    refine ⟨?_, (MapAt.new w).ext ((Ext.refl _).alloc _), fun _ h => (by cases h), rfl, by omega, hn0⟩
    have := Blk.new (w.alloc (.map #[] 0)) #[.int .i64 fr, .int .i64 to, .int .i64 0, .map (some w.heap.size)] 109
    rwa [heap_size_alloc] at this)
  have hmm := @run_makeMap Tryd.prog
  clear he hc
  go_enter Tryd.func10, Tryd.ntmps10
  go_wp2_with fail
  refine HE.out.mono ?_
  intro e w1 hx
  obtain ⟨rfl, rfl⟩ := hx
  go_wp2
  go_ret2
  exact ⟨w.heap.size + 1, w.heap.size, rfl, hR.out, ((Ext.refl _).alloc _).alloc _, by omega, by omega⟩

set_option maxRecDepth 100000 in
set_option maxHeartbeats 400000 in
theorem waits_any (w : World) (n0 : Nat) (t : Option Nat) (p : Nat) (s : Snd) (lv : Value) (ks : List (FV × Int)) (h : SndAt w n0 t p s lv ks) : Calls Tryd.prog 17 #[.pointer (some ⟨p, 0, none⟩)] w fun e w' => e = .returned (.int .i64 (s.l.length : Int)) ∧ w = w' := by
  have c4 := h.hp.av 4 rfl
  obtain ⟨a, c, hlv⟩ := row_form h.hl
  rw [h.len]
  subst hlv
  clear h
  generalize ks.length = n at *
  go_enter Tryd.func17, Tryd.ntmps17
  go_wp2
  go_ret
  exact ⟨rfl, rfl⟩
set_option maxRecDepth 100000 in
set_option maxHeartbeats 400000 in
theorem due_any (w : World) (n0 : Nat) (t : Option Nat) (q b : Nat) (r : Rcv) (ms : List FV) (h : RcvAt w n0 t q b r ms) : Calls Tryd.prog 14 #[.pointer (some ⟨q, 0, none⟩)] w fun e w' => e = .returned (.int .i64 r.due) ∧ w = w' := by
  have c2 := h.hp.av 2 rfl
  clear h
  go_enter Tryd.func14, Tryd.ntmps14
  go_wp2
  go_ret
  exact ⟨rfl, rfl⟩
end Go.Proofs.YtcfopaopcbjkeaaDoor
