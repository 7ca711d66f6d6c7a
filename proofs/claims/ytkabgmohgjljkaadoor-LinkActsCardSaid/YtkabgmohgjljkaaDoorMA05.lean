/- Texts of one proof, put together: L2 L3. -/
import Derived.Test.YtkabgmohgjljkaaDoorMA04
import Derived.Lib.SliceRun
import Derived.Carry

/- Links: a frame is copied; a sender and a receiver are made. -/
namespace Go.Proofs.YtkabgmohgjljkaaDoor
set_option linter.unusedSimpArgs false
set_option linter.unusedVariables false
open Go Go.RowKit

set_option maxRecDepth 100000 in
set_option maxHeartbeats 800000 in
theorem clone_any (a : Option Addr) (n cap : Nat) (vs : List Int) (w : World) (hr : Ints w a n vs) (hl : n ≤ 1000) :
    Calls Tryd.prog 51 #[.slice a n cap] w fun e w' => ∃ v, e = .returned v ∧ Ext w w' ∧ IRow w.heap.size w' v vs := by
  cases a with
  | none =>
    obtain rfl : n = 0 := by
      rcases Nat.eq_zero_or_pos n with h | h
      · exact h
      · obtain ⟨x, hx⟩ := hr.sm h; cases hx
    obtain rfl : vs = [] := List.eq_nil_of_length_eq_zero hr.ln
    have he := Lib.run_eql_slice_nil (P := Tryd.prog) w 43 3 none 0 cap 0 0 Tryd.underlying43
    clear hr
    go_enter Tryd.func51, Tryd.ntmps51
    go_wp2
    go_ret
    exact ⟨_, rfl, Ext.refl _, IRow.nil _ _⟩
  | some x =>
    have Hr := hid hr
    have hl2 : ([] : List Int).length + n ≤ 1000000 := by simp; omega
    have hnil : IRow w.heap.size (w.alloc (.cells #[] 3)) (.slice (some ⟨w.heap.size, 0, none⟩) 0 0) [] := World.ownsRow_made w #[] 0 (Nat.le_refl _) (by unfold maxLen; omega) rfl
    have Hnil := hid hnil
    have hb : w.heap.size ≤ (w.alloc (.cells #[] 3)).heap.size := by simp
    have he := Lib.run_eql_slice_nil (P := Tryd.prog) w 43 3 (some x) n cap 0 0 Tryd.underlying43
    clear hr hnil
    go_enter Tryd.func51, Tryd.ntmps51
    go_wp2_with (at_builtin; refine wpList_append_ints w.heap.size hb rfl _ _ rfl (.slice (some ⟨w.heap.size, 0, none⟩) 0 0) [] rfl Hnil.out (some x) n cap vs rfl (Hr.out.ext ((Ext.refl _).alloc _)) hl2 ?_; intro v' w' h1 h2; have h3 := Keep.new ((Ext.refl w).alloc _) (grown_keep h2) (fun k hk => by simp [Value.ownBlock] at hk; omega))
    go_ret
    exact ⟨_, rfl, h3, h1⟩

set_option maxRecDepth 100000 in
set_option maxHeartbeats 1600000 in
theorem copied_any (f : Fr) (a : Option Addr) (cap : Nat) (w : World) (hr : Ints w a f.nums.length f.nums) (hl : f.nums.length ≤ 1000) :
    Calls Tryd.prog 34 #[frv f a cap] w fun e w' => ∃ v, e = .returned (FV.mk f v).val ∧ Ext w w' ∧ IRow w.heap.size w' v f.nums := by
  obtain ⟨kind, fr, to, seq, nums⟩ := f
  simp only at hr hl
  have HC := fun w1 (x : Ext w w1) => hid (clone_any a nums.length cap nums w1 (hr.ext x) hl)
  clear hr hl
  unfold frv
  simp only
  obtain ⟨W, hW⟩ : ∃ W, W = (w.alloc (.cells #[.int .u8 (kind.toNat : Int), .int .i64 fr, .int .i64 to, .int .i64 seq, .slice a nums.length cap] 48)).alloc (.cells frz 48) := ⟨_, rfl⟩
  have xW : Ext w W := by rw [hW]; exact ((Ext.refl w).alloc _).alloc _
  have bA : Blk W w.heap.size #[.int .u8 (kind.toNat : Int), .int .i64 fr, .int .i64 to, .int .i64 seq, .slice a nums.length cap] 48 := by rw [hW]; exact (Blk.new _ _ _).alloc _
  have bT : Blk W (w.heap.size + 1) frz 48 := by
    rw [hW]
    have := Blk.new (w.alloc (.cells #[.int .u8 (kind.toNat : Int), .int .i64 fr, .int .i64 to, .int .i64 seq, .slice a nums.length cap] 48)) frz 48
    rwa [heap_size_alloc] at this
  unfold frz at hW
  have hsz : W.heap.size = w.heap.size + 1 + 1 := by rw [hW]; simp
  have HW := hid hW
  clear hW
  have c4 := bA.av 4 rfl
  go_enter Tryd.func34, Tryd.ntmps34
  go_wp2_with fail
  rw [← HW.out]
  refine (HC W xW).out.mono ?_
  intro e w1 hx
  obtain ⟨v, rfl, hx1, hI⟩ := hx
  obtain ⟨a', c', rfl⟩ := hI.form
  have bA := bA.ext hx1
  have bT := bT.ext hx1
  have d0 := bA.av 0 rfl
  have d1 := bA.av 1 rfl
  have d2 := bA.av 2 rfl
  have d3 := bA.av 3 rfl
  have d4 := bA.av 4 rfl
  have e0 := bT.av 0 rfl
  have e1 := bT.av 1 rfl
  have e2 := bT.av 2 rfl
  have e3 := bT.av 3 rfl
  have e4 := bT.av 4 rfl
  have fA := bA.free
  have fT := bT.free
  have hne : w.heap.size ≠ w.heap.size + 1 := by omega
  have hBT := hid (store5 (b0 := .int .u8 (kind.toNat : Int)) (b1 := .int .i64 fr) (b2 := .int .i64 to) (b3 := .int .i64 seq) (b4 := .slice a' nums.length c') (bT.set_ne (p := ⟨w.heap.size, 4, none⟩) hne (.slice a' nums.length c')))
  have hk := hid ((Keep.set (X := fun b => b = w.heap.size ∨ b = w.heap.size + 1) (Keep.refl _ w1) (p := ⟨w.heap.size, 4, none⟩) (.inl rfl) (.slice a' nums.length c')).trans ((store5_keep (w1.setCell ⟨w.heap.size, 4, none⟩ (.slice a' nums.length c')) (w.heap.size + 1) (.int .u8 (kind.toNat : Int)) (.int .i64 fr) (.int .i64 to) (.int .i64 seq) (.slice a' nums.length c')).mono fun b _ h => .inr h))
  have bA' := hid bA
  have bT' := hid bT
  clear c4 bA bT HC
  have HI := hid hI
  have Hx := hid (xW.trans hx1)
  clear hI hx1 xW HW
  generalize hN : w.heap.size = N at *
  have HN := hid hN
  clear hN
  go_wp2
  exact bodyPost_ret (v := (FV.mk ⟨kind, fr, to, seq, nums⟩ (.slice a' nums.length c')).val) (by simp [results, Tryd.results34, go_sem, hBT.out.av 0 rfl, hBT.out.av 1 rfl, hBT.out.av 2 rfl, hBT.out.av 3 rfl, hBT.out.av 4 rfl]; rfl) rfl ⟨_, rfl, Keep.new Hx.out hk.out (fun b hb => by have := HN.out; rcases hb with hb | hb <;> omega), (HI.out.base (by have := HN.out; omega)).keep hk.out (fun b hb e => by have := (HI.out.lt hb).1; rcases e with e | e <;> omega)⟩

/-- Are the ends of a link so? -/
def endsCode (fr to : Int) : Nat := if fr < 0 ∨ 6 ≤ fr ∨ to < 0 ∨ 6 ≤ to then 2 else if fr = to then 3 else 0

set_option maxRecDepth 100000 in
set_option maxHeartbeats 800000 in
theorem ends_any (fr to : Int) (w : World) (ev : Nat → Value) (he : ErrsC w ev) : Calls Tryd.prog 32 #[.int .i64 fr, .int .i64 to] w fun e w' => e = .returned (errv ev (endsCode fr to)) ∧ w = w' := by
  have e2 := he.bound
  have e3 := he.shape
  clear he
  by_cases h1 : fr < 0
  · have Hc := hid (show endsCode fr to = 2 by unfold endsCode; rw [if_pos (.inl h1)])
    go_enter Tryd.func32, Tryd.ntmps32
    go_wp2
    go_ret
    exact ⟨by rw [Hc.out]; rfl, rfl⟩
  by_cases h2 : 6 ≤ fr
  · have Hc := hid (show endsCode fr to = 2 by unfold endsCode; rw [if_pos (.inr (.inl h2))])
    go_enter Tryd.func32, Tryd.ntmps32
    go_wp2
    go_ret
    exact ⟨by rw [Hc.out]; rfl, rfl⟩
  by_cases h3 : to < 0
  · have Hc := hid (show endsCode fr to = 2 by unfold endsCode; rw [if_pos (.inr (.inr (.inl h3)))])
    go_enter Tryd.func32, Tryd.ntmps32
    go_wp2
    go_ret
    exact ⟨by rw [Hc.out]; rfl, rfl⟩
  by_cases h4 : 6 ≤ to
  · have Hc := hid (show endsCode fr to = 2 by unfold endsCode; rw [if_pos (.inr (.inr (.inr h4)))])
    go_enter Tryd.func32, Tryd.ntmps32
    go_wp2
    go_ret
    exact ⟨by rw [Hc.out]; rfl, rfl⟩
  by_cases h5 : fr = to
  · have Hc := hid (show endsCode fr to = 3 by unfold endsCode; rw [if_neg (by omega), if_pos h5])
    subst h5
    go_enter Tryd.func32, Tryd.ntmps32
    go_wp2
    go_ret
    exact ⟨by rw [Hc.out]; rfl, rfl⟩
  · have Hc := hid (show endsCode fr to = 0 by unfold endsCode; rw [if_neg (by omega), if_neg h5])
    go_enter Tryd.func32, Tryd.ntmps32
    go_wp2
    go_ret
    exact ⟨by rw [Hc.out]; rfl, rfl⟩

def kcells (x : FV × Int) : List Value := x.1.cells ++ [.int .i64 x.2]
theorem kcells_len (x : FV × Int) : (kcells x).length = 6 := rfl
/-- A sender at p. -/
structure SndAt (w : World) (n0 : Nat) (t : Option Nat) (p : Nat) (s : Snd) (lv : Value) (ks : List (FV × Int)) : Prop where
  hp : Blk w p #[.int .i64 s.fr, .int .i64 s.to, .int .i64 s.next, .int .i64 s.now, lv] 88
  hl : w.ownsRow n0 97 6 lv ks.length (ks.flatMap kcells)
  hn : ∀ x ∈ ks, x.1.At w n0 t
  eq : s.l = ks.map fun x => (x.1.f, x.2)
  lo : n0 ≤ p
theorem SndAt.len {w : World} {n0 : Nat} {t : Option Nat} {p : Nat} {s : Snd} {lv : Value} {ks : List (FV × Int)} (h : SndAt w n0 t p s lv ks) : s.l.length = ks.length := by rw [h.eq]; simp
theorem SndAt.keep {w w' : World} {n0 : Nat} {t : Option Nat} {p : Nat} {s : Snd} {lv : Value} {ks : List (FV × Int)} {X : Nat → Prop} (h : SndAt w n0 t p s lv ks) (k : Keep X w w') (hx : Wr w n0 t X) (h1 : ¬ X p) (h2 : ∀ b, lv.ownBlock = some b → ¬ X b) : SndAt w' n0 t p s lv ks :=
  ⟨h.hp.keep k h1, row_keep h.hl k h2, fun x hm => NumsAt.keep (h.hn x hm) k hx, h.eq, h.lo⟩
theorem SndAt.ext {w w' : World} {n0 : Nat} {t : Option Nat} {p : Nat} {s : Snd} {lv : Value} {ks : List (FV × Int)} (h : SndAt w n0 t p s lv ks) (x : Ext w w') : SndAt w' n0 t p s lv ks :=
  h.keep (x.keep fun _ => False) Wr.none (fun e => e) fun _ _ e => e
/-- A receiver at q, its map in block b. -/
structure RcvAt (w : World) (n0 : Nat) (t : Option Nat) (q b : Nat) (r : Rcv) (ms : List FV) : Prop where
  hp : Blk w q #[.int .i64 r.fr, .int .i64 r.to, .int .i64 r.due, .map (some b)] 91
  hm : MapAt w b (ms.map fun x => (x.f.seq, x.val))
  hn : ∀ x ∈ ms, x.At w n0 t
  eq : r.wait = ms.map FV.f
  lo : n0 ≤ q ∧ n0 ≤ b
theorem RcvAt.keep {w w' : World} {n0 : Nat} {t : Option Nat} {q b : Nat} {r : Rcv} {ms : List FV} {X : Nat → Prop} (h : RcvAt w n0 t q b r ms) (k : Keep X w w') (hx : Wr w n0 t X) (h1 : ¬ X q) (h2 : ¬ X b) : RcvAt w' n0 t q b r ms :=
  ⟨h.hp.keep k h1, h.hm.keep k h2, fun x hm => NumsAt.keep (h.hn x hm) k hx, h.eq, h.lo⟩
theorem RcvAt.ext {w w' : World} {n0 : Nat} {t : Option Nat} {q b : Nat} {r : Rcv} {ms : List FV} (h : RcvAt w n0 t q b r ms) (x : Ext w w') : RcvAt w' n0 t q b r ms :=
  h.keep (x.keep fun _ => False) Wr.none (fun e => e) fun e => e

set_option maxRecDepth 100000 in
set_option maxHeartbeats 800000 in
theorem newS_bad (fr to : Int) (w : World) (ev : Nat → Value) (he : ErrsC w ev) (c : Nat) (hc : endsCode fr to = c) (h0 : c ≠ 0) (hev : ∃ t v, ev c = .iface t v) : Calls Tryd.prog 7 #[.int .i64 fr, .int .i64 to] w fun e w' => e = .returned (.tuple #[.pointer none, ev c]) ∧ w = w' := by
  have HE := hid (ends_any fr to w ev he)
  rw [hc] at HE
  unfold errv at HE
  rw [if_neg h0] at HE
  obtain ⟨t, v, hev⟩ := hev
  rw [hev] at HE ⊢
  clear he hc hev h0
  go_enter Tryd.func7, Tryd.ntmps7
  go_wp2_with fail
  refine HE.out.mono ?_
  intro e w1 hx
  obtain ⟨rfl, rfl⟩ := hx
  go_wp2
  go_ret2
  exact ⟨rfl, rfl⟩
set_option maxRecDepth 100000 in
set_option maxHeartbeats 800000 in
theorem newR_bad (fr to : Int) (w : World) (ev : Nat → Value) (he : ErrsC w ev) (c : Nat) (hc : endsCode fr to = c) (h0 : c ≠ 0) (hev : ∃ t v, ev c = .iface t v) : Calls Tryd.prog 8 #[.int .i64 fr, .int .i64 to] w fun e w' => e = .returned (.tuple #[.pointer none, ev c]) ∧ w = w' := by
  have HE := hid (ends_any fr to w ev he)
  rw [hc] at HE
  unfold errv at HE
  rw [if_neg h0] at HE
  obtain ⟨t, v, hev⟩ := hev
  rw [hev] at HE ⊢
  clear he hc hev h0
  go_enter Tryd.func8, Tryd.ntmps8
  go_wp2_with fail
  refine HE.out.mono ?_
  intro e w1 hx
  obtain ⟨rfl, rfl⟩ := hx
  go_wp2
  go_ret2
  exact ⟨rfl, rfl⟩
set_option maxRecDepth 100000 in
set_option maxHeartbeats 800000 in
theorem newS_ok (fr to : Int) (w : World) (ev : Nat → Value) (he : ErrsC w ev) (n0 : Nat) (t : Option Nat) (hn0 : n0 ≤ w.heap.size) (hc : endsCode fr to = 0) : Calls Tryd.prog 7 #[.int .i64 fr, .int .i64 to] w fun e w' => e = .returned (.tuple #[.pointer (some ⟨w.heap.size, 0, none⟩), .nilIface]) ∧ SndAt w' n0 t w.heap.size (Snd.new fr to) (.slice none 0 0) [] ∧ Ext w w' := by
  have HE := hid (ends_any fr to w ev he)
  rw [hc] at HE
  unfold errv at HE
  rw [if_pos rfl] at HE
  have hR := hid (show SndAt (w.alloc (.cells #[.int .i64 fr, .int .i64 to, .int .i64 0, .int .i64 0, .slice none 0 0] 88)) n0 t w.heap.size (Snd.new fr to) (.slice none 0 0) [] from ⟨Blk.new _ _ _, World.ownsRow_nil _ _ _ _, fun _ h => (by cases h), rfl, hn0⟩)
  clear he hc
  go_enter Tryd.func7, Tryd.ntmps7
  go_wp2_with fail
  refine HE.out.mono ?_
  intro e w1 hx
  obtain ⟨rfl, rfl⟩ := hx
  go_wp2
  go_ret2
  exact ⟨rfl, hR.out, (Ext.refl _).alloc _⟩
set_option maxRecDepth 100000 in
set_option maxHeartbeats 800000 in
theorem newR_ok (fr to : Int) (w : World) (ev : Nat → Value) (he : ErrsC w ev) (n0 : Nat) (t : Option Nat) (hn0 : n0 ≤ w.heap.size) (hc : endsCode fr to = 0) : Calls Tryd.prog 8 #[.int .i64 fr, .int .i64 to] w fun e w' => ∃ q b, e = .returned (.tuple #[.pointer (some ⟨q, 0, none⟩), .nilIface]) ∧ RcvAt w' n0 t q b (Rcv.new fr to) [] ∧ Ext w w' ∧ w.heap.size ≤ q ∧ w.heap.size ≤ b := by
  have HE := hid (ends_any fr to w ev he)
  rw [hc] at HE
  unfold errv at HE
  rw [if_pos rfl] at HE
  have hR := hid (show RcvAt ((w.alloc (.map #[] 0)).alloc (.cells #[.int .i64 fr, .int .i64 to, .int .i64 0, .map (some w.heap.size)] 91)) n0 t (w.heap.size + 1) w.heap.size (Rcv.new fr to) [] from by
    refine ⟨?_, (MapAt.new w).ext ((Ext.refl _).alloc _), fun _ h => (by cases h), rfl, by omega, hn0⟩
    have := Blk.new (w.alloc (.map #[] 0)) #[.int .i64 fr, .int .i64 to, .int .i64 0, .map (some w.heap.size)] 91
    rwa [heap_size_alloc] at this)
  have hmm := @run_makeMap Tryd.prog
  clear he hc
  go_enter Tryd.func8, Tryd.ntmps8
  go_wp2_with fail
  refine HE.out.mono ?_
  intro e w1 hx
  obtain ⟨rfl, rfl⟩ := hx
  go_wp2
  go_ret2
  exact ⟨w.heap.size + 1, w.heap.size, rfl, hR.out, ((Ext.refl _).alloc _).alloc _, by omega, by omega⟩

set_option maxRecDepth 100000 in
set_option maxHeartbeats 400000 in
theorem waits_any (w : World) (n0 : Nat) (t : Option Nat) (p : Nat) (s : Snd) (lv : Value) (ks : List (FV × Int)) (h : SndAt w n0 t p s lv ks) : Calls Tryd.prog 25 #[.pointer (some ⟨p, 0, none⟩)] w fun e w' => e = .returned (.int .i64 (s.l.length : Int)) ∧ w = w' := by
  have c4 := h.hp.av 4 rfl
  obtain ⟨a, c, hlv⟩ := row_form h.hl
  rw [h.len]
  subst hlv
  clear h
  generalize ks.length = n at *
  go_enter Tryd.func25, Tryd.ntmps25
  go_wp2
  go_ret
  exact ⟨rfl, rfl⟩
set_option maxRecDepth 100000 in
set_option maxHeartbeats 400000 in
theorem due_any (w : World) (n0 : Nat) (t : Option Nat) (q b : Nat) (r : Rcv) (ms : List FV) (h : RcvAt w n0 t q b r ms) : Calls Tryd.prog 26 #[.pointer (some ⟨q, 0, none⟩)] w fun e w' => e = .returned (.int .i64 r.due) ∧ w = w' := by
  have c2 := h.hp.av 2 rfl
  clear h
  go_enter Tryd.func26, Tryd.ntmps26
  go_wp2
  go_ret
  exact ⟨rfl, rfl⟩
end Go.Proofs.YtkabgmohgjljkaaDoor


/- Links: a frame is sent. -/
namespace Go.Proofs.YtkabgmohgjljkaaDoor
set_option linter.unusedSimpArgs false
set_option linter.unusedVariables false
open Go Go.RowKit

section
variable {w : World} {n0 : Nat} {t : Option Nat}
theorem Wr.blk {b : Nat} {c : Array Value} {e : TypeId} (hb : Blk w b c e) (hne : e ≠ 3) (hl : n0 ≤ b) : Wr w n0 t fun k => k = b :=
  fun k hk _ => ⟨by omega, fun hi => absurd hi (by subst hk; exact IsInt.not hb hne)⟩
theorem Wr.or {X Y : Nat → Prop} (h1 : Wr w n0 t X) (h2 : Wr w n0 t Y) : Wr w n0 t fun b => X b ∨ Y b := fun b hb hl => hb.elim (fun h => h1 b h hl) fun h => h2 b h hl
theorem Wr.row {v : Value} {e : TypeId} {size n : Nat} {xs : List Value} (h : w.ownsRow n0 e size v n xs) (hne : e ≠ 3) : Wr w n0 t fun k => v.ownBlock = some k :=
  fun k hk _ => ⟨(World.ownsRow.lt h k hk).1, fun hi => by
    obtain ⟨c, hc⟩ := own_ty h hk
    exact absurd hi (IsInt.not hc hne)⟩
theorem Wr.sub {X Y : Nat → Prop} (h : Wr w n0 t Y) (hx : ∀ b, X b → b < w.heap.size → Y b) : Wr w n0 t X := fun b hb hl => h b (hx b hb hl) hl
end
theorem own_rebase {w : World} {base b2 : Nat} {e : TypeId} {size n : Nat} {v : Value} {xs : List Value} (h : w.ownsRow base e size v n xs) (hb : ∀ k, v.ownBlock = some k → b2 ≤ k) : w.ownsRow b2 e size v n xs := by
  obtain ⟨h1, h2⟩ := h
  refine ⟨h1, h2.imp id ?_⟩
  rintro ⟨g, cap, cur, rfl, hg, h3⟩
  exact ⟨g, cap, cur, rfl, hb g rfl, h3⟩
theorem kept_info : (Tryd.prog.info? 97).map (fun i => (i.zero, i.size, i.bytes)) = some (some (.agg #[.int .u8 0, .int .i64 0, .int .i64 0, .int .i64 0, .slice none 0 0, .int .i64 0]), 6, 64) := by kernel_rfl



set_option maxRecDepth 100000 in
set_option maxHeartbeats 3200000 in
theorem send_code (s : Snd) (kind : UInt8) (nums : List Int) (a : Option Addr) (cap : Nat) (w : World) (n0 : Nat) (t : Option Nat) (p : Nat) (lv : Value) (ks : List (FV × Int)) (h : SndAt w n0 t p s lv ks) (hr : Ints w a nums.length nums) (hl : nums.length ≤ 1000)
    (ev : Nat → Value) (he : ErrsC w ev)
    (c : Nat) (hc : (s.frame kind nums).code = c) (h0 : c ≠ 0) (hev : ∃ t v, ev c = .iface t v) :
    Calls Tryd.prog 11 #[.pointer (some ⟨p, 0, none⟩), .int .u8 (kind.toNat : Int), .slice a nums.length cap] w fun e w' => e = .returned (.tuple #[fr0, ev c]) ∧ Ext w w' := by
  obtain ⟨ti, vi, hev⟩ := hev
  have hE : errv ev c = .iface ti vi := by unfold errv; rw [if_neg h0, hev]
  rw [hev]
  clear hev h0
  obtain ⟨W0, hW0⟩ : ∃ W0, W0 = w.alloc (.cells frz 48) := ⟨_, rfl⟩
  have xW0 : Ext w W0 := by rw [hW0]; exact (Ext.refl w).alloc _
  have hs0 : W0.heap.size = w.heap.size + 1 := by rw [hW0]; simp
  have b6 : Blk W0 w.heap.size frz 48 := by rw [hW0]; exact Blk.new _ _ _
  have hpl := h.hp.lt
  have hnp : ¬ W0.heap.size ≤ p := by omega
  have g0 := (h.hp.ext xW0).kc (X := fun b => W0.heap.size ≤ b) hnp 0 rfl
  have g1 := (h.hp.ext xW0).kc (X := fun b => W0.heap.size ≤ b) hnp 1 rfl
  have g2 := (h.hp.ext xW0).kc (X := fun b => W0.heap.size ≤ b) hnp 2 rfl
  simp only [List.getElem_toArray, List.getElem_cons_zero, List.getElem_cons_succ] at g0 g1 g2
  have HC := fun w1 (x : Ext w w1) => hid (copied_any (s.frame kind nums) a cap w1 (hr.ext x) hl)
  have HK := fun w1 (x : Ext w w1) a1 c1 (hi : Ints w1 a1 nums.length nums) => hid (fcheck_any (s.frame kind nums) a1 c1 w1 ev hi (by simp only [Snd.frame]; omega) (he.ext x))
  have Hhi : Hid (∀ i, nums.getD i 0 ≤ 9223372036854775807) := hid hr.hi
  unfold frz at hW0
  have HW0 := hid hW0
  have H := hid h
  have Hb6 := hid b6
  have Hs0 := hid hs0
  clear hW0 h hr b6 hs0
  simp only [Snd.frame, frv] at HC HK hc
  simp only [hc, hE] at HK
  clear hc hE
  go_enter Tryd.func11, Tryd.ntmps11
  go_wp2
  rw [← HW0.out]
  refine wp_flow (fun b => W0.heap.size ≤ b) (by kernel_rfl) (by kernel_rfl) ?_
  apply Flow.d 0 _ rfl (by simp) (by kernel_rfl)
  · intro w1 hk; unfold does; go_simp; (try go_ints); exact DetR.mk
  simp only [List.getElem_toArray, List.getElem_cons_zero, List.getElem_cons_succ, Act.put, List.setIfInBounds_toArray, List.set_cons_zero, List.set_cons_succ]
  apply Flow.d 1 _ rfl (by simp) (by kernel_rfl)
  · intro w1 hk; unfold does; go_simp; (try go_ints); exact DetR.mk
  simp only [List.getElem_toArray, List.getElem_cons_zero, List.getElem_cons_succ, Act.put, List.setIfInBounds_toArray, List.set_cons_zero, List.set_cons_succ]
  apply Flow.d 2 _ rfl (by simp) (by kernel_rfl)
  · intro w1 hk; unfold does; go_simp; (try go_ints); exact DetR.mk
  simp only [List.getElem_toArray, List.getElem_cons_zero, List.getElem_cons_succ, Act.put, List.setIfInBounds_toArray, List.set_cons_zero, List.set_cons_succ]
  apply Flow.d 3 _ rfl (by simp) (by kernel_rfl)
  · intro w1 hk; unfold does; go_simp; (try go_ints); exact DetR.mk
  simp only [List.getElem_toArray, List.getElem_cons_zero, List.getElem_cons_succ, Act.put, List.setIfInBounds_toArray, List.set_cons_zero, List.set_cons_succ]
  apply Flow.d 4 _ rfl (by simp) (by kernel_rfl)
  · intro w1 hk; unfold does; go_simp; (try go_ints); exact DetR.mk
  simp only [List.getElem_toArray, List.getElem_cons_zero, List.getElem_cons_succ, Act.put, List.setIfInBounds_toArray, List.set_cons_zero, List.set_cons_succ]
  apply Flow.d 5 _ rfl (by simp) (by kernel_rfl)
  · intro w1 hk; unfold does; go_simp; (try go_ints); exact DetR.mk
  simp only [List.getElem_toArray, List.getElem_cons_zero, List.getElem_cons_succ, Act.put, List.setIfInBounds_toArray, List.set_cons_zero, List.set_cons_succ]
  apply Flow.d 6 _ rfl (by simp) (by kernel_rfl)
  · intro w1 hk; unfold does; go_simp; (try go_ints); exact DetR.mk
  simp only [List.getElem_toArray, List.getElem_cons_zero, List.getElem_cons_succ, Act.put, List.setIfInBounds_toArray, List.set_cons_zero, List.set_cons_succ]
  apply Flow.d 7 _ rfl (by simp) (by kernel_rfl)
  · intro w1 hk; unfold does; go_simp; (try go_ints); exact DetR.mk
  simp only [List.getElem_toArray, List.getElem_cons_zero, List.getElem_cons_succ, Act.put, List.setIfInBounds_toArray, List.set_cons_zero, List.set_cons_succ]
  apply Flow.d 8 _ rfl (by simp) (by kernel_rfl)
  · intro w1 hk; unfold does; go_simp; (try go_ints); exact DetR.mk
  simp only [List.getElem_toArray, List.getElem_cons_zero, List.getElem_cons_succ, Act.put, List.setIfInBounds_toArray, List.set_cons_zero, List.set_cons_succ]
  apply Flow.d 9 _ rfl (by simp) (by kernel_rfl)
  · intro w1 hk; unfold does; go_simp; (try go_ints); exact DetR.mk
  simp only [List.getElem_toArray, List.getElem_cons_zero, List.getElem_cons_succ, Act.put, List.setIfInBounds_toArray, List.set_cons_zero, List.set_cons_succ]
  apply Flow.d 10 _ rfl (by simp) (by kernel_rfl)
  · intro w1 hk; unfold does; go_simp; (try go_ints); exact DetR.mk
  simp only [List.getElem_toArray, List.getElem_cons_zero, List.getElem_cons_succ, Act.put, List.setIfInBounds_toArray, List.set_cons_zero, List.set_cons_succ]
  apply Flow.d 11 _ rfl (by simp) (by kernel_rfl)
  · intro w1 hk; unfold does; go_simp; (try go_ints); exact DetR.mk
  simp only [List.getElem_toArray, List.getElem_cons_zero, List.getElem_cons_succ, Act.put, List.setIfInBounds_toArray, List.set_cons_zero, List.set_cons_succ]
  apply Flow.d 12 _ rfl (by simp) (by kernel_rfl)
  · intro w1 hk; unfold does; go_simp; (try go_ints); exact DetR.mk
  simp only [List.getElem_toArray, List.getElem_cons_zero, List.getElem_cons_succ, Act.put, List.setIfInBounds_toArray, List.set_cons_zero, List.set_cons_succ]
  apply Flow.d 13 _ rfl (by simp) (by kernel_rfl)
  · intro w1 hk; unfold does; go_simp; (try go_ints); exact DetR.mk
  simp only [List.getElem_toArray, List.getElem_cons_zero, List.getElem_cons_succ, Act.put, List.setIfInBounds_toArray, List.set_cons_zero, List.set_cons_succ]
  apply Flow.d 14 _ rfl (by simp) (by kernel_rfl)
  · intro w1 hk; unfold does; go_simp; (try go_ints); exact DetR.mk
  simp only [List.getElem_toArray, List.getElem_cons_zero, List.getElem_cons_succ, Act.put, List.setIfInBounds_toArray, List.set_cons_zero, List.set_cons_succ]
  refine Flow.par2 15 16 _ _ rfl rfl (by decide) (fun _ _ h => by cases h) (fun _ _ h => by cases h) (by kernel_rfl) (by kernel_rfl) (by kernel_rfl) (by kernel_rfl)
    (fun v w1 => ∃ v1, v = (FV.mk ⟨kind, s.fr, s.to, s.next, nums⟩ v1).val ∧ IRow W0.heap.size w1 v1 nums) (fun v w1 => ∃ b, v = .pointer (some ⟨b, 0, none⟩) ∧ Blk w1 b frz 48 ∧ W0.heap.size ≤ b) (fun _ _ h x => h.trans x) (fun _ _ _ ⟨v1, h1, h2⟩ x => ⟨v1, h1, h2.ext x⟩) (fun _ _ _ ⟨g, h1, h2, h3⟩ x => ⟨g, h1, h2.ext x, h3⟩) ?_ ?_ ?_
  · intro w1 hC hk
    unfold does
    go_simp
    refine CallR.gen ((HC w1 (xW0.trans hC)).out.mono ?_)
    rintro e w2 ⟨v, rfl, hx, hI⟩
    exact ⟨_, rfl, hx, v, rfl, hI.base hC.size⟩
  · intro w1 hC hk
    unfold does
    go_simp
    exact ⟨(Ext.refl _).alloc _, _, rfl, Blk.new _ _ _, hC.size⟩
  rintro _ _ ⟨_, v1, rfl, hI0⟩ ⟨_, b8, rfl, _, hb8⟩
  obtain ⟨a1, c1, rfl⟩ := hI0.form
  have Hb8 := hid hb8
  clear hI0 hb8
  simp only [List.getElem_toArray, List.getElem_cons_zero, List.getElem_cons_succ, Act.put, List.setIfInBounds_toArray, List.set_cons_zero, List.set_cons_succ]
  refine Flow.one 17 _ rfl (by kernel_rfl) (fun _ w1 => Blk w1 b8 #[.int .u8 (kind.toNat : Int), .int .i64 s.fr, .int .i64 s.to, .int .i64 s.next, .slice a1 nums.length c1] 48 ∧ IRow W0.heap.size w1 (.slice a1 nums.length c1) nums ∧ Ext W0 w1) (fun _ _ _ ⟨h1, h2, h3⟩ x => ⟨h1.ext x, h2.ext x, h3.trans x⟩) ?_ ?_
  · rintro w1 ⟨hx, ⟨v2, e2, hI⟩, b', eb, hB, _⟩ hk
    obtain rfl : v2 = .slice a1 nums.length c1 := by simpa [FV.val, eq_comm] using e2
    obtain rfl : b8 = b' := by simpa using eb
    have c0 := hB.av 0 rfl
    have c1 := hB.av 1 rfl
    have c2 := hB.av 2 rfl
    have c3 := hB.av 3 rfl
    have c4 := hB.av 4 rfl
    have f0 := hB.free
    unfold does
    unfold FV.val
    go_simp
    refine ⟨(store5_keep _ _ _ _ _ _ _ |>.mono fun b _ e => by subst e; exact Hb8.out) |> hk.trans, store5 hB, hI.keep (store5_keep _ _ _ _ _ _ _) (fun b hb' e => ?_), Keep.new hx (store5_keep _ _ _ _ _ _ _) (fun b e => by subst e; exact Hb8.out)⟩
    obtain ⟨c, hc⟩ := own_ty (show w1.ownsRow W0.heap.size 3 1 _ nums.length (icells nums) from hI) hb'
    exact hB.ty_ne hc (by decide) e.symm
  rintro _ ⟨_, _⟩
  simp only [List.getElem_toArray, List.getElem_cons_zero, List.getElem_cons_succ, Act.put, List.setIfInBounds_toArray, List.set_cons_zero, List.set_cons_succ]
  refine Flow.fin (by kernel_rfl) fun w1 hC hk => ?_
  obtain ⟨hB, hI, hx⟩ := hC
  clear g0 g1 g2 HC hk HW0
  have hx1 := xW0.trans hx
  have Hx1 := hid hx1
  have d0 := hB.av 0 rfl
  have d1 := hB.av 1 rfl
  have d2 := hB.av 2 rfl
  have d3 := hB.av 3 rfl
  have d4 := hB.av 4 rfl
  go_wp2_with fail
  refine (HK _ hx1 _ _ (hI.ints Hhi.out)).out.mono ?_
  intro e w2 hx2
  obtain ⟨rfl, hx2⟩ := hx2
  clear HK d0 d1 d2 d3 d4
  have b6 := Hb6.out.ext (hx.trans hx2)
  have e0 := b6.av 0 rfl
  have e1 := b6.av 1 rfl
  have e2 := b6.av 2 rfl
  have e3 := b6.av 3 rfl
  have e4 := b6.av 4 rfl
  have f6 := b6.free
  have hB6 := hid (store5 (b0 := .int .u8 0) (b1 := .int .i64 0) (b2 := .int .i64 0) (b3 := .int .i64 0) (b4 := .slice none 0 0) b6)
  have hk6 := hid (store5_keep w2 w.heap.size (.int .u8 0) (.int .i64 0) (.int .i64 0) (.int .i64 0) (.slice none 0 0))
  have Hx := hid (hx1.trans hx2)
  clear b6 hB hI hx1 hx hx2 Hb6
  generalize hN : w.heap.size = N at *
  have HN := hid hN
  clear hN
  go_wp2
  have c0 := hB6.out.av 0 rfl
  have c1 := hB6.out.av 1 rfl
  have c2 := hB6.out.av 2 rfl
  have c3 := hB6.out.av 3 rfl
  have c4 := hB6.out.av 4 rfl
  have hE := hid (Keep.new Hx.out hk6.out (fun b hb => Nat.le_of_eq (HN.out.trans hb.symm)))
  generalize (((((w2.setCell ⟨N, 0, none⟩ (.int .u8 0)).setCell ⟨N, 1, none⟩ (.int .i64 0)).setCell ⟨N, 2, none⟩ (.int .i64 0)).setCell ⟨N, 3, none⟩ (.int .i64 0)).setCell ⟨N, 4, none⟩ (.slice none 0 0)) = W9 at *
  exact bodyPost_ret (v := .tuple #[fr0, .iface ti vi]) (by simp [results, Tryd.results11, go_sem, c0, c1, c2, c3, c4]; rfl) rfl ⟨rfl, hE.out⟩

set_option maxRecDepth 100000 in
set_option maxHeartbeats 3200000 in
theorem send_ack (s : Snd) (kind : UInt8) (nums : List Int) (a : Option Addr) (cap : Nat) (w : World) (n0 : Nat) (t : Option Nat) (p : Nat) (lv : Value) (ks : List (FV × Int)) (h : SndAt w n0 t p s lv ks) (hr : Ints w a nums.length nums) (hl : nums.length ≤ 1000)
    (ev : Nat → Value) (he : ErrsC w ev)
    (hc : (s.frame kind nums).code = 0) (hk : kind = 97) :
    Calls Tryd.prog 11 #[.pointer (some ⟨p, 0, none⟩), .int .u8 (kind.toNat : Int), .slice a nums.length cap] w fun e w' => e = .returned (.tuple #[fr0, ev 4]) ∧ Ext w w' := by
  have hE : errv ev 0 = .nilIface := rfl
  have Hg := hid he.kind
  have hkn : (kind.toNat : Int) = 97 := by rw [hk]; rfl
  have Hkn := hid hkn
  clear hk hkn
  obtain ⟨W0, hW0⟩ : ∃ W0, W0 = w.alloc (.cells frz 48) := ⟨_, rfl⟩
  have xW0 : Ext w W0 := by rw [hW0]; exact (Ext.refl w).alloc _
  have hs0 : W0.heap.size = w.heap.size + 1 := by rw [hW0]; simp
  have b6 : Blk W0 w.heap.size frz 48 := by rw [hW0]; exact Blk.new _ _ _
  have hpl := h.hp.lt
  have hnp : ¬ W0.heap.size ≤ p := by omega
  have g0 := (h.hp.ext xW0).kc (X := fun b => W0.heap.size ≤ b) hnp 0 rfl
  have g1 := (h.hp.ext xW0).kc (X := fun b => W0.heap.size ≤ b) hnp 1 rfl
  have g2 := (h.hp.ext xW0).kc (X := fun b => W0.heap.size ≤ b) hnp 2 rfl
  simp only [List.getElem_toArray, List.getElem_cons_zero, List.getElem_cons_succ] at g0 g1 g2
  have HC := fun w1 (x : Ext w w1) => hid (copied_any (s.frame kind nums) a cap w1 (hr.ext x) hl)
  have HK := fun w1 (x : Ext w w1) a1 c1 (hi : Ints w1 a1 nums.length nums) => hid (fcheck_any (s.frame kind nums) a1 c1 w1 ev hi (by simp only [Snd.frame]; omega) (he.ext x))
  have Hhi : Hid (∀ i, nums.getD i 0 ≤ 9223372036854775807) := hid hr.hi
  unfold frz at hW0
  have HW0 := hid hW0
  have H := hid h
  have Hb6 := hid b6
  have Hs0 := hid hs0
  clear hW0 h hr b6 hs0
  simp only [Snd.frame, frv] at HC HK hc
  simp only [hc, hE] at HK
  clear hc hE
  go_enter Tryd.func11, Tryd.ntmps11
  go_wp2
  rw [← HW0.out]
  refine wp_flow (fun b => W0.heap.size ≤ b) (by kernel_rfl) (by kernel_rfl) ?_
  apply Flow.d 0 _ rfl (by simp) (by kernel_rfl)
  · intro w1 hk; unfold does; go_simp; (try go_ints); exact DetR.mk
  simp only [List.getElem_toArray, List.getElem_cons_zero, List.getElem_cons_succ, Act.put, List.setIfInBounds_toArray, List.set_cons_zero, List.set_cons_succ]
  apply Flow.d 1 _ rfl (by simp) (by kernel_rfl)
  · intro w1 hk; unfold does; go_simp; (try go_ints); exact DetR.mk
  simp only [List.getElem_toArray, List.getElem_cons_zero, List.getElem_cons_succ, Act.put, List.setIfInBounds_toArray, List.set_cons_zero, List.set_cons_succ]
  apply Flow.d 2 _ rfl (by simp) (by kernel_rfl)
  · intro w1 hk; unfold does; go_simp; (try go_ints); exact DetR.mk
  simp only [List.getElem_toArray, List.getElem_cons_zero, List.getElem_cons_succ, Act.put, List.setIfInBounds_toArray, List.set_cons_zero, List.set_cons_succ]
  apply Flow.d 3 _ rfl (by simp) (by kernel_rfl)
  · intro w1 hk; unfold does; go_simp; (try go_ints); exact DetR.mk
  simp only [List.getElem_toArray, List.getElem_cons_zero, List.getElem_cons_succ, Act.put, List.setIfInBounds_toArray, List.set_cons_zero, List.set_cons_succ]
  apply Flow.d 4 _ rfl (by simp) (by kernel_rfl)
  · intro w1 hk; unfold does; go_simp; (try go_ints); exact DetR.mk
  simp only [List.getElem_toArray, List.getElem_cons_zero, List.getElem_cons_succ, Act.put, List.setIfInBounds_toArray, List.set_cons_zero, List.set_cons_succ]
  apply Flow.d 5 _ rfl (by simp) (by kernel_rfl)
  · intro w1 hk; unfold does; go_simp; (try go_ints); exact DetR.mk
  simp only [List.getElem_toArray, List.getElem_cons_zero, List.getElem_cons_succ, Act.put, List.setIfInBounds_toArray, List.set_cons_zero, List.set_cons_succ]
  apply Flow.d 6 _ rfl (by simp) (by kernel_rfl)
  · intro w1 hk; unfold does; go_simp; (try go_ints); exact DetR.mk
  simp only [List.getElem_toArray, List.getElem_cons_zero, List.getElem_cons_succ, Act.put, List.setIfInBounds_toArray, List.set_cons_zero, List.set_cons_succ]
  apply Flow.d 7 _ rfl (by simp) (by kernel_rfl)
  · intro w1 hk; unfold does; go_simp; (try go_ints); exact DetR.mk
  simp only [List.getElem_toArray, List.getElem_cons_zero, List.getElem_cons_succ, Act.put, List.setIfInBounds_toArray, List.set_cons_zero, List.set_cons_succ]
  apply Flow.d 8 _ rfl (by simp) (by kernel_rfl)
  · intro w1 hk; unfold does; go_simp; (try go_ints); exact DetR.mk
  simp only [List.getElem_toArray, List.getElem_cons_zero, List.getElem_cons_succ, Act.put, List.setIfInBounds_toArray, List.set_cons_zero, List.set_cons_succ]
  apply Flow.d 9 _ rfl (by simp) (by kernel_rfl)
  · intro w1 hk; unfold does; go_simp; (try go_ints); exact DetR.mk
  simp only [List.getElem_toArray, List.getElem_cons_zero, List.getElem_cons_succ, Act.put, List.setIfInBounds_toArray, List.set_cons_zero, List.set_cons_succ]
  apply Flow.d 10 _ rfl (by simp) (by kernel_rfl)
  · intro w1 hk; unfold does; go_simp; (try go_ints); exact DetR.mk
  simp only [List.getElem_toArray, List.getElem_cons_zero, List.getElem_cons_succ, Act.put, List.setIfInBounds_toArray, List.set_cons_zero, List.set_cons_succ]
  apply Flow.d 11 _ rfl (by simp) (by kernel_rfl)
  · intro w1 hk; unfold does; go_simp; (try go_ints); exact DetR.mk
  simp only [List.getElem_toArray, List.getElem_cons_zero, List.getElem_cons_succ, Act.put, List.setIfInBounds_toArray, List.set_cons_zero, List.set_cons_succ]
  apply Flow.d 12 _ rfl (by simp) (by kernel_rfl)
  · intro w1 hk; unfold does; go_simp; (try go_ints); exact DetR.mk
  simp only [List.getElem_toArray, List.getElem_cons_zero, List.getElem_cons_succ, Act.put, List.setIfInBounds_toArray, List.set_cons_zero, List.set_cons_succ]
  apply Flow.d 13 _ rfl (by simp) (by kernel_rfl)
  · intro w1 hk; unfold does; go_simp; (try go_ints); exact DetR.mk
  simp only [List.getElem_toArray, List.getElem_cons_zero, List.getElem_cons_succ, Act.put, List.setIfInBounds_toArray, List.set_cons_zero, List.set_cons_succ]
  apply Flow.d 14 _ rfl (by simp) (by kernel_rfl)
  · intro w1 hk; unfold does; go_simp; (try go_ints); exact DetR.mk
  simp only [List.getElem_toArray, List.getElem_cons_zero, List.getElem_cons_succ, Act.put, List.setIfInBounds_toArray, List.set_cons_zero, List.set_cons_succ]
  refine Flow.par2 15 16 _ _ rfl rfl (by decide) (fun _ _ h => by cases h) (fun _ _ h => by cases h) (by kernel_rfl) (by kernel_rfl) (by kernel_rfl) (by kernel_rfl)
    (fun v w1 => ∃ v1, v = (FV.mk ⟨kind, s.fr, s.to, s.next, nums⟩ v1).val ∧ IRow W0.heap.size w1 v1 nums) (fun v w1 => ∃ b, v = .pointer (some ⟨b, 0, none⟩) ∧ Blk w1 b frz 48 ∧ W0.heap.size ≤ b) (fun _ _ h x => h.trans x) (fun _ _ _ ⟨v1, h1, h2⟩ x => ⟨v1, h1, h2.ext x⟩) (fun _ _ _ ⟨g, h1, h2, h3⟩ x => ⟨g, h1, h2.ext x, h3⟩) ?_ ?_ ?_
  · intro w1 hC hk
    unfold does
    go_simp
    refine CallR.gen ((HC w1 (xW0.trans hC)).out.mono ?_)
    rintro e w2 ⟨v, rfl, hx, hI⟩
    exact ⟨_, rfl, hx, v, rfl, hI.base hC.size⟩
  · intro w1 hC hk
    unfold does
    go_simp
    exact ⟨(Ext.refl _).alloc _, _, rfl, Blk.new _ _ _, hC.size⟩
  rintro _ _ ⟨_, v1, rfl, hI0⟩ ⟨_, b8, rfl, _, hb8⟩
  obtain ⟨a1, c1, rfl⟩ := hI0.form
  have Hb8 := hid hb8
  clear hI0 hb8
  simp only [List.getElem_toArray, List.getElem_cons_zero, List.getElem_cons_succ, Act.put, List.setIfInBounds_toArray, List.set_cons_zero, List.set_cons_succ]
  refine Flow.one 17 _ rfl (by kernel_rfl) (fun _ w1 => Blk w1 b8 #[.int .u8 (kind.toNat : Int), .int .i64 s.fr, .int .i64 s.to, .int .i64 s.next, .slice a1 nums.length c1] 48 ∧ IRow W0.heap.size w1 (.slice a1 nums.length c1) nums ∧ Ext W0 w1) (fun _ _ _ ⟨h1, h2, h3⟩ x => ⟨h1.ext x, h2.ext x, h3.trans x⟩) ?_ ?_
  · rintro w1 ⟨hx, ⟨v2, e2, hI⟩, b', eb, hB, _⟩ hk
    obtain rfl : v2 = .slice a1 nums.length c1 := by simpa [FV.val, eq_comm] using e2
    obtain rfl : b8 = b' := by simpa using eb
    have c0 := hB.av 0 rfl
    have c1 := hB.av 1 rfl
    have c2 := hB.av 2 rfl
    have c3 := hB.av 3 rfl
    have c4 := hB.av 4 rfl
    have f0 := hB.free
    unfold does
    unfold FV.val
    go_simp
    refine ⟨(store5_keep _ _ _ _ _ _ _ |>.mono fun b _ e => by subst e; exact Hb8.out) |> hk.trans, store5 hB, hI.keep (store5_keep _ _ _ _ _ _ _) (fun b hb' e => ?_), Keep.new hx (store5_keep _ _ _ _ _ _ _) (fun b e => by subst e; exact Hb8.out)⟩
    obtain ⟨c, hc⟩ := own_ty (show w1.ownsRow W0.heap.size 3 1 _ nums.length (icells nums) from hI) hb'
    exact hB.ty_ne hc (by decide) e.symm
  rintro _ ⟨_, _⟩
  simp only [List.getElem_toArray, List.getElem_cons_zero, List.getElem_cons_succ, Act.put, List.setIfInBounds_toArray, List.set_cons_zero, List.set_cons_succ]
  refine Flow.fin (by kernel_rfl) fun w1 hC hk => ?_
  obtain ⟨hB, hI, hx⟩ := hC
  clear g0 g1 g2 HC hk HW0
  have hx1 := xW0.trans hx
  have Hx1 := hid hx1
  have d0 := hB.av 0 rfl
  have d1 := hB.av 1 rfl
  have d2 := hB.av 2 rfl
  have d3 := hB.av 3 rfl
  have d4 := hB.av 4 rfl
  go_wp2_with fail
  refine (HK _ hx1 _ _ (hI.ints Hhi.out)).out.mono ?_
  intro e w2 hx2
  obtain ⟨rfl, hx2⟩ := hx2
  clear HK d0 d1 d2 d3 d4
  have hkn := Hkn.out
  have Hx := hid (hx1.trans hx2)
  have b6 := Hb6.out.ext (hx.trans hx2)
  have Hbb := hid b6
  have gz : ∀ w1, Keep (fun b => b = w.heap.size) w2 w1 → w1.cell? ⟨0, 0, none⟩ = some (ev 4) := fun w1 hk => hk.cellx (Hx.out.cellx Hg.out) (fun e => by have := cell_lt Hg.out; simp only at e this; omega)
  clear hB hI hx1 hx hx2 Hb6 b6
  go_wp2
  refine wp_flowT (fun b => b = w.heap.size) (by kernel_rfl) (by kernel_rfl) ?_
  repeat (apply FlowT.d; (intro w1 hk; unfold does; go_simp; (try go_ints); (first | exact DetR.mk | (simp only [↓IntWalk.iteOmega, Oper.doesUpon_value]; exact DetR.mk) | (simp only [↓IntWalk.iteOmega]; go_simp; (try go_ints); exact DetR.mk))); simp only [Act.put, List.setIfInBounds_toArray, List.set_cons_zero, List.set_cons_succ])
  refine FlowT.v undef (fun w' => Blk w' w.heap.size frz 48 ∧ Keep (fun b => b = w.heap.size) w2 w') 2 rfl (by kernel_rfl) (fun w1 w2 h x => ⟨h.1.ext x, h.2.ext_r x⟩) (fun wa hx hk => ?_) ?_
  · have hB := Hbb.out.ext hx
    have c0 := hB.av 0 rfl
    have c1 := hB.av 1 rfl
    have c2 := hB.av 2 rfl
    have c3 := hB.av 3 rfl
    have c4 := hB.av 4 rfl
    have f0 := hB.free
    unfold does
    go_simp
    exact ⟨hk.trans (store5_keep _ _ _ _ _ _ _), rfl, store5 hB, hk.trans (store5_keep _ _ _ _ _ _ _)⟩
  repeat (apply FlowT.d; (intro w1 hk; unfold does; go_simp; (try go_ints); (first | exact DetR.mk | (simp only [↓IntWalk.iteOmega, Oper.doesUpon_value]; exact DetR.mk) | (simp only [↓IntWalk.iteOmega]; go_simp; (try go_ints); exact DetR.mk))); simp only [Act.put, List.setIfInBounds_toArray, List.set_cons_zero, List.set_cons_succ])
  refine FlowT.fin fun wb hC hk => ?_
  obtain ⟨hB, hK⟩ := hC
  have c0 := hB.av 0 rfl
  have c1 := hB.av 1 rfl
  have c2 := hB.av 2 rfl
  have c3 := hB.av 3 rfl
  have c4 := hB.av 4 rfl
  have hE := hid (Keep.new Hx.out hK (fun n hn => Nat.le_of_eq hn.symm))
  clear hk hK hB
  go_wp2
  exact bodyPost_ret (v := .tuple #[fr0, ev 4]) (by simp [results, Tryd.results11, go_sem, c0, c1, c2, c3, c4]; rfl) rfl ⟨rfl, hE.out⟩

set_option maxRecDepth 100000 in
set_option maxHeartbeats 3200000 in
theorem send_full (s : Snd) (kind : UInt8) (nums : List Int) (a : Option Addr) (cap : Nat) (w : World) (n0 : Nat) (t : Option Nat) (p : Nat) (lv : Value) (ks : List (FV × Int)) (h : SndAt w n0 t p s lv ks) (hr : Ints w a nums.length nums) (hl : nums.length ≤ 1000)
    (ev : Nat → Value) (he : ErrsC w ev)
    (hc : (s.frame kind nums).code = 0) (hk : kind ≠ 97) (hf : 200 ≤ s.l.length) :
    Calls Tryd.prog 11 #[.pointer (some ⟨p, 0, none⟩), .int .u8 (kind.toNat : Int), .slice a nums.length cap] w fun e w' => e = .returned (.tuple #[fr0, ev 8]) ∧ Ext w w' := by
  have hE : errv ev 0 = .nilIface := rfl
  have Hg := hid he.full
  have hkn : ¬ (kind.toNat : Int) = 97 := fun e => hk (UInt8.toNat_inj.1 (by rw [show (97 : UInt8).toNat = 97 from rfl]; omega))
  have hf' : (200 : Int) ≤ (ks.length : Int) := by have := h.len; omega
  clear hk hf
  obtain ⟨W0, hW0⟩ : ∃ W0, W0 = w.alloc (.cells frz 48) := ⟨_, rfl⟩
  have xW0 : Ext w W0 := by rw [hW0]; exact (Ext.refl w).alloc _
  have hs0 : W0.heap.size = w.heap.size + 1 := by rw [hW0]; simp
  have b6 : Blk W0 w.heap.size frz 48 := by rw [hW0]; exact Blk.new _ _ _
  have hpl := h.hp.lt
  have hnp : ¬ W0.heap.size ≤ p := by omega
  have g0 := (h.hp.ext xW0).kc (X := fun b => W0.heap.size ≤ b) hnp 0 rfl
  have g1 := (h.hp.ext xW0).kc (X := fun b => W0.heap.size ≤ b) hnp 1 rfl
  have g2 := (h.hp.ext xW0).kc (X := fun b => W0.heap.size ≤ b) hnp 2 rfl
  simp only [List.getElem_toArray, List.getElem_cons_zero, List.getElem_cons_succ] at g0 g1 g2
  have HC := fun w1 (x : Ext w w1) => hid (copied_any (s.frame kind nums) a cap w1 (hr.ext x) hl)
  have HK := fun w1 (x : Ext w w1) a1 c1 (hi : Ints w1 a1 nums.length nums) => hid (fcheck_any (s.frame kind nums) a1 c1 w1 ev hi (by simp only [Snd.frame]; omega) (he.ext x))
  have Hhi : Hid (∀ i, nums.getD i 0 ≤ 9223372036854775807) := hid hr.hi
  unfold frz at hW0
  have HW0 := hid hW0
  have H := hid h
  have Hb6 := hid b6
  have Hs0 := hid hs0
  clear hW0 h hr b6 hs0
  simp only [Snd.frame, frv] at HC HK hc
  simp only [hc, hE] at HK
  clear hc hE
  go_enter Tryd.func11, Tryd.ntmps11
  go_wp2
  rw [← HW0.out]
  refine wp_flow (fun b => W0.heap.size ≤ b) (by kernel_rfl) (by kernel_rfl) ?_
  apply Flow.d 0 _ rfl (by simp) (by kernel_rfl)
  · intro w1 hk; unfold does; go_simp; (try go_ints); exact DetR.mk
  simp only [List.getElem_toArray, List.getElem_cons_zero, List.getElem_cons_succ, Act.put, List.setIfInBounds_toArray, List.set_cons_zero, List.set_cons_succ]
  apply Flow.d 1 _ rfl (by simp) (by kernel_rfl)
  · intro w1 hk; unfold does; go_simp; (try go_ints); exact DetR.mk
  simp only [List.getElem_toArray, List.getElem_cons_zero, List.getElem_cons_succ, Act.put, List.setIfInBounds_toArray, List.set_cons_zero, List.set_cons_succ]
  apply Flow.d 2 _ rfl (by simp) (by kernel_rfl)
  · intro w1 hk; unfold does; go_simp; (try go_ints); exact DetR.mk
  simp only [List.getElem_toArray, List.getElem_cons_zero, List.getElem_cons_succ, Act.put, List.setIfInBounds_toArray, List.set_cons_zero, List.set_cons_succ]
  apply Flow.d 3 _ rfl (by simp) (by kernel_rfl)
  · intro w1 hk; unfold does; go_simp; (try go_ints); exact DetR.mk
  simp only [List.getElem_toArray, List.getElem_cons_zero, List.getElem_cons_succ, Act.put, List.setIfInBounds_toArray, List.set_cons_zero, List.set_cons_succ]
  apply Flow.d 4 _ rfl (by simp) (by kernel_rfl)
  · intro w1 hk; unfold does; go_simp; (try go_ints); exact DetR.mk
  simp only [List.getElem_toArray, List.getElem_cons_zero, List.getElem_cons_succ, Act.put, List.setIfInBounds_toArray, List.set_cons_zero, List.set_cons_succ]
  apply Flow.d 5 _ rfl (by simp) (by kernel_rfl)
  · intro w1 hk; unfold does; go_simp; (try go_ints); exact DetR.mk
  simp only [List.getElem_toArray, List.getElem_cons_zero, List.getElem_cons_succ, Act.put, List.setIfInBounds_toArray, List.set_cons_zero, List.set_cons_succ]
  apply Flow.d 6 _ rfl (by simp) (by kernel_rfl)
  · intro w1 hk; unfold does; go_simp; (try go_ints); exact DetR.mk
  simp only [List.getElem_toArray, List.getElem_cons_zero, List.getElem_cons_succ, Act.put, List.setIfInBounds_toArray, List.set_cons_zero, List.set_cons_succ]
  apply Flow.d 7 _ rfl (by simp) (by kernel_rfl)
  · intro w1 hk; unfold does; go_simp; (try go_ints); exact DetR.mk
  simp only [List.getElem_toArray, List.getElem_cons_zero, List.getElem_cons_succ, Act.put, List.setIfInBounds_toArray, List.set_cons_zero, List.set_cons_succ]
  apply Flow.d 8 _ rfl (by simp) (by kernel_rfl)
  · intro w1 hk; unfold does; go_simp; (try go_ints); exact DetR.mk
  simp only [List.getElem_toArray, List.getElem_cons_zero, List.getElem_cons_succ, Act.put, List.setIfInBounds_toArray, List.set_cons_zero, List.set_cons_succ]
  apply Flow.d 9 _ rfl (by simp) (by kernel_rfl)
  · intro w1 hk; unfold does; go_simp; (try go_ints); exact DetR.mk
  simp only [List.getElem_toArray, List.getElem_cons_zero, List.getElem_cons_succ, Act.put, List.setIfInBounds_toArray, List.set_cons_zero, List.set_cons_succ]
  apply Flow.d 10 _ rfl (by simp) (by kernel_rfl)
  · intro w1 hk; unfold does; go_simp; (try go_ints); exact DetR.mk
  simp only [List.getElem_toArray, List.getElem_cons_zero, List.getElem_cons_succ, Act.put, List.setIfInBounds_toArray, List.set_cons_zero, List.set_cons_succ]
  apply Flow.d 11 _ rfl (by simp) (by kernel_rfl)
  · intro w1 hk; unfold does; go_simp; (try go_ints); exact DetR.mk
  simp only [List.getElem_toArray, List.getElem_cons_zero, List.getElem_cons_succ, Act.put, List.setIfInBounds_toArray, List.set_cons_zero, List.set_cons_succ]
  apply Flow.d 12 _ rfl (by simp) (by kernel_rfl)
  · intro w1 hk; unfold does; go_simp; (try go_ints); exact DetR.mk
  simp only [List.getElem_toArray, List.getElem_cons_zero, List.getElem_cons_succ, Act.put, List.setIfInBounds_toArray, List.set_cons_zero, List.set_cons_succ]
  apply Flow.d 13 _ rfl (by simp) (by kernel_rfl)
  · intro w1 hk; unfold does; go_simp; (try go_ints); exact DetR.mk
  simp only [List.getElem_toArray, List.getElem_cons_zero, List.getElem_cons_succ, Act.put, List.setIfInBounds_toArray, List.set_cons_zero, List.set_cons_succ]
  apply Flow.d 14 _ rfl (by simp) (by kernel_rfl)
  · intro w1 hk; unfold does; go_simp; (try go_ints); exact DetR.mk
  simp only [List.getElem_toArray, List.getElem_cons_zero, List.getElem_cons_succ, Act.put, List.setIfInBounds_toArray, List.set_cons_zero, List.set_cons_succ]
  refine Flow.par2 15 16 _ _ rfl rfl (by decide) (fun _ _ h => by cases h) (fun _ _ h => by cases h) (by kernel_rfl) (by kernel_rfl) (by kernel_rfl) (by kernel_rfl)
    (fun v w1 => ∃ v1, v = (FV.mk ⟨kind, s.fr, s.to, s.next, nums⟩ v1).val ∧ IRow W0.heap.size w1 v1 nums) (fun v w1 => ∃ b, v = .pointer (some ⟨b, 0, none⟩) ∧ Blk w1 b frz 48 ∧ W0.heap.size ≤ b) (fun _ _ h x => h.trans x) (fun _ _ _ ⟨v1, h1, h2⟩ x => ⟨v1, h1, h2.ext x⟩) (fun _ _ _ ⟨g, h1, h2, h3⟩ x => ⟨g, h1, h2.ext x, h3⟩) ?_ ?_ ?_
  · intro w1 hC hk
    unfold does
    go_simp
    refine CallR.gen ((HC w1 (xW0.trans hC)).out.mono ?_)
    rintro e w2 ⟨v, rfl, hx, hI⟩
    exact ⟨_, rfl, hx, v, rfl, hI.base hC.size⟩
  · intro w1 hC hk
    unfold does
    go_simp
    exact ⟨(Ext.refl _).alloc _, _, rfl, Blk.new _ _ _, hC.size⟩
  rintro _ _ ⟨_, v1, rfl, hI0⟩ ⟨_, b8, rfl, _, hb8⟩
  obtain ⟨a1, c1, rfl⟩ := hI0.form
  have Hb8 := hid hb8
  clear hI0 hb8
  simp only [List.getElem_toArray, List.getElem_cons_zero, List.getElem_cons_succ, Act.put, List.setIfInBounds_toArray, List.set_cons_zero, List.set_cons_succ]
  refine Flow.one 17 _ rfl (by kernel_rfl) (fun _ w1 => Blk w1 b8 #[.int .u8 (kind.toNat : Int), .int .i64 s.fr, .int .i64 s.to, .int .i64 s.next, .slice a1 nums.length c1] 48 ∧ IRow W0.heap.size w1 (.slice a1 nums.length c1) nums ∧ Ext W0 w1) (fun _ _ _ ⟨h1, h2, h3⟩ x => ⟨h1.ext x, h2.ext x, h3.trans x⟩) ?_ ?_
  · rintro w1 ⟨hx, ⟨v2, e2, hI⟩, b', eb, hB, _⟩ hk
    obtain rfl : v2 = .slice a1 nums.length c1 := by simpa [FV.val, eq_comm] using e2
    obtain rfl : b8 = b' := by simpa using eb
    have c0 := hB.av 0 rfl
    have c1 := hB.av 1 rfl
    have c2 := hB.av 2 rfl
    have c3 := hB.av 3 rfl
    have c4 := hB.av 4 rfl
    have f0 := hB.free
    unfold does
    unfold FV.val
    go_simp
    refine ⟨(store5_keep _ _ _ _ _ _ _ |>.mono fun b _ e => by subst e; exact Hb8.out) |> hk.trans, store5 hB, hI.keep (store5_keep _ _ _ _ _ _ _) (fun b hb' e => ?_), Keep.new hx (store5_keep _ _ _ _ _ _ _) (fun b e => by subst e; exact Hb8.out)⟩
    obtain ⟨c, hc⟩ := own_ty (show w1.ownsRow W0.heap.size 3 1 _ nums.length (icells nums) from hI) hb'
    exact hB.ty_ne hc (by decide) e.symm
  rintro _ ⟨_, _⟩
  simp only [List.getElem_toArray, List.getElem_cons_zero, List.getElem_cons_succ, Act.put, List.setIfInBounds_toArray, List.set_cons_zero, List.set_cons_succ]
  refine Flow.fin (by kernel_rfl) fun w1 hC hk => ?_
  obtain ⟨hB, hI, hx⟩ := hC
  clear g0 g1 g2 HC hk HW0
  have hx1 := xW0.trans hx
  have Hx1 := hid hx1
  have d0 := hB.av 0 rfl
  have d1 := hB.av 1 rfl
  have d2 := hB.av 2 rfl
  have d3 := hB.av 3 rfl
  have d4 := hB.av 4 rfl
  go_wp2_with fail
  refine (HK _ hx1 _ _ (hI.ints Hhi.out)).out.mono ?_
  intro e w2 hx2
  obtain ⟨rfl, hx2⟩ := hx2
  clear HK d0 d1 d2 d3 d4
  have q4 := (H.out.hp.ext (hx1.trans hx2)).av 4 rfl
  obtain ⟨a4, c4, hlv⟩ := row_form H.out.hl
  simp only [List.getElem_toArray, List.getElem_cons_zero, List.getElem_cons_succ, hlv] at q4
  clear hlv
  generalize ks.length = kn at *
  have Hx := hid (hx1.trans hx2)
  have b6 := Hb6.out.ext (hx.trans hx2)
  have Hbb := hid b6
  have gz : ∀ w1, Keep (fun b => b = w.heap.size) w2 w1 → w1.cell? ⟨1, 0, none⟩ = some (ev 8) := fun w1 hk => hk.cellx (Hx.out.cellx Hg.out) (fun e => by have := cell_lt Hg.out; simp only at e this; omega)
  clear hB hI hx1 hx hx2 Hb6 b6
  go_wp2
  refine wp_flowT (fun b => b = w.heap.size) (by kernel_rfl) (by kernel_rfl) ?_
  repeat (apply FlowT.d; (intro w1 hk; unfold does; go_simp; (try go_ints); (first | exact DetR.mk | (simp only [↓IntWalk.iteOmega, Oper.doesUpon_value]; exact DetR.mk) | (simp only [↓IntWalk.iteOmega]; go_simp; (try go_ints); exact DetR.mk))); simp only [Act.put, List.setIfInBounds_toArray, List.set_cons_zero, List.set_cons_succ])
  refine FlowT.v undef (fun w' => Blk w' w.heap.size frz 48 ∧ Keep (fun b => b = w.heap.size) w2 w') 2 rfl (by kernel_rfl) (fun w1 w2 h x => ⟨h.1.ext x, h.2.ext_r x⟩) (fun wa hx hk => ?_) ?_
  · have hB := Hbb.out.ext hx
    have c0 := hB.av 0 rfl
    have c1 := hB.av 1 rfl
    have c2 := hB.av 2 rfl
    have c3 := hB.av 3 rfl
    have c4 := hB.av 4 rfl
    have f0 := hB.free
    unfold does
    go_simp
    exact ⟨hk.trans (store5_keep _ _ _ _ _ _ _), rfl, store5 hB, hk.trans (store5_keep _ _ _ _ _ _ _)⟩
  repeat (apply FlowT.d; (intro w1 hk; unfold does; go_simp; (try go_ints); (first | exact DetR.mk | (simp only [↓IntWalk.iteOmega, Oper.doesUpon_value]; exact DetR.mk) | (simp only [↓IntWalk.iteOmega]; go_simp; (try go_ints); exact DetR.mk))); simp only [Act.put, List.setIfInBounds_toArray, List.set_cons_zero, List.set_cons_succ])
  refine FlowT.fin fun wb hC hk => ?_
  obtain ⟨hB, hK⟩ := hC
  have c0 := hB.av 0 rfl
  have c1 := hB.av 1 rfl
  have c2 := hB.av 2 rfl
  have c3 := hB.av 3 rfl
  have c4 := hB.av 4 rfl
  have hE := hid (Keep.new Hx.out hK (fun n hn => Nat.le_of_eq hn.symm))
  clear hk hK hB
  go_wp2
  exact bodyPost_ret (v := .tuple #[fr0, ev 8]) (by simp [results, Tryd.results11, go_sem, c0, c1, c2, c3, c4]; rfl) rfl ⟨rfl, hE.out⟩
end Go.Proofs.YtkabgmohgjljkaaDoor
