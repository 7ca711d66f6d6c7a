/- Texts of one proof, put together: LM L2 L3 L5. -/
import Derived.Test.YtohfdecefikinaaGreatDoorZCM03
import Derived.Test.YtohfdecefikinaaGreatDoorZCM08
import Derived.Lib.SliceRun
import Derived.Carry

/- Links, plainly: a sender and a receiver. -/
namespace Go.Proofs.YtohfdecefikinaaGreatDoor
set_option linter.unusedSimpArgs false
set_option linter.unusedVariables false

/-- A sender of a link: the frames that are kept, each with the tick at which it was sent last. -/
structure Snd where
  fr : Int
  to : Int
  next : Int
  now : Int
  l : List (Fr × Int)
namespace Snd
def new (fr to : Int) : Snd := ⟨fr, to, 0, 0, []⟩
def frame (s : Snd) (kind : UInt8) (nums : List Int) : Fr := ⟨kind, s.fr, s.to, s.next, nums⟩
/-- An error's number. -/
def err (s : Snd) (kind : UInt8) (nums : List Int) : Nat := if (s.frame kind nums).code ≠ 0 then (s.frame kind nums).code else if kind = 97 then 4 else if 200 ≤ s.l.length then 8 else 0
def sent (s : Snd) (kind : UInt8) (nums : List Int) : Snd := { s with next := s.next + 1, l := s.l ++ [(s.frame kind nums, s.now)] }
def send (s : Snd) (kind : UInt8) (nums : List Int) : Snd := if s.err kind nums = 0 then s.sent kind nums else s
/-- At the next tick: is it sent again? -/
def late (s : Snd) (k : Fr × Int) : Bool := decide (s.now + 1 - k.2 = 3)
def stamp (s : Snd) (k : Fr × Int) : Fr × Int := if s.late k then (k.1, s.now + 1) else k
def tick (s : Snd) : Snd := { s with now := s.now + 1, l := s.l.map s.stamp }
def again (s : Snd) : List Fr := (s.l.filter s.late).map (·.1)
def acked (s : Snd) (n : Int) : Snd := { s with l := s.l.filter fun k => decide (n ≤ k.1.seq) }
/-- What bounds it. -/
structure Ok (s : Snd) (m : Nat) : Prop where
  next : 0 ≤ s.next ∧ s.next ≤ m
  now : 0 ≤ s.now ∧ s.now ≤ m
  at_ : ∀ k ∈ s.l, 0 ≤ k.2 ∧ k.2 ≤ s.now
  len : s.l.length ≤ 200
theorem Ok.new (fr to : Int) : (new fr to).Ok 0 := ⟨by simp [Snd.new], by simp [Snd.new], by simp [Snd.new], by simp [Snd.new]⟩
theorem Ok.mono {s : Snd} {m k : Nat} (h : s.Ok m) (hk : m ≤ k) : s.Ok k := ⟨by have := h.next; omega, by have := h.now; omega, h.at_, h.len⟩
theorem err_zero {s : Snd} {kind : UInt8} {nums : List Int} (h : s.err kind nums = 0) : (s.frame kind nums).code = 0 ∧ kind ≠ 97 ∧ s.l.length < 200 := by
  unfold err at h
  split at h
  · contradiction
  rename_i h1
  split at h
  · contradiction
  rename_i h2
  split at h
  · contradiction
  rename_i h3
  exact ⟨by omega, h2, by omega⟩
theorem Ok.sent {s : Snd} {m : Nat} (h : s.Ok m) {kind : UInt8} {nums : List Int} (hl : s.l.length < 200) : (s.sent kind nums).Ok (m + 1) := by
  have h1 := h.next
  have h2 := h.now
  refine ⟨by simp only [Snd.sent]; omega, by simp only [Snd.sent]; omega, fun k hk => ?_, by simp only [Snd.sent, List.length_append, List.length_cons, List.length_nil]; omega⟩
  simp only [Snd.sent, List.mem_append, List.mem_singleton] at hk ⊢
  rcases hk with hk | rfl
  · exact h.at_ k hk
  · exact ⟨h2.1, Int.le_refl _⟩
theorem Ok.send {s : Snd} {m : Nat} (h : s.Ok m) (kind : UInt8) (nums : List Int) : (s.send kind nums).Ok (m + 1) := by
  unfold Snd.send
  split
  · rename_i he
    exact h.sent (err_zero he).2.2
  · exact h.mono (by omega)
theorem Ok.tick {s : Snd} {m : Nat} (h : s.Ok m) : s.tick.Ok (m + 1) := by
  have h1 := h.next
  have h2 := h.now
  refine ⟨by simp only [Snd.tick]; omega, by simp only [Snd.tick]; omega, fun k hk => ?_, by simpa [Snd.tick] using h.len⟩
  simp only [Snd.tick, List.mem_map] at hk ⊢
  obtain ⟨x, hx, rfl⟩ := hk
  have := h.at_ x hx
  unfold stamp
  split
  · simp only; omega
  · omega
theorem Ok.acked {s : Snd} {m : Nat} (h : s.Ok m) (n : Int) : (s.acked n).Ok m :=
  ⟨h.next, h.now, fun k hk => h.at_ k ((List.mem_filter.1 hk).1), Nat.le_trans (List.length_filter_le _ _) h.len⟩
end Snd

/-- A receiver of a link. -/
structure Rcv where
  fr : Int
  to : Int
  due : Int
  wait : List Fr
namespace Rcv
def new (fr to : Int) : Rcv := ⟨fr, to, 0, []⟩
def find (l : List Fr) (q : Int) : Option Nat := l.findIdx? fun f => decide (f.seq = q)
/-- What waits is told, as long as the next one waits. -/
def run : Nat → Rcv → List Fr → List Fr × Rcv
  | 0, r, out => (out, r)
  | n + 1, r, out => match find r.wait r.due with
    | none => (out, r)
    | some k => run n { r with due := r.due + 1, wait := r.wait.eraseIdx k } (out ++ (r.wait[k]?).toList)
def err (r : Rcv) (f : Fr) : Nat := if f.code ≠ 0 then f.code else if f.fr ≠ r.fr ∨ f.to ≠ r.to ∨ f.kind = 97 then 3 else 0
/-- A right frame is taken: what is told, and what then is. -/
def took (r : Rcv) (f : Fr) : List Fr × Rcv :=
  if f.seq < r.due ∨ (find r.wait f.seq).isSome then ([], r)
  else if r.due < f.seq then ([], if r.wait.length < 8 then { r with wait := r.wait ++ [f] } else r)
  else run (r.wait.length + 1) { r with due := r.due + 1 } [f]
def take (r : Rcv) (f : Fr) : List Fr × Rcv := if r.err f = 0 then r.took f else ([], r)
theorem find_get {l : List Fr} {q : Int} {k : Nat} (h : find l q = some k) : ∃ f, l[k]? = some f ∧ f.seq = q := by
  obtain ⟨hk, h1, _⟩ := List.findIdx?_eq_some_iff_getElem.1 h
  exact ⟨l[k], List.getElem?_eq_getElem hk, of_decide_eq_true h1⟩
theorem find_lt {l : List Fr} {q : Int} {k : Nat} (h : find l q = some k) : k < l.length := by
  obtain ⟨f, hf, _⟩ := find_get h
  rcases Nat.lt_or_ge k l.length with h1 | h1
  · exact h1
  · rw [List.getElem?_eq_none h1] at hf; cases hf
end Rcv
end Go.Proofs.YtohfdecefikinaaGreatDoor


/- Links: a frame is copied; a sender and a receiver are made. -/
namespace Go.Proofs.YtohfdecefikinaaGreatDoor
set_option linter.unusedSimpArgs false
set_option linter.unusedVariables false
open Go Go.RowKit

set_option maxRecDepth 100000 in
set_option maxHeartbeats 800000 in
theorem clone_any (a : Option Addr) (n cap : Nat) (vs : List Int) (w : World) (hr : Ints w a n vs) (hl : n ≤ 1000) :
    Calls Tryz.prog 61 #[.slice a n cap] w fun e w' => ∃ v, e = .returned v ∧ Ext w w' ∧ IRow w.heap.size w' v vs := by
  cases a with
  | none =>
    obtain rfl : n = 0 := by
      rcases Nat.eq_zero_or_pos n with h | h
      · exact h
      · obtain ⟨x, hx⟩ := hr.sm h; cases hx
    obtain rfl : vs = [] := List.eq_nil_of_length_eq_zero hr.ln
    have he := Lib.run_eql_slice_nil (P := Tryz.prog) w 42 3 none 0 cap 0 0 Tryz.underlying42
    clear hr
    go_enter Tryz.func61, Tryz.ntmps61
    go_wp2
    go_ret
    exact ⟨_, rfl, Ext.refl _, IRow.nil _ _⟩
  | some x =>
    have Hr := hid hr
    have hl2 : ([] : List Int).length + n ≤ 1000000 := by simp; omega
    have hnil : IRow w.heap.size (w.alloc (.cells #[] 3)) (.slice (some ⟨w.heap.size, 0, none⟩) 0 0) [] := World.ownsRow_made w #[] 0 (Nat.le_refl _) (by unfold maxLen; omega) rfl
    have Hnil := hid hnil
    have hb : w.heap.size ≤ (w.alloc (.cells #[] 3)).heap.size := by simp
    have he := Lib.run_eql_slice_nil (P := Tryz.prog) w 42 3 (some x) n cap 0 0 Tryz.underlying42
    clear hr hnil
    go_enter Tryz.func61, Tryz.ntmps61
    go_wp2_with (at_builtin; refine wpList_append_ints w.heap.size hb rfl _ _ rfl (.slice (some ⟨w.heap.size, 0, none⟩) 0 0) [] rfl Hnil.out (some x) n cap vs rfl (Hr.out.ext ((Ext.refl _).alloc _)) hl2 ?_; intro v' w' h1 h2; have h3 := Keep.new ((Ext.refl w).alloc _) (grown_keep h2) (fun k hk => by simp [Value.ownBlock] at hk; omega))
    go_ret
    exact ⟨_, rfl, h3, h1⟩

/-- Are the ends of a link so? -/
def endsCode (fr to : Int) : Nat := if fr < 0 ∨ 6 ≤ fr ∨ to < 0 ∨ 6 ≤ to then 2 else if fr = to then 3 else 0

def kcells (x : FV × Int) : List Value := x.1.cells ++ [.int .i64 x.2]
theorem kcells_len (x : FV × Int) : (kcells x).length = 6 := rfl
end Go.Proofs.YtohfdecefikinaaGreatDoor


/- Links: a frame is sent. -/
namespace Go.Proofs.YtohfdecefikinaaGreatDoor
set_option linter.unusedSimpArgs false
set_option linter.unusedVariables false
open Go Go.RowKit

section
variable {w : World} {n0 : Nat} {t : Option Nat}
theorem Wr.blk {b : Nat} {c : Array Value} {e : TypeId} (hb : Blk w b c e) (hne : e ≠ 3) (hl : n0 ≤ b) : Wr w n0 t fun k => k = b :=
  fun k hk _ => ⟨by omega, fun hi => absurd hi (by subst hk; exact IsInt.not hb hne)⟩
theorem Wr.or {X Y : Nat → Prop} (h1 : Wr w n0 t X) (h2 : Wr w n0 t Y) : Wr w n0 t fun b => X b ∨ Y b := fun b hb hl => hb.elim (fun h => h1 b h hl) fun h => h2 b h hl
theorem Wr.row {v : Value} {e : TypeId} {size n : Nat} {xs : List Value} (h : w.ownsRow n0 e size v n xs) (hne : e ≠ 3) : Wr w n0 t fun k => v.ownBlock = some k :=
  fun k hk _ => ⟨(World.ownsRow.lt h k hk).1, fun hi => by
    obtain ⟨c, hc⟩ := own_ty h hk
    exact absurd hi (IsInt.not hc hne)⟩
theorem Wr.sub {X Y : Nat → Prop} (h : Wr w n0 t Y) (hx : ∀ b, X b → b < w.heap.size → Y b) : Wr w n0 t X := fun b hb hl => h b (hx b hb hl) hl
end
theorem own_rebase {w : World} {base b2 : Nat} {e : TypeId} {size n : Nat} {v : Value} {xs : List Value} (h : w.ownsRow base e size v n xs) (hb : ∀ k, v.ownBlock = some k → b2 ≤ k) : w.ownsRow b2 e size v n xs := by
  obtain ⟨h1, h2⟩ := h
  refine ⟨h1, h2.imp id ?_⟩
  rintro ⟨g, cap, cur, rfl, hg, h3⟩
  exact ⟨g, cap, cur, rfl, hb g rfl, h3⟩
end Go.Proofs.YtohfdecefikinaaGreatDoor


/- Links: what is answered is struck. -/
namespace Go.Proofs.YtohfdecefikinaaGreatDoor
set_option linter.unusedSimpArgs false
set_option linter.unusedVariables false
open Go Go.RowKit

def kval (x : FV × Int) : Value := .agg #[.int .u8 (x.1.f.kind.toNat : Int), .int .i64 x.1.f.fr, .int .i64 x.1.f.to, .int .i64 x.1.f.seq, x.1.v, .int .i64 x.2]
theorem set_shift (l : List Value) (a0 a1 a2 a3 a4 a5 v : Value) (i : Nat) : (a0 :: a1 :: a2 :: a3 :: a4 :: a5 :: l).set (i + 6) v = a0 :: a1 :: a2 :: a3 :: a4 :: a5 :: l.set i v := rfl
theorem kset6 : ∀ (R : List (FV × Int)) (i : Nat) (y : FV × Int), i < R.length → ((((((R.flatMap kcells).set (i * 6) (.int .u8 (y.1.f.kind.toNat : Int))).set (i * 6 + 1) (.int .i64 y.1.f.fr)).set (i * 6 + 2) (.int .i64 y.1.f.to)).set (i * 6 + 3) (.int .i64 y.1.f.seq)).set (i * 6 + 4) y.1.v).set (i * 6 + 5) (.int .i64 y.2) = (R.set i y).flatMap kcells
  | [], i, y, h => by simp at h
  | x :: l, 0, y, h => by simp [kcells, FV.cells]
  | x :: l, i + 1, y, h => by
    have ih := kset6 l i y (by simpa using h)
    rw [List.set_cons_succ, List.flatMap_cons, List.flatMap_cons, ← ih]
    rw [show (i + 1) * 6 = i * 6 + 6 by omega, show i * 6 + 6 + 1 = i * 6 + 1 + 6 by omega, show i * 6 + 6 + 2 = i * 6 + 2 + 6 by omega, show i * 6 + 6 + 3 = i * 6 + 3 + 6 by omega, show i * 6 + 6 + 4 = i * 6 + 4 + 6 by omega, show i * 6 + 6 + 5 = i * 6 + 5 + 6 by omega]
    simp only [kcells, FV.cells, List.cons_append, List.nil_append, set_shift]
theorem kset5 (R : List (FV × Int)) (i : Nat) (x : FV × Int) (n : Int) (hx : R[i]? = some x) : (R.flatMap kcells).set (i * 6 + 5) (.int .i64 n) = (R.set i (x.1, n)).flatMap kcells := by
  have hi : i < R.length := by
    rcases Nat.lt_or_ge i R.length with h | h
    · exact h
    · rw [List.getElem?_eq_none h] at hx; cases hx
  rw [← kset6 R i (x.1, n) hi]
  have g : ∀ j v, (kcells x)[j]? = some v → j < 6 → (R.flatMap kcells)[i * 6 + j]? = some v := fun j v hv hj => (fm_get kcells 6 kcells_len R i j x hx hj).trans hv
  have s : ∀ (L : List Value) (k : Nat) (v : Value), L[k]? = some v → L.set k v = L := fun L k v h => by
    apply List.ext_getElem?
    intro j
    rw [List.getElem?_set]
    by_cases hkj : k = j
    · subst hkj
      rw [h]
      have : k < L.length := by
        rcases Nat.lt_or_ge k L.length with h1 | h1
        · exact h1
        · rw [List.getElem?_eq_none h1] at h; cases h
      simp [this]
    · simp [hkj]
  have g0 : (R.flatMap kcells)[i * 6]? = some (.int .u8 (x.1.f.kind.toNat : Int)) := g 0 _ rfl (by omega)
  simp only
  rw [s _ _ _ g0, s _ _ _ (g 1 _ rfl (by omega)), s _ _ _ (g 2 _ rfl (by omega)), s _ _ _ (g 3 _ rfl (by omega)), s _ _ _ (g 4 _ rfl (by omega))]

def store6 (w : World) (g i : Nat) (y : FV × Int) : World := (((((w.setCell ⟨g, i, none⟩ (.int .u8 (y.1.f.kind.toNat : Int))).setCell ⟨g, i + 1, none⟩ (.int .i64 y.1.f.fr)).setCell ⟨g, i + 2, none⟩ (.int .i64 y.1.f.to)).setCell ⟨g, i + 3, none⟩ (.int .i64 y.1.f.seq)).setCell ⟨g, i + 4, none⟩ y.1.v).setCell ⟨g, i + 5, none⟩ (.int .i64 y.2)
theorem store6_keep (w : World) (g i : Nat) (y : FV × Int) : Keep (fun b => b = g) w (store6 w g i y) :=
  have k : ∀ (u : World) j v, Keep (fun b => b = g) w u → Keep (fun b => b = g) w (u.setCell ⟨g, j, none⟩ v) := fun _ _ v h => h.set rfl v
  k _ _ _ (k _ _ _ (k _ _ _ (k _ _ _ (k _ _ _ (k _ _ _ (Keep.refl _ w))))))
theorem own_put6 {w : World} {base g n cap : Nat} {e : TypeId} {R : List (FV × Int)} (h : w.ownsRow base e 6 (.slice (some ⟨g, 0, none⟩) n cap) n (R.flatMap kcells)) (i : Nat) (hi : i < R.length) (y : FV × Int) : (store6 w g (i * 6) y).ownsRow base e 6 (.slice (some ⟨g, 0, none⟩) n cap) n ((R.set i y).flatMap kcells) := by
  have hl : (R.flatMap kcells).length = R.length * 6 := fm_len kcells 6 kcells_len R
  rw [← kset6 R i y hi]
  unfold store6
  exact own_set (own_set (own_set (own_set (own_set (own_set h _ (by omega) _) _ (by simp only [List.length_set]; omega) _) _ (by simp only [List.length_set]; omega) _) _ (by simp only [List.length_set]; omega) _) _ (by simp only [List.length_set]; omega) _) _ (by simp only [List.length_set]; omega) _
theorem own_k {w : World} {base g n cap : Nat} {e : TypeId} {R : List (FV × Int)} (h : w.ownsRow base e 6 (.slice (some ⟨g, 0, none⟩) n cap) n (R.flatMap kcells)) {i : Nat} {x : FV × Int} (hx : R[i]? = some x) :
    w.cell? ⟨g, i * 6, none⟩ = some (.int .u8 (x.1.f.kind.toNat : Int)) ∧ w.cell? ⟨g, i * 6 + 1, none⟩ = some (.int .i64 x.1.f.fr) ∧ w.cell? ⟨g, i * 6 + 2, none⟩ = some (.int .i64 x.1.f.to) ∧ w.cell? ⟨g, i * 6 + 3, none⟩ = some (.int .i64 x.1.f.seq) ∧ w.cell? ⟨g, i * 6 + 4, none⟩ = some x.1.v ∧ w.cell? ⟨g, i * 6 + 5, none⟩ = some (.int .i64 x.2) := by
  have c : ∀ j v, (kcells x)[j]? = some v → j < 6 → w.cell? ⟨g, i * 6 + j, none⟩ = some v := fun j v hv hj => own_get h _ ((fm_get kcells 6 kcells_len R i j x hx hj).trans hv)
  exact ⟨c 0 _ rfl (by omega), c 1 _ rfl (by omega), c 2 _ rfl (by omega), c 3 _ rfl (by omega), c 4 _ rfl (by omega), c 5 _ rfl (by omega)⟩

/-- What is not answered below n. -/
def keptB (n : Int) (x : FV × Int) : Bool := decide (n ≤ x.1.f.seq)
end Go.Proofs.YtohfdecefikinaaGreatDoor
