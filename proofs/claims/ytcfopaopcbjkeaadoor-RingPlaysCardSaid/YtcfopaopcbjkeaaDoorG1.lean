
/- The reference's ring: what its memory is; it is made. -/
import Derived.Test.YtcfopaopcbjkeaaDoorR9
import Derived.Test.YtcfopaopcbjkeaaDoorF8
import Derived.Maps.AppendAt
namespace Go.Proofs.YtcfopaopcbjkeaaDoor
set_option linter.unusedSimpArgs false
set_option linter.unusedVariables false
open Go Go.RowKit

/-- A row that is read and written in place: its first cells are xs. -/
def RW (w : World) (b : Nat) (e : TypeId) (xs : List Value) : Prop := ∃ cur : Array Value, Blk w b cur e ∧ ∀ i, i < xs.length → cur[i]? = xs[i]?
theorem RW.cell {w : World} {b : Nat} {e : TypeId} {xs : List Value} (h : RW w b e xs) (i : Nat) {v : Value} (hv : xs[i]? = some v) : w.cell? ⟨b, i, none⟩ = some v := by
  obtain ⟨cur, hb, hc⟩ := h
  have hi : i < xs.length := by
    rcases Nat.lt_or_ge i xs.length with h | h
    · exact h
    · rw [List.getElem?_eq_none h] at hv; cases hv
  rw [hb.cell i, hc i hi, hv]
theorem RW.free {w : World} {b : Nat} {e : TypeId} {xs : List Value} (h : RW w b e xs) (i : Nat) : w.frozen? ⟨b, i, none⟩ = false := by
  obtain ⟨cur, hb, _⟩ := h
  exact hb.free i
theorem RW.lt {w : World} {b : Nat} {e : TypeId} {xs : List Value} (h : RW w b e xs) : b < w.heap.size := by
  obtain ⟨cur, hb, _⟩ := h
  exact hb.lt
theorem RW.ext {w w' : World} {b : Nat} {e : TypeId} {xs : List Value} (h : RW w b e xs) (x : Ext w w') : RW w' b e xs := by
  obtain ⟨cur, hb, hc⟩ := h
  exact ⟨cur, hb.ext x, hc⟩
theorem RW.keep {X : Nat → Prop} {w w' : World} {b : Nat} {e : TypeId} {xs : List Value} (h : RW w b e xs) (k : Keep X w w') (hx : ¬ X b) : RW w' b e xs := by
  obtain ⟨cur, hb, hc⟩ := h
  exact ⟨cur, hb.keep k hx, hc⟩
theorem RW.set {w : World} {b : Nat} {e : TypeId} {xs : List Value} (h : RW w b e xs) (i : Nat) (v : Value) (hi : i < xs.length) : RW (w.setCell ⟨b, i, none⟩ v) b e (xs.set i v) := by
  obtain ⟨cur, hb, hc⟩ := h
  refine ⟨cur.setIfInBounds i v, hb.set i v, fun j hj => ?_⟩
  rw [List.length_set] at hj
  have h1 := hc j hj
  have hcs : i < cur.size := by
    have h2 := hc i hi
    rw [List.getElem?_eq_getElem hi] at h2
    exact (Array.getElem?_eq_some_iff.1 h2).1
  rw [Array.getElem?_setIfInBounds, List.getElem?_set]
  by_cases hij : i = j
  · subst hij; simp [hi, hcs]
  · simp [hij, h1]
theorem RW.of_own {w : World} {base : Nat} {e : TypeId} {v : Value} {xs : List Value} {n : Nat} (h : w.ownsRow base e 1 v n xs) (hn : 0 < n) : ∃ b cap, v = .slice (some ⟨b, 0, none⟩) n cap ∧ RW w b e xs ∧ base ≤ b := by
  obtain ⟨h1, h2⟩ := h
  rcases h2 with ⟨_, h3⟩ | ⟨g, cap, cur, hv, hb, hg, hnc, _, hcs, htake⟩
  · omega
  · refine ⟨g, cap, hv, ⟨cur, hg, fun i hi => ?_⟩, hb⟩
    rw [← htake] at hi
    have : (cur.toList.take (n * 1))[i]? = cur.toList[i]? := by
      rw [List.getElem?_take, if_pos (by simp at hi; omega)]
    rw [← htake, this]
    simp

/-- The reference's ring at p. -/
structure RefAt (w : World) (p b1 b2 b3 k1 k2 k3 : Nat) (su : Value) (s : RS) : Prop where
  hp : Blk w p #[.int .i64 (s.n : Int), .slice (some ⟨b1, 0, none⟩) s.n k1, .slice (some ⟨b2, 0, none⟩) s.n k2, .slice (some ⟨b3, 0, none⟩) s.n k3, su, .int .i64 (s.pos : Int), .int .i64 s.tc, .bool s.tb, .bool (!s.fr), .bool s.told] 60
  h1 : RW w b1 3 (s.ps.map fun x => Value.int .i64 x.1)
  h2 : RW w b2 4 (s.ps.map fun x => Value.bool x.2)
  h3 : RW w b3 4 (s.ac.map Value.bool)
  hu : w.ownsRow 0 124 1 su s.un.length (s.un.map fun t : Nat => Value.int .i64 (t : Int))
  d : p ≠ b1 ∧ p ≠ b2 ∧ p ≠ b3 ∧ b1 ≠ b2 ∧ b1 ≠ b3 ∧ b2 ≠ b3
  du : ∀ k, su.ownBlock = some k → k ≠ p ∧ k ≠ b1 ∧ k ≠ b2 ∧ k ≠ b3
/-- What it may write. -/
def fq (p b1 b2 b3 : Nat) (su : Value) (k : Nat) : Prop := k = p ∨ k = b1 ∨ k = b2 ∨ k = b3 ∨ su.ownBlock = some k
def RQ (w : World) (p b1 b2 b3 k1 k2 k3 : Nat) (su : Value) (s : RS) : Ending → World → Prop := fun e w' =>
  e = .returned (.tuple #[]) ∧ ∃ su', RefAt w' p b1 b2 b3 k1 k2 k3 su' s ∧ Keep (fq p b1 b2 b3 su) w w' ∧ ∀ k, su'.ownBlock = some k → su.ownBlock = some k ∨ w.heap.size ≤ k
theorem RefAt.keep {X : Nat → Prop} {w w' : World} {p b1 b2 b3 k1 k2 k3 : Nat} {su : Value} {s : RS} (h : RefAt w p b1 b2 b3 k1 k2 k3 su s) (k : Keep X w w') (hx : ∀ i, fq p b1 b2 b3 su i → ¬ X i) : RefAt w' p b1 b2 b3 k1 k2 k3 su s :=
  ⟨h.hp.keep k (hx _ (.inl rfl)), h.h1.keep k (hx _ (.inr (.inl rfl))), h.h2.keep k (hx _ (.inr (.inr (.inl rfl)))), h.h3.keep k (hx _ (.inr (.inr (.inr (.inl rfl))))), ownsRow_keep h.hu k (fun i hi => hx i (.inr (.inr (.inr (.inr hi))))), h.d, h.du⟩
theorem RefAt.ext {w w' : World} {p b1 b2 b3 k1 k2 k3 : Nat} {su : Value} {s : RS} (h : RefAt w p b1 b2 b3 k1 k2 k3 su s) (x : Ext w w') : RefAt w' p b1 b2 b3 k1 k2 k3 su s :=
  h.keep (x.keep fun _ => False) fun _ _ h => h

/-- append of one value to a row of one's own, in a sequence. -/
theorem wpList_append_one {ops : Array Oper} {Q : Exit → Act → World → Prop} {rest : List Oper} {o : Oper} {a : Act} {w : World} (base : Nat) (hbase : base ≤ w.heap.size) (t e : TypeId) (z : Value) (bytes : Nat) (ht : Tryd.prog.underlying t = some (.slice e)) (hinf : (Tryd.prog.info? e).map (fun i => (i.zero, i.size, i.bytes)) = some (some z, 1, bytes)) (hz1 : z.cells.size = 1)
    (hb8 : bytes ≤ 8) (hg : o.guard = none) (s x : Operand) (ho : o.op = .call { callee := .builtin .append, args := #[s, x], argTypes := #[t, t] })
    (v : Value) (n : Nat) (xs : List Value) (hs : a.eval s = v) (hown : w.ownsRow base e 1 v n xs) (g : Nat) (u : Value) (hu : u.oneCell' = true) (hx : a.eval x = .slice (some ⟨g, 0, none⟩) 1 1) (hb : Blk w g #[u] e) (hl : n ≤ 1000000)
    (h : ∀ v' w', w'.ownsRow base e 1 v' (n + 1) (xs ++ [u]) → Keep (fun k => v.ownBlock = some k) w w' → (v'.ownBlock = v.ownBlock ∨ v'.ownBlock = some w.heap.size) → wpList Tryd.prog ops Q rest (a.put o.dst v') w') : wpList Tryd.prog ops Q (o :: rest) a w := by
  obtain ⟨ti, hi, hz0, hz, hz2⟩ := info_parts hinf
  obtain ⟨v', w', hr, h2, h3, _, h4⟩ := run_append_own_at (P := Tryd.prog) w base t o.type e ti z 1 bytes ht hi hz0 hz hz2 hz1 (by omega) v n xs hown ⟨g, 0, none⟩ 1 1 [u] (by simp) (fun j q hq => by
    rw [show (⟨g, 0, none⟩ : Addr).add j = ⟨g, j, none⟩ from by by_cases h0 : j = 0 <;> simp [Addr.add, h0], hb.cell j]
    simpa using hq) (by simp [hu]) (by simp only [maxLen]; omega) (by
      have : (n + 1) * bytes ≤ (n + 1) * 8 := Nat.mul_le_mul_left _ hb8
      omega) hbase
  refine wpList_plain hg fun K hK => ?_
  unfold Oper.wp
  rw [run_exec_append s x t ho hs hx hr]
  exact hK _ _ (h v' w' h2 (grown_keep h3) h4)
theorem message_info : (Tryd.prog.info? 124).map (fun i => (i.zero, i.size, i.bytes)) = some (some (.agg #[.int .i64 0]), 1, 8) := by kernel_rfl

/-- While it is made: so many peers are there. -/
structure RMake (W w : World) (p n k1 k2 k3 : Nat) (v1 v2 v3 : Value) : Prop where
  hp : Blk w p #[.int .i64 (n : Int), v1, v2, v3, .slice none 0 0, .int .i64 0, .int .i64 0, .bool false, .bool false, .bool false] 60
  h1 : w.ownsRow (p + 1) 3 1 v1 k1 (List.replicate k1 (.int .i64 0))
  h2 : w.ownsRow (p + 1) 4 1 v2 k2 (List.replicate k2 (.bool false))
  h3 : w.ownsRow (p + 1) 4 1 v3 k3 (List.replicate k3 (.bool true))
  d12 : ∀ i, v1.ownBlock = some i → v2.ownBlock ≠ some i
  d13 : ∀ i, v1.ownBlock = some i → v3.ownBlock ≠ some i
  d23 : ∀ i, v2.ownBlock = some i → v3.ownBlock ≠ some i
  kp : Keep (fun b => b = p) W w
  lp : W.heap.size = p + 1
theorem bools_info : (Tryd.prog.info? 4).map (fun i => (i.zero, i.size, i.bytes)) = some (some (.bool false), 1, 1) := by kernel_rfl
theorem slice_of_own {w : World} {base : Nat} {e : TypeId} {size : Nat} {v : Value} {n : Nat} {xs : List Value} (h : w.ownsRow base e size v n xs) : ∃ a c, v = .slice a n c := by
  rcases h.2 with ⟨h2, h3⟩ | ⟨g, cap, cur, h2, _⟩
  · exact ⟨none, 0, by rw [h2, h3]⟩
  · exact ⟨_, _, h2⟩
theorem own_keep {w w' : World} {base : Nat} {e : TypeId} {size : Nat} {v : Value} {n : Nat} {xs : List Value} {X : Nat → Prop} (h : w.ownsRow base e size v n xs) (k : Keep X w w') (hx : ∀ i, v.ownBlock = some i → ¬ X i) : w'.ownsRow base e size v n xs := by
  obtain ⟨h1, h2⟩ := h
  refine ⟨h1, h2.imp id ?_⟩
  rintro ⟨g, cap, cur, rfl, hb, hg, h3⟩
  exact ⟨g, cap, cur, rfl, hb, Keep.get k hg (hx g rfl), h3⟩
theorem own_ne {w : World} {base : Nat} {e : TypeId} {size : Nat} {v : Value} {n : Nat} {xs : List Value} (h : w.ownsRow base e size v n xs) {i : Nat} (hi : v.ownBlock = some i) : base ≤ i ∧ i < w.heap.size := World.ownsRow.lt h i hi
theorem kp_step {W w w1 : World} {p : Nat} {v v' : Value} {o : Obj} {j : Nat} (kp : Keep (fun b => b = p) W w) (lp : W.heap.size = p + 1) (hk : Keep (fun k => v.ownBlock = some k) (w.alloc o) w1) (hv : ∀ i, v.ownBlock = some i → p + 1 ≤ i) :
    Keep (fun b => b = p) W (w1.setCell ⟨p, j, none⟩ v') :=
  Keep.set (X := fun b => b = p) ((kp.alloc o).tr hk fun i hi => .inl (by have := hv i hi; omega)) rfl _
theorem hp_step {w w1 : World} {p : Nat} {v : Value} {o : Obj} {c : Array Value} {e : TypeId} (hp : Blk w p c e) (hk : Keep (fun k => v.ownBlock = some k) (w.alloc o) w1) (hv : ∀ i, v.ownBlock = some i → p + 1 ≤ i) : Blk w1 p c e :=
  (hp.alloc o).keep hk fun h => by have := hv p h; omega
/-- Another row stays. -/
theorem other_step {w w1 : World} {p : Nat} {v u v' : Value} {o : Obj} {j : Nat} {e : TypeId} {n : Nat} {xs : List Value} (h : w.ownsRow (p + 1) e 1 u n xs) (hk : Keep (fun k => v.ownBlock = some k) (w.alloc o) w1) (hd : ∀ i, v.ownBlock = some i → u.ownBlock ≠ some i) :
    (w1.setCell ⟨p, j, none⟩ v').ownsRow (p + 1) e 1 u n xs := by
  have h1 := own_keep (own_ext h ((Ext.refl w).alloc o)) hk fun i hi hv => hd i hv hi
  exact own_keep (X := fun b => b = p) h1 (Keep.set (X := fun b => b = p) (Keep.refl _ _) rfl _) fun i hi e => by have := (own_ne h1 hi).1; omega
theorem own_step {w1 : World} {p : Nat} {v' : Value} {j : Nat} {e : TypeId} {n : Nat} {x : Value} (h : w1.ownsRow (p + 1) e 1 v' (n + 1) (List.replicate n x ++ [x])) : (w1.setCell ⟨p, j, none⟩ v').ownsRow (p + 1) e 1 v' (n + 1) (List.replicate (n + 1) x) := by
  rw [List.replicate_succ']
  exact own_keep (X := fun b => b = p) h (Keep.set (X := fun b => b = p) (Keep.refl _ _) rfl _) fun i hi e => by have := (own_ne h hi).1; omega
theorem Blk.new_set (w : World) (a : Addr) (v : Value) (c : Array Value) (e : TypeId) : Blk ((w.setCell a v).alloc (.cells c e)) w.heap.size c e := by
  have := Blk.new (w.setCell a v) c e
  simpa [World.setCell] using this
/-- A row that grew is apart from another one. -/
theorem apart_step {w : World} {v v' u : Value} {o : Obj} {base : Nat} {e : TypeId} {n : Nat} {xs : List Value} (h : w.ownsRow base e 1 u n xs) (hd : ∀ i, v.ownBlock = some i → u.ownBlock ≠ some i) (hl : v'.ownBlock = v.ownBlock ∨ v'.ownBlock = some (w.alloc o).heap.size) : ∀ i, v'.ownBlock = some i → u.ownBlock ≠ some i := by
  intro i hi hu
  rcases hl with h1 | h1
  · exact hd i (h1 ▸ hi) hu
  · have h2 := (own_ne h hu).2
    rw [h1] at hi
    have := Option.some.inj hi
    simp at this
    omega
theorem RMake.step1 {W w w1 : World} {p n k1 k2 k3 : Nat} {v1 v2 v3 v' : Value} {o : Obj} (h : RMake W w p n k1 k2 k3 v1 v2 v3) (ho : w1.ownsRow (p + 1) 3 1 v' (k1 + 1) (List.replicate k1 (.int .i64 0) ++ [.int .i64 0])) (hk : Keep (fun k => v1.ownBlock = some k) (w.alloc o) w1)
    (hl : v'.ownBlock = v1.ownBlock ∨ v'.ownBlock = some (w.alloc o).heap.size) : RMake W (w1.setCell ⟨p, 1, none⟩ v') p n (k1 + 1) k2 k3 v' v2 v3 := by
  have hv : ∀ i, v1.ownBlock = some i → p + 1 ≤ i := fun i hi => (own_ne h.h1 hi).1
  have hp' := (hp_step h.hp hk hv).set 1 v'
  simp only [List.setIfInBounds_toArray, List.set_cons_zero, List.set_cons_succ] at hp'
  exact ⟨hp', own_step ho, other_step h.h2 hk h.d12, other_step h.h3 hk h.d13, apart_step h.h2 h.d12 hl, apart_step h.h3 h.d13 hl, h.d23, kp_step h.kp h.lp hk hv, h.lp⟩
theorem RMake.step2 {W w w1 : World} {p n k1 k2 k3 : Nat} {v1 v2 v3 v' : Value} {o : Obj} (h : RMake W w p n k1 k2 k3 v1 v2 v3) (ho : w1.ownsRow (p + 1) 4 1 v' (k2 + 1) (List.replicate k2 (.bool false) ++ [.bool false])) (hk : Keep (fun k => v2.ownBlock = some k) (w.alloc o) w1)
    (hl : v'.ownBlock = v2.ownBlock ∨ v'.ownBlock = some (w.alloc o).heap.size) : RMake W (w1.setCell ⟨p, 2, none⟩ v') p n k1 (k2 + 1) k3 v1 v' v3 := by
  have hv : ∀ i, v2.ownBlock = some i → p + 1 ≤ i := fun i hi => (own_ne h.h2 hi).1
  have hp' := (hp_step h.hp hk hv).set 2 v'
  simp only [List.setIfInBounds_toArray, List.set_cons_zero, List.set_cons_succ] at hp'
  have d21 : ∀ i, v2.ownBlock = some i → v1.ownBlock ≠ some i := fun i h2 h1 => h.d12 i h1 h2
  have d' := apart_step h.h1 d21 hl
  exact ⟨hp', other_step h.h1 hk d21, own_step ho, other_step h.h3 hk h.d23, fun i h1 h2 => d' i h2 h1, h.d13, apart_step h.h3 h.d23 hl, kp_step h.kp h.lp hk hv, h.lp⟩
theorem RMake.step3 {W w w1 : World} {p n k1 k2 k3 : Nat} {v1 v2 v3 v' : Value} {o : Obj} (h : RMake W w p n k1 k2 k3 v1 v2 v3) (ho : w1.ownsRow (p + 1) 4 1 v' (k3 + 1) (List.replicate k3 (.bool true) ++ [.bool true])) (hk : Keep (fun k => v3.ownBlock = some k) (w.alloc o) w1)
    (hl : v'.ownBlock = v3.ownBlock ∨ v'.ownBlock = some (w.alloc o).heap.size) : RMake W (w1.setCell ⟨p, 3, none⟩ v') p n k1 k2 (k3 + 1) v1 v2 v' := by
  have hv : ∀ i, v3.ownBlock = some i → p + 1 ≤ i := fun i hi => (own_ne h.h3 hi).1
  have hp' := (hp_step h.hp hk hv).set 3 v'
  simp only [List.setIfInBounds_toArray, List.set_cons_zero, List.set_cons_succ] at hp'
  have d31 : ∀ i, v3.ownBlock = some i → v1.ownBlock ≠ some i := fun i h2 h1 => h.d13 i h1 h2
  have d32 : ∀ i, v3.ownBlock = some i → v2.ownBlock ≠ some i := fun i h2 h1 => h.d23 i h1 h2
  have e1 := apart_step h.h1 d31 hl
  have e2 := apart_step h.h2 d32 hl
  exact ⟨hp', other_step h.h1 hk d31, other_step h.h2 hk d32, own_step ho, h.d12, fun i h1 h2 => e1 i h2 h1, fun i h1 h2 => e2 i h2 h1, kp_step h.kp h.lp hk hv, h.lp⟩

set_option maxRecDepth 100000 in
set_option maxHeartbeats 3200000 in
theorem refring_any (n : Nat) (h2 : 2 ≤ n) (h6 : n ≤ 6) (w : World) : Calls Tryd.prog 25 #[.int .i64 (n : Int)] w fun e w' => ∃ b1 b2 b3 k1 k2 k3, e = .returned (.pointer (some ⟨w.heap.size, 0, none⟩)) ∧ RefAt w' w.heap.size b1 b2 b3 k1 k2 k3 (.slice none 0 0) (RS.init n) ∧ Ext w w' ∧ w.heap.size < b1 ∧ w.heap.size < b2 ∧ w.heap.size < b3 := by
  obtain ⟨W, hW⟩ : ∃ W, W = w.alloc (.cells #[.int .i64 (n : Int), .slice none 0 0, .slice none 0 0, .slice none 0 0, .slice none 0 0, .int .i64 0, .int .i64 0, .bool false, .bool false, .bool false] 60) := ⟨_, rfl⟩
  have xW : Ext w W := by rw [hW]; exact (Ext.refl w).alloc _
  have hsz : W.heap.size = w.heap.size + 1 := by rw [hW]; simp
  have bW : Blk W w.heap.size #[.int .i64 (n : Int), .slice none 0 0, .slice none 0 0, .slice none 0 0, .slice none 0 0, .int .i64 0, .int .i64 0, .bool false, .bool false, .bool false] 60 := by rw [hW]; exact Blk.new _ _ _
  have hst : RMake W W w.heap.size n 0 0 0 (.slice none 0 0) (.slice none 0 0) (.slice none 0 0) := ⟨bW, World.ownsRow_nil _ _ _ _, World.ownsRow_nil _ _ _ _, World.ownsRow_nil _ _ _ _, fun i h => (by cases h), fun i h => (by cases h), fun i h => (by cases h), Keep.refl _ _, hsz⟩
  have HW := hid hW
  clear hW bW
  have Hsz := hid hsz
  clear hsz
  go_enter Tryd.func25, Tryd.ntmps25
  go_wp2
  rw [← HW.out]
  generalize hp : w.heap.size = p at *
  go_loopw [4] (fun t4 wr => ∃ (k : Nat) (v1 v2 v3 : Value), t4 = .int .i64 (k : Int) ∧ k ≤ n ∧ RMake W wr p n k k k v1 v2 v3) (fun t4 _ => n - (intOf t4).toNat)
  case atStart => exact ⟨0, _, _, _, rfl, Nat.zero_le _, hst⟩
  case round =>
    obtain ⟨k, v1, v2, v3, rfl, hk, hM⟩ := hrel
    clear hst
    by_cases hlt : k < n
    · have q1 := hM.hp.av 1 rfl
      have hsw := hM.kp.size
      have hks : k ≤ 1000000 := by omega
      have hb1 : p + 1 ≤ (wr.alloc (.cells #[.int .i64 0] 3)).heap.size := by have := Hsz.out; simp; omega
      go_wp2_with (first | (at_builtin; refine wpList_append_one (p + 1) hb1 22 3 (.int .i64 0) 8 Tryd.underlying22 ints_info rfl (by omega) rfl _ _ rfl v1 k _ rfl (own_ext hM.h1 ((Ext.refl _).alloc _)) wr.heap.size (.int .i64 0) rfl rfl (Blk.new _ _ _) hks ?_; intro v1' w1 ho1 hk1 hl1; obtain ⟨a1, c1, rfl⟩ := slice_of_own ho1; have f1 := hp_step hM.hp hk1 (fun i hi => (own_ne hM.h1 hi).1); have g1 := f1.av 1 rfl; have gg1 := f1.av 2 rfl; have z1 := f1.free; have hM1 := hM.step1 ho1 hk1 hl1; have hb2 : p + 1 ≤ ((w1.setCell ⟨p, 1, none⟩ (.slice a1 (k + 1) c1)).alloc (.cells #[.bool false] 4)).heap.size := (by have := hM1.kp.size; have := Hsz.out; rw [heap_size_alloc]; omega)) | (at_builtin; refine wpList_append_one (p + 1) hb2 57 4 (.bool false) 1 Tryd.underlying57 bools_info rfl (by omega) rfl _ _ rfl v2 k _ rfl (own_ext hM1.h2 ((Ext.refl _).alloc _)) w1.heap.size (.bool false) rfl rfl (Blk.new_set _ _ _ _ _) hks ?_; intro v2' w2 ho2 hk2 hl2; obtain ⟨a2, c2, rfl⟩ := slice_of_own ho2; have f2 := hp_step hM1.hp hk2 (fun i hi => (own_ne hM1.h2 hi).1); have g2 := f2.av 2 rfl; have gg2 := f2.av 3 rfl; have z2 := f2.free; have hM2 := hM1.step2 ho2 hk2 hl2; have hb3 : p + 1 ≤ ((w2.setCell ⟨p, 2, none⟩ (.slice a2 (k + 1) c2)).alloc (.cells #[.bool true] 4)).heap.size := (by have := hM2.kp.size; have := Hsz.out; rw [heap_size_alloc]; omega)) | (at_builtin; refine wpList_append_one (p + 1) hb3 57 4 (.bool false) 1 Tryd.underlying57 bools_info rfl (by omega) rfl _ _ rfl v3 k _ rfl (own_ext hM2.h3 ((Ext.refl _).alloc _)) w2.heap.size (.bool true) rfl rfl (Blk.new_set _ _ _ _ _) hks ?_; intro v3' w3 ho3 hk3 hl3; obtain ⟨a3, c3, rfl⟩ := slice_of_own ho3; have f3 := hp_step hM2.hp hk3 (fun i hi => (own_ne hM2.h3 hi).1); have g3 := f3.av 3 rfl; have z3 := f3.free; have hM3 := hM2.step3 ho3 hk3 hl3))
      go_roundw
      case rel => exact ⟨k + 1, _, _, _, by go_num, by omega, hM3⟩
      case measure => simp [intOf]; omega
    · obtain rfl : k = n := by omega
      obtain ⟨b1, k1, rfl, r1, l1⟩ := RW.of_own hM.h1 (by omega)
      obtain ⟨b2, k2, rfl, r2, l2⟩ := RW.of_own hM.h2 (by omega)
      obtain ⟨b3, k3, rfl, r3, l3⟩ := RW.of_own hM.h3 (by omega)
      have d12 : b1 ≠ b2 := fun e => hM.d12 b1 rfl (by rw [e]; rfl)
      have d13 : b1 ≠ b3 := fun e => hM.d13 b1 rfl (by rw [e]; rfl)
      have d23 : b2 ≠ b3 := fun e => hM.d23 b2 rfl (by rw [e]; rfl)
      have hn : (RS.init k).n = k := by simp [RS.n, RS.init]
      have hR : RefAt wr p b1 b2 b3 k1 k2 k3 (.slice none 0 0) (RS.init k) := by
        refine ⟨?_, ?_, ?_, ?_, World.ownsRow_nil _ _ _ _, ⟨by omega, by omega, by omega, d12, d13, d23⟩, fun i hi => by simp [Value.ownBlock] at hi⟩
        · rw [hn]; exact hM.hp
        · simpa [RS.init] using r1
        · simpa [RS.init] using r2
        · simpa [RS.init] using r3
      have hE : Ext w wr := Keep.new xW hM.kp fun i hi => by omega
      have HR := hid hR
      have HE := hid hE
      clear hR hE hM r1 r2 r3 hlt hk
      go_wp2
      go_ret
      exact ⟨b1, b2, b3, k1, k2, k3, by rw [hp]; rfl, by rw [hp]; exact HR.out, HE.out, by omega, by omega, by omega⟩
end Go.Proofs.YtcfopaopcbjkeaaDoor
