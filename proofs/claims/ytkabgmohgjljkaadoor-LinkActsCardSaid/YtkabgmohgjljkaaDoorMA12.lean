/- Texts of one proof, put together: K7 K8. -/
import Derived.Test.YtkabgmohgjljkaaDoorMA11

/- LinkActs: acts that came in; are they too many, or too long? -/
namespace Go.Proofs.YtkabgmohgjljkaaDoor
set_option linter.unusedSimpArgs false
set_option linter.unusedVariables false
open Go Go.RowKit

theorem add_pos (a : Addr) (j : Nat) (h : j ≠ 0) : a.add j = ⟨a.block, a.off + j, none⟩ := by simp [Addr.add, h]
/-- An act with the slices in which its numbers lie. -/
structure AV where
  what : ByteArray
  kind : UInt8
  nums : List Int
  nv : Value
  n : Int
  f : FV
  own : Bool
def AV.cells (x : AV) : List Value := [.string x.what, .int .u8 (x.kind.toNat : Int), x.nv, .int .i64 x.n, .int .u8 (x.f.f.kind.toNat : Int), .int .i64 x.f.f.fr, .int .i64 x.f.f.to, .int .i64 x.f.f.seq, x.f.v, .bool x.own]
/-- Acts that came in. -/
structure ActsAt (w : World) (n0 : Nat) (a : Option Addr) (l : List AV) : Prop where
  sm : 0 < l.length → ∃ y, a = some y
  cl : ∀ y, a = some y → ∀ (i : Nat) (x : AV), l[i]? = some x → ∀ (j : Nat) (v : Value), x.cells[j]? = some v → w.cell? ((y.add (i * 10)).add j) = some v
  nums : ∀ x ∈ l, NumsAt w n0 none x.nv x.nums
  fr : ∀ x ∈ l, x.f.At w n0 none
theorem ActsAt.ext {w w' : World} {n0 : Nat} {a : Option Addr} {l : List AV} (h : ActsAt w n0 a l) (x : Ext w w') : ActsAt w' n0 a l :=
  ⟨h.sm, fun y hy i z hz j v hv => x.cellx (h.cl y hy i z hz j v hv), fun z hz => NumsAt.ext (h.nums z hz) x, fun z hz => NumsAt.ext (h.fr z hz) x⟩
def AV.long (x : AV) : Bool := (decide (20 < x.nums.length) && decide (x.nums.length ≠ 201)) || decide (20 < x.f.f.nums.length)
def longA (l : List AV) : Bool := decide (80 < l.length) || l.any AV.long

set_option maxRecDepth 100000 in
set_option maxHeartbeats 1600000 in
theorem longacts_any (a : Option Addr) (cap : Nat) (l : List AV) (w : World) (n0 : Nat) (h : ActsAt w n0 a l) (hml : (l.length : Int) ≤ 9223372036854775807) :
    Calls Tryd.prog 6 #[.slice a l.length cap] w fun e w' => e = .returned (.bool (longA l)) ∧ w = w' := by
  have H := hid h
  clear h
  by_cases h80 : 80 < l.length
  · have Hr := hid (show longA l = true by unfold longA; simp [h80])
    go_enter Tryd.func6, Tryd.ntmps6
    go_wp2
    go_ret
    exact ⟨by rw [Hr.out]; rfl, rfl⟩
  go_enter Tryd.func6, Tryd.ntmps6
  go_wp2
  go_loopw [3] (fun t3 wr => ∃ i : Nat, t3 = .int .i64 (i : Int) ∧ i ≤ l.length ∧ (∀ (j : Nat) (x : AV), j < i → l[j]? = some x → x.long = false) ∧ w = wr) (fun t3 _ => l.length - (intOf t3).toNat)
  case atStart => exact ⟨0, rfl, Nat.zero_le _, fun j x h => by omega, rfl⟩
  case round =>
    obtain ⟨i, rfl, hi, hne, rfl⟩ := hrel
    have Hne := hid hne
    clear hne
    by_cases hlt : i < l.length
    · have hxk : l[i]? = some (l[i]'hlt) := List.getElem?_eq_getElem hlt
      obtain ⟨x, hxd⟩ : ∃ x, x = l[i]'hlt := ⟨_, rfl⟩
      rw [← hxd] at hxk
      have hm := List.mem_of_getElem? hxk
      obtain ⟨y, rfl⟩ := H.out.sm (by omega)
      obtain ⟨av, cv, hnv, _⟩ := NumsAt.form (H.out.nums x hm)
      obtain ⟨bv, dv, _, hfv, _⟩ := FV.At.form (H.out.fr x hm)
      have c2 := H.out.cl y rfl i x hxk 2 _ rfl
      have c8 := H.out.cl y rfl i x hxk 8 _ rfl
      rw [add_pos _ _ (by decide)] at c2 c8
      rw [hnv] at c2
      rw [hfv] at c8
      have Hxk := hid hxk
      have HL : Hid (x.long = ((decide (20 < x.nums.length) && decide (x.nums.length ≠ 201)) || decide (20 < x.f.f.nums.length))) := hid rfl
      clear hxd hxk hm hnv hfv
      generalize x.nums.length = n1 at *
      generalize x.f.f.nums.length = n2 at *
      by_cases q1 : 20 < n1
      · by_cases q2 : n1 = 201
        · have q2' : (n1 : Int) = 201 := by omega
          by_cases q3 : 20 < n2
          · have Hl := hid (show x.long = true by rw [HL.out]; simp [q3])
            have Hr := hid (show longA l = true by unfold longA; rw [List.any_eq_true.2 ⟨x, List.mem_of_getElem? Hxk.out, Hl.out⟩]; simp)
            go_wp2
            go_ret
            exact ⟨by rw [Hr.out]; rfl, rfl⟩
          · have Hl := hid (show x.long = false by rw [HL.out]; simp [q2, q3])
            go_wp2
            go_roundw
            case rel => exact ⟨i + 1, by go_num, by omega, fun j z hj hz => by
              by_cases hji : j = i
              · subst hji
                obtain rfl := Option.some.inj (Hxk.out.symm.trans hz)
                exact Hl.out
              · exact Hne.out j z (by omega) hz, trivial⟩
            case measure => simp [intOf]; omega
        · have q2' : ¬ (n1 : Int) = 201 := by omega
          have Hl := hid (show x.long = true by rw [HL.out]; simp [q1, q2])
          have Hr := hid (show longA l = true by unfold longA; rw [List.any_eq_true.2 ⟨x, List.mem_of_getElem? Hxk.out, Hl.out⟩]; simp)
          go_wp2
          go_ret
          exact ⟨by rw [Hr.out]; rfl, rfl⟩
      · by_cases q3 : 20 < n2
        · have Hl := hid (show x.long = true by rw [HL.out]; simp [q3])
          have Hr := hid (show longA l = true by unfold longA; rw [List.any_eq_true.2 ⟨x, List.mem_of_getElem? Hxk.out, Hl.out⟩]; simp)
          go_wp2
          go_ret
          exact ⟨by rw [Hr.out]; rfl, rfl⟩
        · have Hl := hid (show x.long = false by rw [HL.out]; simp [q1, q3])
          go_wp2
          go_roundw
          case rel => exact ⟨i + 1, by go_num, by omega, fun j z hj hz => by
            by_cases hji : j = i
            · subst hji
              obtain rfl := Option.some.inj (Hxk.out.symm.trans hz)
              exact Hl.out
            · exact Hne.out j z (by omega) hz, trivial⟩
          case measure => simp [intOf]; omega
    · obtain rfl : i = l.length := by omega
      have Hr := hid (show longA l = false by
        unfold longA
        simp only [h80, decide_false, Bool.false_or, List.any_eq_false]
        intro x hx
        obtain ⟨j, hj⟩ := List.getElem?_of_mem hx
        have h3 : j < l.length := by
          rcases Nat.lt_or_ge j l.length with h | h
          · exact h
          · rw [List.getElem?_eq_none h] at hj; cases hj
        simp [Hne.out j x h3 hj])
      go_wp2
      go_ret
      exact ⟨by rw [Hr.out]; rfl, rfl⟩
end Go.Proofs.YtkabgmohgjljkaaDoor


/- The reference's links: a frame is taken: refused, or old. -/
namespace Go.Proofs.YtkabgmohgjljkaaDoor
set_option linter.unusedSimpArgs false
set_option linter.unusedVariables false
open Go Go.RowKit

theorem refrfind_ext (r : Rcv) (q : Int) (w : World) (n0 p : Nat) (wv : Value) (fs : List FV) (h : RRcv w n0 p r wv fs) (hb : r.wait.length ≤ 1000) :
    Calls Tryd.prog 43 #[.pointer (some ⟨p, 0, none⟩), .int .i64 q] w fun e w' => e = .returned (.int .i64 (findV r.wait q)) ∧ Ext w w' :=
  (refrfind_any r q w n0 p wv fs h hb).mono fun e w' ⟨h1, h2⟩ => ⟨h1, h2 ▸ Ext.refl w⟩

set_option maxRecDepth 100000 in
set_option maxHeartbeats 3200000 in
theorem reftake_code (r : Rcv) (f : Fr) (a : Option Addr) (cap : Nat) (w : World) (n0 q : Nat) (wv : Value) (fs : List FV) (h : RRcv w n0 q r wv fs) (hr : Ints w a f.nums.length f.nums) (hl : f.nums.length ≤ 1000)
    (c : Nat) (hc : f.code = c) (h0 : c ≠ 0) :
    Calls Tryd.prog 24 #[.pointer (some ⟨q, 0, none⟩), frv f a cap] w fun e w' => e = .returned (.tuple #[.slice none 0 0, .int .i64 (c : Int)]) ∧ Ext w w' := by
  have h0' : (0 : Int) < (c : Int) := by omega
  have HK := hid (referror_any f a cap _ (hr.ext ((Ext.refl w).alloc (.cells #[.int .u8 (f.kind.toNat : Int), .int .i64 f.fr, .int .i64 f.to, .int .i64 f.seq, .slice a f.nums.length cap] 45))) (by omega))
  have hB := Blk.new w #[.int .u8 (f.kind.toNat : Int), .int .i64 f.fr, .int .i64 f.to, .int .i64 f.seq, .slice a f.nums.length cap] 45
  have hx0 := (Ext.refl w).alloc (.cells #[.int .u8 (f.kind.toNat : Int), .int .i64 f.fr, .int .i64 f.to, .int .i64 f.seq, .slice a f.nums.length cap] 45)
  simp only [hc] at HK
  unfold frv at HK ⊢
  have Hr := hid hr
  have H := hid h
  have HB := hid hB
  have Hx0 := hid hx0
  clear hc hr h hB hx0
  go_enter Tryd.func24, Tryd.ntmps24
  go_wp2_with fail
  refine HK.out.mono ?_
  intro e w1 hx
  obtain ⟨rfl, hx1⟩ := hx
  have Hx1 := hid (Hx0.out.trans hx1)
  have HB1 := hid (HB.out.ext hx1)
  clear HK hx1 HB Hx0
  go_wp2
  go_ret2
  exact ⟨rfl, Hx1.out⟩

set_option maxRecDepth 100000 in
set_option maxHeartbeats 3200000 in
theorem reftake_shape (r : Rcv) (f : Fr) (a : Option Addr) (cap : Nat) (w : World) (n0 q : Nat) (wv : Value) (fs : List FV) (h : RRcv w n0 q r wv fs) (hr : Ints w a f.nums.length f.nums) (hl : f.nums.length ≤ 1000)
    (hc : f.code = 0) (hs : f.fr ≠ r.fr ∨ f.to ≠ r.to ∨ f.kind = 97) :
    Calls Tryd.prog 24 #[.pointer (some ⟨q, 0, none⟩), frv f a cap] w fun e w' => e = .returned (.tuple #[.slice none 0 0, .int .i64 3]) ∧ Ext w w' := by
  by_cases s1 : f.fr = r.fr
  · by_cases s2 : f.to = r.to
    · have s3 : (f.kind.toNat : Int) = 97 := by rw [(hs.resolve_left (fun e => e s1)).resolve_left (fun e => e s2)]; rfl
      have S1 := hid s1
      have S2 := hid s2
      have S3 := hid s3
      clear s1 s2 s3 hs
      have HK := hid (referror_any f a cap _ (hr.ext ((Ext.refl w).alloc (.cells #[.int .u8 (f.kind.toNat : Int), .int .i64 f.fr, .int .i64 f.to, .int .i64 f.seq, .slice a f.nums.length cap] 45))) (by omega))
      have hB := Blk.new w #[.int .u8 (f.kind.toNat : Int), .int .i64 f.fr, .int .i64 f.to, .int .i64 f.seq, .slice a f.nums.length cap] 45
      have hx0 := (Ext.refl w).alloc (.cells #[.int .u8 (f.kind.toNat : Int), .int .i64 f.fr, .int .i64 f.to, .int .i64 f.seq, .slice a f.nums.length cap] 45)
      simp only [hc] at HK
      unfold frv at HK ⊢
      have Hr := hid hr
      have H := hid h
      have HB := hid hB
      have Hx0 := hid hx0
      clear hc hr h hB hx0
      go_enter Tryd.func24, Tryd.ntmps24
      go_wp2_with fail
      refine HK.out.mono ?_
      intro e w1 hx
      obtain ⟨rfl, hx1⟩ := hx
      have Hx1 := hid (Hx0.out.trans hx1)
      have HB1 := hid (HB.out.ext hx1)
      clear HK hx1 HB Hx0
      have s1 : (f.fr != r.fr) = false := by simp [S1.out]
      have s2 : (f.to != r.to) = false := by simp [S2.out]
      have s3 : ((f.kind.toNat : Int) == 97) = true := by rw [S3.out]; rfl
      have h1 := H.out.ext Hx1.out
      generalize hN : w.heap.size = N at *
      have HN := hid hN
      clear hN
      go_wp2
      have d0 := HB1.out.kc (X := fun _ => False) (fun e => e) 0 rfl
      have d1 := HB1.out.kc (X := fun _ => False) (fun e => e) 1 rfl
      have d2 := HB1.out.kc (X := fun _ => False) (fun e => e) 2 rfl
      have g0 := h1.hp.kc (X := fun _ => False) (fun e => e) 0 rfl
      have g1 := h1.hp.kc (X := fun _ => False) (fun e => e) 1 rfl
      simp only [List.getElem_toArray, List.getElem_cons_zero, List.getElem_cons_succ] at d0 d1 d2 g0 g1
      refine wp_flowT (fun _ => False) (by kernel_rfl) (by kernel_rfl) ?_
      repeat (apply FlowT.d; (intro w1 hk; unfold does; go_simp; (try go_ints); (first | exact DetR.mk | (simp only [↓IntWalk.iteOmega, Oper.doesUpon_value]; exact DetR.mk) | (simp only [↓IntWalk.iteOmega]; go_simp; (try go_ints); exact DetR.mk))); simp only [Act.put, List.setIfInBounds_toArray, List.set_cons_zero, List.set_cons_succ])
      refine FlowT.fin fun w2 hx2 hk2 => ?_
      have Hx2 := hid (Hx1.out.trans hx2)
      have HB2 := hid (HB1.out.ext hx2)
      clear d0 d1 d2 g0 g1 hx2 hk2 HB1 Hx1 h1
      clear s1 s2 s3
      go_wp2
      go_ret2
      exact ⟨rfl, Hx2.out⟩
    · have S1 := hid s1
      clear s1 hs
      have HK := hid (referror_any f a cap _ (hr.ext ((Ext.refl w).alloc (.cells #[.int .u8 (f.kind.toNat : Int), .int .i64 f.fr, .int .i64 f.to, .int .i64 f.seq, .slice a f.nums.length cap] 45))) (by omega))
      have hB := Blk.new w #[.int .u8 (f.kind.toNat : Int), .int .i64 f.fr, .int .i64 f.to, .int .i64 f.seq, .slice a f.nums.length cap] 45
      have hx0 := (Ext.refl w).alloc (.cells #[.int .u8 (f.kind.toNat : Int), .int .i64 f.fr, .int .i64 f.to, .int .i64 f.seq, .slice a f.nums.length cap] 45)
      simp only [hc] at HK
      unfold frv at HK ⊢
      have Hr := hid hr
      have H := hid h
      have HB := hid hB
      have Hx0 := hid hx0
      clear hc hr h hB hx0
      go_enter Tryd.func24, Tryd.ntmps24
      go_wp2_with fail
      refine HK.out.mono ?_
      intro e w1 hx
      obtain ⟨rfl, hx1⟩ := hx
      have Hx1 := hid (Hx0.out.trans hx1)
      have HB1 := hid (HB.out.ext hx1)
      clear HK hx1 HB Hx0
      have s1' : (f.fr != r.fr) = false := by simp [S1.out]
      have s2' : (f.to != r.to) = true := by simp [s2]
      clear s2
      have h1 := H.out.ext Hx1.out
      generalize hN : w.heap.size = N at *
      have HN := hid hN
      clear hN
      go_wp2
      have d0 := HB1.out.kc (X := fun _ => False) (fun e => e) 0 rfl
      have d1 := HB1.out.kc (X := fun _ => False) (fun e => e) 1 rfl
      have d2 := HB1.out.kc (X := fun _ => False) (fun e => e) 2 rfl
      have g0 := h1.hp.kc (X := fun _ => False) (fun e => e) 0 rfl
      have g1 := h1.hp.kc (X := fun _ => False) (fun e => e) 1 rfl
      simp only [List.getElem_toArray, List.getElem_cons_zero, List.getElem_cons_succ] at d0 d1 d2 g0 g1
      refine wp_flowT (fun _ => False) (by kernel_rfl) (by kernel_rfl) ?_
      repeat (apply FlowT.d; (intro w1 hk; unfold does; go_simp; (try go_ints); (first | exact DetR.mk | (simp only [↓IntWalk.iteOmega, Oper.doesUpon_value]; exact DetR.mk) | (simp only [↓IntWalk.iteOmega]; go_simp; (try go_ints); exact DetR.mk))); simp only [Act.put, List.setIfInBounds_toArray, List.set_cons_zero, List.set_cons_succ])
      refine FlowT.fin fun w2 hx2 hk2 => ?_
      have Hx2 := hid (Hx1.out.trans hx2)
      have HB2 := hid (HB1.out.ext hx2)
      clear d0 d1 d2 g0 g1 hx2 hk2 HB1 Hx1 h1
      clear s1' s2'
      go_wp2
      go_ret2
      exact ⟨rfl, Hx2.out⟩
  · clear hs
    have HK := hid (referror_any f a cap _ (hr.ext ((Ext.refl w).alloc (.cells #[.int .u8 (f.kind.toNat : Int), .int .i64 f.fr, .int .i64 f.to, .int .i64 f.seq, .slice a f.nums.length cap] 45))) (by omega))
    have hB := Blk.new w #[.int .u8 (f.kind.toNat : Int), .int .i64 f.fr, .int .i64 f.to, .int .i64 f.seq, .slice a f.nums.length cap] 45
    have hx0 := (Ext.refl w).alloc (.cells #[.int .u8 (f.kind.toNat : Int), .int .i64 f.fr, .int .i64 f.to, .int .i64 f.seq, .slice a f.nums.length cap] 45)
    simp only [hc] at HK
    unfold frv at HK ⊢
    have Hr := hid hr
    have H := hid h
    have HB := hid hB
    have Hx0 := hid hx0
    clear hc hr h hB hx0
    go_enter Tryd.func24, Tryd.ntmps24
    go_wp2_with fail
    refine HK.out.mono ?_
    intro e w1 hx
    obtain ⟨rfl, hx1⟩ := hx
    have Hx1 := hid (Hx0.out.trans hx1)
    have HB1 := hid (HB.out.ext hx1)
    clear HK hx1 HB Hx0
    have s1' : (f.fr != r.fr) = true := by simp [s1]
    clear s1
    have h1 := H.out.ext Hx1.out
    generalize hN : w.heap.size = N at *
    have HN := hid hN
    clear hN
    go_wp2
    have d0 := HB1.out.kc (X := fun _ => False) (fun e => e) 0 rfl
    have d1 := HB1.out.kc (X := fun _ => False) (fun e => e) 1 rfl
    have d2 := HB1.out.kc (X := fun _ => False) (fun e => e) 2 rfl
    have g0 := h1.hp.kc (X := fun _ => False) (fun e => e) 0 rfl
    have g1 := h1.hp.kc (X := fun _ => False) (fun e => e) 1 rfl
    simp only [List.getElem_toArray, List.getElem_cons_zero, List.getElem_cons_succ] at d0 d1 d2 g0 g1
    refine wp_flowT (fun _ => False) (by kernel_rfl) (by kernel_rfl) ?_
    repeat (apply FlowT.d; (intro w1 hk; unfold does; go_simp; (try go_ints); (first | exact DetR.mk | (simp only [↓IntWalk.iteOmega, Oper.doesUpon_value]; exact DetR.mk) | (simp only [↓IntWalk.iteOmega]; go_simp; (try go_ints); exact DetR.mk))); simp only [Act.put, List.setIfInBounds_toArray, List.set_cons_zero, List.set_cons_succ])
    refine FlowT.fin fun w2 hx2 hk2 => ?_
    have Hx2 := hid (Hx1.out.trans hx2)
    have HB2 := hid (HB1.out.ext hx2)
    clear d0 d1 d2 g0 g1 hx2 hk2 HB1 Hx1 h1
    clear s1'
    go_wp2
    go_ret2
    exact ⟨rfl, Hx2.out⟩

set_option maxRecDepth 100000 in
set_option maxHeartbeats 3200000 in
theorem reftake_old (r : Rcv) (f : Fr) (a : Option Addr) (cap : Nat) (w : World) (n0 q : Nat) (wv : Value) (fs : List FV) (h : RRcv w n0 q r wv fs) (hr : Ints w a f.nums.length f.nums) (hl : f.nums.length ≤ 1000)
    (hc : f.code = 0) (hs1 : f.fr = r.fr) (hs2 : f.to = r.to) (hs3 : f.kind ≠ 97) (hwl : r.wait.length ≤ 8) (ho : f.seq < r.due ∨ (Rcv.find r.wait f.seq).isSome = true) :
    Calls Tryd.prog 24 #[.pointer (some ⟨q, 0, none⟩), frv f a cap] w fun e w' => e = .returned (.tuple #[.slice none 0 0, .int .i64 0]) ∧ Ext w w' := by
  have S1 := hid hs1
  have S2 := hid hs2
  have S3 : Hid (¬ (f.kind.toNat : Int) = 97) := hid fun e => hs3 (UInt8.toNat_inj.1 (by rw [show (97 : UInt8).toNat = 97 from rfl]; omega))
  have Hwl := hid hwl
  clear hs1 hs2 hs3 hwl
  by_cases hlt : f.seq < r.due
  · clear ho
    have HK := hid (referror_any f a cap _ (hr.ext ((Ext.refl w).alloc (.cells #[.int .u8 (f.kind.toNat : Int), .int .i64 f.fr, .int .i64 f.to, .int .i64 f.seq, .slice a f.nums.length cap] 45))) (by omega))
    have hB := Blk.new w #[.int .u8 (f.kind.toNat : Int), .int .i64 f.fr, .int .i64 f.to, .int .i64 f.seq, .slice a f.nums.length cap] 45
    have hx0 := (Ext.refl w).alloc (.cells #[.int .u8 (f.kind.toNat : Int), .int .i64 f.fr, .int .i64 f.to, .int .i64 f.seq, .slice a f.nums.length cap] 45)
    simp only [hc] at HK
    unfold frv at HK ⊢
    have Hr := hid hr
    have H := hid h
    have HB := hid hB
    have Hx0 := hid hx0
    clear hc hr h hB hx0
    go_enter Tryd.func24, Tryd.ntmps24
    go_wp2_with fail
    refine HK.out.mono ?_
    intro e w1 hx
    obtain ⟨rfl, hx1⟩ := hx
    have Hx1 := hid (Hx0.out.trans hx1)
    have HB1 := hid (HB.out.ext hx1)
    clear HK hx1 HB Hx0
    have s1 : (f.fr != r.fr) = false := by simp [S1.out]
    have s2 : (f.to != r.to) = false := by simp [S2.out]
    have s3 : ((f.kind.toNat : Int) == 97) = false := beq_eq_false_iff_ne.2 S3.out
    have h1 := H.out.ext Hx1.out
    generalize hN : w.heap.size = N at *
    have HN := hid hN
    clear hN
    go_wp2
    have d0 := HB1.out.kc (X := fun _ => False) (fun e => e) 0 rfl
    have d1 := HB1.out.kc (X := fun _ => False) (fun e => e) 1 rfl
    have d2 := HB1.out.kc (X := fun _ => False) (fun e => e) 2 rfl
    have g0 := h1.hp.kc (X := fun _ => False) (fun e => e) 0 rfl
    have g1 := h1.hp.kc (X := fun _ => False) (fun e => e) 1 rfl
    simp only [List.getElem_toArray, List.getElem_cons_zero, List.getElem_cons_succ] at d0 d1 d2 g0 g1
    refine wp_flowT (fun _ => False) (by kernel_rfl) (by kernel_rfl) ?_
    repeat (apply FlowT.d; (intro w1 hk; unfold does; go_simp; (try go_ints); (first | exact DetR.mk | (simp only [↓IntWalk.iteOmega, Oper.doesUpon_value]; exact DetR.mk) | (simp only [↓IntWalk.iteOmega]; go_simp; (try go_ints); exact DetR.mk))); simp only [Act.put, List.setIfInBounds_toArray, List.set_cons_zero, List.set_cons_succ])
    refine FlowT.fin fun w2 hx2 hk2 => ?_
    have Hx2 := hid (Hx1.out.trans hx2)
    have HB2 := hid (HB1.out.ext hx2)
    clear d0 d1 d2 g0 g1 hx2 hk2 HB1 Hx1 h1
    clear s1 s2 s3
    have h2 := H.out.ext Hx2.out
    have g2 := h2.hp.kc (X := fun _ => False) (fun e => e) 2 rfl
    have d3 := HB2.out.kc (X := fun _ => False) (fun e => e) 3 rfl
    simp only [List.getElem_toArray, List.getElem_cons_zero, List.getElem_cons_succ] at g2 d3
    have HFd := fun wa (k : Keep (fun _ => False) w2 wa) => hid (refrfind_ext r f.seq wa n0 q _ fs (h2.keep k Wr.none (fun e => e) (fun _ _ e => e)) (by have := Hwl.out; omega))
    clear h2
    go_wp2
    refine wp_flowT (fun _ => False) (by kernel_rfl) (by kernel_rfl) ?_
    repeat (apply FlowT.d; (intro w1 hk; unfold does; go_simp; (try go_ints); (first | exact DetR.mk | (simp only [↓IntWalk.iteOmega, Oper.doesUpon_value]; exact DetR.mk) | (simp only [↓IntWalk.iteOmega]; go_simp; (try go_ints); exact DetR.mk))); simp only [Act.put, List.setIfInBounds_toArray, List.set_cons_zero, List.set_cons_succ])
    refine FlowT.fin fun w3 hx3 hk3 => ?_
    have Hx3 := hid (Hx2.out.trans hx3)
    clear hx3 hk3 g2 d3 HFd
    go_wp2
    go_ret2
    exact ⟨rfl, Hx3.out⟩
  · obtain ⟨j, hj⟩ : ∃ j, Rcv.find r.wait f.seq = some j := Option.isSome_iff_exists.1 (ho.resolve_left hlt)
    have hfv : findV r.wait f.seq = (j : Int) := by unfold findV; rw [hj]
    have Hfv := hid hfv
    clear ho hj hfv
    have HK := hid (referror_any f a cap _ (hr.ext ((Ext.refl w).alloc (.cells #[.int .u8 (f.kind.toNat : Int), .int .i64 f.fr, .int .i64 f.to, .int .i64 f.seq, .slice a f.nums.length cap] 45))) (by omega))
    have hB := Blk.new w #[.int .u8 (f.kind.toNat : Int), .int .i64 f.fr, .int .i64 f.to, .int .i64 f.seq, .slice a f.nums.length cap] 45
    have hx0 := (Ext.refl w).alloc (.cells #[.int .u8 (f.kind.toNat : Int), .int .i64 f.fr, .int .i64 f.to, .int .i64 f.seq, .slice a f.nums.length cap] 45)
    simp only [hc] at HK
    unfold frv at HK ⊢
    have Hr := hid hr
    have H := hid h
    have HB := hid hB
    have Hx0 := hid hx0
    clear hc hr h hB hx0
    go_enter Tryd.func24, Tryd.ntmps24
    go_wp2_with fail
    refine HK.out.mono ?_
    intro e w1 hx
    obtain ⟨rfl, hx1⟩ := hx
    have Hx1 := hid (Hx0.out.trans hx1)
    have HB1 := hid (HB.out.ext hx1)
    clear HK hx1 HB Hx0
    have s1 : (f.fr != r.fr) = false := by simp [S1.out]
    have s2 : (f.to != r.to) = false := by simp [S2.out]
    have s3 : ((f.kind.toNat : Int) == 97) = false := beq_eq_false_iff_ne.2 S3.out
    have h1 := H.out.ext Hx1.out
    generalize hN : w.heap.size = N at *
    have HN := hid hN
    clear hN
    go_wp2
    have d0 := HB1.out.kc (X := fun _ => False) (fun e => e) 0 rfl
    have d1 := HB1.out.kc (X := fun _ => False) (fun e => e) 1 rfl
    have d2 := HB1.out.kc (X := fun _ => False) (fun e => e) 2 rfl
    have g0 := h1.hp.kc (X := fun _ => False) (fun e => e) 0 rfl
    have g1 := h1.hp.kc (X := fun _ => False) (fun e => e) 1 rfl
    simp only [List.getElem_toArray, List.getElem_cons_zero, List.getElem_cons_succ] at d0 d1 d2 g0 g1
    refine wp_flowT (fun _ => False) (by kernel_rfl) (by kernel_rfl) ?_
    repeat (apply FlowT.d; (intro w1 hk; unfold does; go_simp; (try go_ints); (first | exact DetR.mk | (simp only [↓IntWalk.iteOmega, Oper.doesUpon_value]; exact DetR.mk) | (simp only [↓IntWalk.iteOmega]; go_simp; (try go_ints); exact DetR.mk))); simp only [Act.put, List.setIfInBounds_toArray, List.set_cons_zero, List.set_cons_succ])
    refine FlowT.fin fun w2 hx2 hk2 => ?_
    have Hx2 := hid (Hx1.out.trans hx2)
    have HB2 := hid (HB1.out.ext hx2)
    clear d0 d1 d2 g0 g1 hx2 hk2 HB1 Hx1 h1
    clear s1 s2 s3
    have h2 := H.out.ext Hx2.out
    have g2 := h2.hp.kc (X := fun _ => False) (fun e => e) 2 rfl
    have d3 := HB2.out.kc (X := fun _ => False) (fun e => e) 3 rfl
    simp only [List.getElem_toArray, List.getElem_cons_zero, List.getElem_cons_succ] at g2 d3
    have HFd := fun wa (k : Keep (fun _ => False) w2 wa) => hid (refrfind_ext r f.seq wa n0 q _ fs (h2.keep k Wr.none (fun e => e) (fun _ _ e => e)) (by have := Hwl.out; omega))
    clear h2
    go_wp2
    refine wp_flowT (fun _ => False) (by kernel_rfl) (by kernel_rfl) ?_
    repeat (apply FlowT.d; (intro w1 hk; unfold does; go_simp; (try go_ints); (first | exact DetR.mk | (simp only [↓IntWalk.iteOmega, Oper.doesUpon_value]; exact DetR.mk) | (simp only [↓IntWalk.iteOmega]; go_simp; (try go_ints); exact DetR.mk))); simp only [Act.put, List.setIfInBounds_toArray, List.set_cons_zero, List.set_cons_succ])
    rw [Hfv.out] at HFd
    apply FlowT.d
    · intro w1 hk
      unfold does
      go_simp
      exact CallR.det ((HFd w1 hk).out)
    simp only [Act.put, List.setIfInBounds_toArray, List.set_cons_zero, List.set_cons_succ]
    repeat (apply FlowT.d; (intro w1 hk; unfold does; go_simp; (try go_ints); (first | exact DetR.mk | (simp only [↓IntWalk.iteOmega, Oper.doesUpon_value]; exact DetR.mk) | (simp only [↓IntWalk.iteOmega]; go_simp; (try go_ints); exact DetR.mk))); simp only [Act.put, List.setIfInBounds_toArray, List.set_cons_zero, List.set_cons_succ])
    refine FlowT.fin fun w3 hx3 hk3 => ?_
    have Hx3 := hid (Hx2.out.trans hx3)
    clear hx3 hk3 g2 d3 HFd
    go_wp2
    go_ret2
    exact ⟨rfl, Hx3.out⟩
end Go.Proofs.YtkabgmohgjljkaaDoor
