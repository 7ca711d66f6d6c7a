/- Texts of one proof, put together: WM ZZ7 ZZYt ZZYu ZZYv ZZYw ZZYx T8 M2 T9 ZZYy ZZYz ZZZ0. -/
import Derived.Test.YtbagppdibncfdaaGreatDoorHHN07
import Derived.Test.YtbagppdibncfdaaGreatDoorHHN08
import Derived.Test.YtbagppdibncfdaaGreatDoorHHN09
import Derived.Test.YtbagppdibncfdaaGreatDoorHHN11
import Derived.Test.YtbagppdibncfdaaGreatDoorHHN12
import Derived.Test.YtbagppdibncfdaaGreatDoorHHN16
import Derived.Test.YtbagppdibncfdaaGreatDoorHHN21
import Derived.Test.YtbagppdibncfdaaGreatDoorHHN22
import Derived.Test.YtbagppdibncfdaaGreatDoorHHN23
import Derived.Test.YtbagppdibncfdaaGreatDoorHHN26
import Derived.Test.YtbagppdibncfdaaGreatDoorHHN27
import Derived.Test.YtbagppdibncfdaaGreatDoorHHN01
set_option linter.unusedSimpArgs false
set_option linter.unusedVariables false
namespace Go.Proofs.YtbagppdibncfdaaGreatDoor
open Go Go.RowKit
theorem rfprog_all (a1 a2 a3 : Option Addr) (c1 c2 c3 : Nat) (P : PP) (w : World) (h : ProgR w w.heap.size (.slice a1 P.vars.length c1) (.slice a2 P.funs.length c2) (.slice a3 P.stmts.length c3) P)
    (hz1 : ∀ s ∈ P.vars, s.size ≤ 1000000) (hz2 : ∀ s ∈ P.names, s.size ≤ 1000000) :
    Calls Tryz.prog 10 #[pval a1 a2 a3 c1 c2 c3 P] w fun e w' => Ext w w' ∧ ∃ (c : Nat) (p : Int), e = .returned (.agg #[.int .i64 (c : Int), .int .i64 p]) ∧ FaultIs P c p := by
  cases hb : P.big with
  | true => exact rfprog_big a1 a2 a3 c1 c2 c3 P w h hz1 hz2 hb
  | false => exact rfprog_no a1 a2 a3 c1 c2 c3 P w h hz1 hz2 hb
def sumUp (S : List (List Int)) (k : Nat) : Nat := ((List.range k).map fun n : Nat => (S.getD n []).length).sum
theorem FaultIs.well {P : PP} {c : Nat} {p : Int} (h : FaultIs P c p) (hw : P.Well) : c = 0 ∧ p = -1 := h.uniq (.inr (.inl ⟨hw.1, hw.2, rfl, rfl⟩))
theorem FaultIs.no {P : PP} {c : Nat} {p : Int} (h : FaultIs P c p) (hw : ¬ P.Well) : c ≠ 0 := fun e => by
  subst e
  exact hw ⟨h.zero.1, h.zero.2.1⟩
def badN (m : Int) (n : Int) : Bool := decide (n < 0) || decide (m ≤ n)
set_option maxRecDepth 100000 in
set_option maxHeartbeats 800000 in
theorem faulted3_any (w : World) (v : Value) (c p : Int) (h : ∀ w1, Ext w w1 → Calls Tryz.prog 56 #[v] w1 fun e w' => e = .returned (.tuple #[.int .i64 c, .int .i64 p]) ∧ Ext w1 w') :
    Calls Tryz.prog 28 #[v, .agg #[.int .i64 c, .int .i64 p]] w fun e w' => e = .returned (.bool true) ∧ Ext w w' := by
  obtain ⟨W, hW⟩ : ∃ W, W = w.alloc (.cells #[.int .i64 c, .int .i64 p] 31) := ⟨_, rfl⟩
  have HX : Hid (Ext w W) := hid (by rw [hW]; exact (Ext.refl _).alloc _)
  have HB : Hid (Blk W w.heap.size #[.int .i64 c, .int .i64 p] 31) := hid (by rw [hW]; exact Blk.new _ _ _)
  have HWe := hid hW
  have HC := hid (h W HX.out)
  clear hW h
  go_enter Tryz.func28, Tryz.ntmps28
  go_wp2_with fail
  rw [← HWe.out]
  refine HC.out.mono ?_
  intro e w1 hx
  obtain ⟨rfl, hx1⟩ := hx
  have d0 := (HB.out.ext hx1).av 0 rfl
  have d1 := (HB.out.ext hx1).av 1 rfl
  simp only [qA0, qA1, qA2] at d0 d1
  have HX1 := hid (HX.out.trans hx1)
  clear HC HB HWe HX hx1
  by_cases h0 : c = 0
  · subst h0
    go_wp2
    go_ret
    exact ⟨rfl, HX1.out⟩
  · go_wp2
    go_ret
    exact ⟨rfl, HX1.out⟩
theorem NotesR.cell {w : World} {F : Nat → Prop} {l : List NV} {os : List N2} {g off cap n : Nat} (h : NotesR w F (.slice (some ⟨g, off, none⟩) n cap) l os) {i : Nat} {x : N2} (hx : os[i]? = some x) (j : Nat) (u : Value) (hu : x.cells[j]? = some u) (hj : j < 3) : w.cell? ⟨g, off + i * 3 + j, none⟩ = some u := by
  obtain ⟨a', c', e'⟩ := h.row.form
  simp only [Value.slice.injEq] at e'
  obtain ⟨rfl, rfl, rfl⟩ := e'
  rw [show off + i * 3 + j = off + (i * 3 + j) by omega]
  exact h.row.get _ ((fm_get N2.cells 3 N2.cells_len os i j x hx hj).trans hu)
theorem NotesR.ext {w w' : World} {F : Nat → Prop} {v : Value} {l : List NV} {os : List N2} (h : NotesR w F v l os) (x : Ext w w') : NotesR w' F v l os :=
  ⟨h.row.ext x, h.eq, fun y hy => own_ext (h.nums y hy) x, h.fr, h.fn⟩
set_option maxRecDepth 100000 in
set_option maxHeartbeats 1600000 in
theorem lawapart_any (v : Value) (l : List NV) (os : List N2) (fr kk : Int) (w : World) (F : Nat → Prop) (h : NotesR w F v l os) (hb : ∀ x ∈ l, x.to ≠ fr ∧ 0 ≤ x.to ∧ x.to < kk) (hl : l.length ≤ 1000000000) :
    Calls Tryz.prog 30 #[v, .int .i64 fr, .int .i64 kk] w fun e w' => e = .returned (.bool true) ∧ Ext w w' := by
  obtain ⟨au, cu, rfl⟩ := h.row.form
  have H := hid h
  have Hb := hid hb
  have Hlo : Hid (os.length = l.length) := hid (by rw [← h.eq, List.length_map])
  obtain ⟨n, hn⟩ : ∃ n, n = l.length := ⟨_, rfl⟩
  have Hn := hid hn
  rw [← hn] at hl ⊢
  clear h hb hn
  go_enter Tryz.func30, Tryz.ntmps30
  go_wp2
  go_loopw [7] (fun t7 wr => ∃ i : Nat, t7 = .int .i64 (i : Int) ∧ i ≤ n ∧ Ext w wr) (fun t7 _ => n - (intOf t7).toNat)
  case atStart => exact ⟨0, rfl, Nat.zero_le _, Ext.refl _⟩
  case round =>
    obtain ⟨i, rfl, hi, hxr⟩ := hrel
    have Hxr := hid hxr
    by_cases hlt : i < n
    · obtain ⟨g, off, cap, hv, _⟩ := H.out.row.pos (by rw [← Hn.out]; omega)
      simp only [Value.slice.injEq] at hv
      obtain ⟨rfl, -, rfl⟩ := hv
      obtain ⟨x, hx⟩ : ∃ x, os[i]? = some x := ⟨_, List.getElem?_eq_getElem (by rw [Hlo.out, ← Hn.out]; exact hlt)⟩
      obtain ⟨h1, h2, h3⟩ := Hb.out x.n (by rw [← H.out.eq]; exact List.mem_map_of_mem (List.mem_of_getElem? hx))
      have c0 := (H.out.ext hxr).cell hx 0 (.int .i64 x.n.to) rfl (by omega)
      simp only [Nat.add_zero] at c0
      obtain ⟨y, hy⟩ : ∃ y, y = x.n.to := ⟨_, rfl⟩
      rw [← hy] at c0 h1 h2 h3
      have e1 : (y == fr) = false := beq_eq_false_iff_ne.2 h1
      have e2 : decide (y < 0) = false := decide_eq_false (by omega)
      have e3 : decide (kk ≤ y) = false := decide_eq_false (by omega)
      clear hy hx hxr
      go_wp2
      go_roundw
      case rel => exact ⟨i + 1, by go_num, by omega, Hxr.out⟩
      case measure => simp [intOf]; omega
    · obtain rfl : i = n := by omega
      clear hxr
      go_wp2
      go_ret
      exact ⟨rfl, Hxr.out⟩
def NearAt (w : World) (z : Addr) (k i : Nat) (full : Bool) (l : List Int) : Prop :=
  ∃ (G F : Nat → Prop) (g : Nat) (c : SC) (s : SH), w.cell? (z.add (i % k)) = some (.pointer (some ⟨g, 0, none⟩)) ∧ ShAt w G F g c s ∧ s.Ok c.P (c.me : Nat) (c.k : Nat) ∧ chkE (c.hasL s (i : Int)) = 0 ∧ (∀ n ∈ c.hasL s (i : Int), n ∈ l) ∧ (full = true → (c.hasL s (i : Int)).length = l.length)
theorem NearAt.ext {w w' : World} {z : Addr} {k i : Nat} {full : Bool} {l : List Int} (h : NearAt w z k i full l) (x : Ext w w') : NearAt w' z k i full l := by
  obtain ⟨G, F, g, c, s, h1, h2, h3⟩ := h
  exact ⟨G, F, g, c, s, x.cellx h1, h2.ext x, h3⟩
set_option maxRecDepth 100000 in
set_option maxHeartbeats 3200000 in
theorem lawnear_any (z : Addr) (k ck : Nat) (ah : Option Addr) (ch : Nat) (S : List (List Int)) (full : Bool) (w : World) (hk : 1 ≤ k ∧ k ≤ 6) (hS : SetsR w w.heap.size (.slice ah S.length ch) S) (h : ∀ i, i < S.length → NearAt w z k i full (S.getD i [])) :
    Calls Tryz.prog 32 #[.slice (some z) k ck, .slice ah S.length ch, .bool full] w fun e w' => e = .returned (.bool true) ∧ Ext w w' := by
  have HS := hid hS
  have H := hid h
  have Hk := hid hk
  have hhl := hS.len
  clear hS h
  go_enter Tryz.func32, Tryz.ntmps32
  go_wp2
  go_loopw [8] (fun t8 wr => ∃ j : Nat, t8 = .int .i64 (j : Int) ∧ j ≤ S.length ∧ Ext w wr) (fun t8 _ => S.length - (intOf t8).toNat)
  case atStart => exact ⟨0, rfl, Nat.zero_le _, Ext.refl _⟩
  case round =>
    obtain ⟨j, rfl, hj, hxr⟩ := hrel
    have Hxr := hid hxr
    by_cases hlt : j < S.length
    · obtain ⟨y, l, bl, cl, hy, hl, hc, hIl⟩ := (HS.out.ext hxr).at hlt
      subst hy
      have hlg : S.getD j [] = l := by rw [List.getD_eq_getElem?_getD, hl]; rfl
      have hN := (H.out j hlt).ext hxr
      rw [hlg] at hN
      obtain ⟨G, F, g, c, s, n1, n2, n3, n4, n5, n6⟩ := hN
      have htm := tmod_nat j k
      have hrl : j % k < k := Nat.mod_lt _ (by omega)
      have Hc := hid hc
      have HIl := hid hIl
      have HHa := hid (shardhas_any c s (j : Int) wr G F g n2 n3)
      obtain ⟨M, hM⟩ : ∃ M, M = c.hasL s (j : Int) := ⟨_, rfl⟩
      rw [← hM] at HHa n4 n5 n6
      have H4 := hid n4
      have H5 : Hid ((M.all fun n => decide (n ∈ l)) = true) := hid (List.all_eq_true.2 fun n hn => decide_eq_true (n5 n hn))
      have H6 := hid n6
      generalize j % k = r at htm n1 hrl
      have h0 : ((k : Int) == 0) = false := beq_eq_false_iff_ne.2 (by have := Hk.out; omega)
      have h1 : ((k : Int) = 0) = False := by have := Hk.out; simp; omega
      have h2 : (k = 0) = False := by have := Hk.out; simp; omega
      clear hl hc hlg hIl hxr n2 n3 n4 n5 n6 hM
      go_wp2_with fail
      refine HHa.out.mono ?_
      intro e w2 hx
      obtain ⟨v, rfl, hr, hx2⟩ := hx
      obtain ⟨av, cv, rfl⟩ := hr.form
      have HR := hid (IntsR.own (own_low hr (Nat.zero_le _)) (Nat.le_refl _))
      have Hx2 := hid hx2
      have HE := hid (rseterror_any _ M w2 w2.heap.size HR.out)
      rw [H4.out] at HE
      have c1 := hx2.cellx Hc.out
      clear HHa hr hx2 n1
      go_wp2_with fail
      refine HE.out.mono ?_
      intro e w3 hx
      obtain ⟨rfl, hx3⟩ := hx
      have Hx3 := hid (Hx2.out.trans hx3)
      have HW := hid (setwithin_any _ _ M l w3 w3.heap.size ((HR.out.old (hx3.old _)).lift hx3.size) ((HIl.out.old (Hx3.out.old _)).lift (Nat.le_trans Hxr.out.size Hx3.out.size)))
      rw [H5.out] at HW
      have c2 := hx3.cellx c1
      clear HE hx3 c1
      go_wp2_with fail
      refine HW.out.mono ?_
      intro e w4 hx
      obtain ⟨rfl, hx4⟩ := hx
      have Hx4 := hid (Hxr.out.trans (Hx3.out.trans hx4))
      have c3 := hx4.cellx c2
      clear HW hx4 c2
      cases full with
      | false =>
        go_wp2
        go_roundw
        case rel => exact ⟨j + 1, by go_num, by omega, Hx4.out⟩
        case measure => simp [intOf]; omega
      | true =>
        have hml := H6.out rfl
        rw [hml]
        have e1 : ((l.length : Int) == (l.length : Int)) = true := by simp
        clear hml
        go_wp2
        go_roundw
        case rel => exact ⟨j + 1, by go_num, by omega, Hx4.out⟩
        case measure => simp [intOf]; omega
    · obtain rfl : j = S.length := by omega
      clear hxr
      go_wp2
      go_ret
      exact ⟨rfl, Hxr.out⟩
theorem foldl_keeps {α β : Type} (f : β → α → β) (I : β → Prop) (h : ∀ s x, I s → I (f s x)) : ∀ (l : List α) (s : β), I s → I (l.foldl f s)
  | [], _, hs => hs
  | x :: l, s, hs => foldl_keeps f I h l (f s x) (h s x hs)
def SH.Sht (s : SH) : Prop := ∀ x, x ∈ s.todo ∨ x ∈ s.out → x.nums.length ≤ 2
section
variable {P : PP} {me k : Int} {s t : SH} {S : List (List Int)}
theorem tell_sht (h : s.Sht) (n c : Int) {l : List Int} (hl : l.length ≤ 2) : (s.tell me k n c l).Sht := fun x hx => by
  rcases hx with hx | hx
  · rcases tell_todo _ _ _ _ hx with h1 | ⟨rfl, _⟩
    · exact h x (.inl h1)
    · exact hl
  · rcases tell_out _ _ _ _ hx with h1 | ⟨rfl, _⟩
    · exact h x (.inr h1)
    · exact hl
theorem edge_sht (h : s.Sht) (e : Int × Int) : (s.edge me k e).Sht := by
  unfold SH.edge
  split
  · exact h
  · exact tell_sht h _ _ (by simp)
theorem fire_sht (h : s.Sht) (r : RV) (o : Int) : (s.fire P me k r o).Sht := by
  unfold SH.fire
  cases r.fired with
  | true => exact foldl_keeps _ SH.Sht (fun s x hs => edge_sht hs x) _ _ h
  | false => exact h
theorem ask_sht (h : s.Sht) (f : Int × Int) (r : RV) : (SH.ask P me k f s r).Sht := by
  unfold SH.ask
  split
  · exact fire_sht h _ _
  · exact h
theorem came_sht (h : s.Sht) (f : Int × Int) : (s.came P me k f).Sht := by
  unfold SH.came
  split
  · exact h
  · exact foldl_keeps _ SH.Sht (fun s x hs => ask_sht hs _ x) _ _ (foldl_keeps _ SH.Sht (fun s x hs => tell_sht hs _ _ (by simp)) _ _ fun x hx => h x hx)
theorem joined_sht (h : s.Sht) (e : Int × Int) : (s.joined me k e).Sht := by
  unfold SH.joined
  split
  · exact h
  · exact foldl_keeps _ SH.Sht (fun s x hs => tell_sht hs _ _ (by simp)) _ _ fun x hx => h x hx
theorem step_sht (h : s.Sht) : (s.step P me k).Sht := by
  unfold SH.step
  cases ht : s.todo with
  | nil => exact h
  | cons x t =>
    have h1 : SH.Sht { s with todo := t } := fun y hy => h y (hy.imp (fun q => by rw [ht]; exact List.mem_cons_of_mem x q) id)
    show SH.Sht (SH.note P me k { s with todo := t } x)
    unfold SH.note
    split
    · exact joined_sht h1 _
    · exact foldl_keeps _ SH.Sht (fun s o hs => came_sht hs _) _ _ h1
theorem start_sht : (SH.start P me k).Sht := by
  refine foldl_keeps _ SH.Sht (fun s r hs => ?_) _ _ fun x hx => (by rcases hx with hx | hx <;> cases hx)
  unfold SH.begin
  split
  · cases r.kind.toList == bBase.toList with
    | true => exact tell_sht hs _ _ (by simp)
    | false =>
      rw [cond_false]
      cases r.kind.toList == kCopy with
      | true => exact edge_sht hs _
      | false => exact hs
  · exact hs
theorem Runs.sht (h : Runs P me k s t) (hs : s.Sht) : t.Sht := h.keeps SH.Sht (fun _ hu _ => step_sht hu) hs
theorem Runs.less (hw : P.Well) (h : Runs P me k s t) (hs : s.Ok P me k) : t = s ∨ t.phi < s.phi := by
  induction h with
  | refl => exact .inl rfl
  | step hr hne ih =>
    have h2 := (step_less hw (hr.ok hw hs).1 hne).2
    rcases ih with rfl | ih
    · exact .inr h2
    · exact .inr (by omega)
theorem SH.Full.more {T T' : NV → Prop} (h : s.Full P me k T) (hT : ∀ y, T y → T' y) : s.Full P me k T' := ⟨h.ok, h.loc.more hT, h.begun.more hT⟩
theorem Runs.dn (hw : P.Well) (h : Runs P me k s t) (hs : s.Ok P me k) {x : NV} (hx : s.Dn (fun _ => False) x) : t.Dn (fun _ => False) x :=
  (h.keeps (fun u => u.Ok P me k ∧ u.Dn (fun _ => False) x) (fun u hu hne => ⟨(step_less hw hu.1 hne).1, step_dn hw hu.1 hu.2⟩) ⟨hs, hx⟩).2
theorem phi_out (t : SH) : ({ t with out := [] } : SH).phi + t.out.length = t.phi := by
  unfold SH.phi SH.load
  simp only [List.length_nil]
  omega
theorem push_snd (h : SndS P S s) {x : NV} (hx : SndN P S x) : SndS P S (s.push x) :=
  ⟨h.has, h.nxt, fun y hy => (List.mem_append.1 hy).elim (h.todo y) fun q => by rw [List.mem_singleton.1 q]; exact hx, h.out⟩
theorem push_sht (h : s.Sht) {x : NV} (hx : x.nums.length ≤ 2) : (s.push x).Sht := fun y hy => by
  rcases hy with hy | hy
  · rcases List.mem_append.1 hy with hy | hy
    · exact h y (.inl hy)
    · rw [List.mem_singleton.1 hy]; exact hx
  · exact h y (.inr hy)
theorem push_full {T : NV → Prop} (h : s.Full P me k T) {x : NV} (hx : NOk P k x) (hm : x.to = me) : (s.push x).Full P me k T :=
  h.to ⟨fun _ h => h, fun _ h => h, fun _ h => List.mem_append_left _ h, fun _ h => h⟩ rfl rfl (push_ok h.ok hx hm)
end
def SaidN (ss : List SH) (ns : List NV) (x : NV) : Prop := x ∈ ns ∨ ∃ (j : Nat) (s : SH), ss[j]? = some s ∧ s.Taken x
structure Play (P : PP) (k : Nat) (S : List (List Int)) (ss : List SH) (ns : List NV) : Prop where
  full : ∀ (i : Nat) (s : SH), ss[i]? = some s → s.Full P ((i : Nat) : Int) ((k : Nat) : Int) (SaidN ss ns)
  rest : ∀ s ∈ ss, s.todo = [] ∧ s.out = []
  snd : ∀ s ∈ ss, SndS P S s
  nok : ∀ x ∈ ns, NOk P (k : Nat) x ∧ x.nums.length ≤ 2
  nsnd : ∀ x ∈ ns, SndN P S x
def mass (ss : List SH) (ns : List NV) : Nat := (ss.map SH.phi).sum + ns.length
theorem Play.nil (P : PP) (k : Nat) (S : List (List Int)) : Play P k S [] [] := ⟨fun _ _ h => (by cases h), fun _ h => (by cases h), fun _ h => (by cases h), fun _ h => (by cases h), fun _ h => (by cases h)⟩
section
variable {P : PP} {k n : Nat} {S : List (List Int)} {ss : List SH} {ns : List NV} {t : SH}
theorem rest_sht {s : SH} (h : s.todo = [] ∧ s.out = []) : s.Sht := fun x hx => by
  rw [h.1, h.2] at hx
  rcases hx with hx | hx <;> cases hx
theorem Play.add (hL : LeastAt P n S) (hw : P.Well) (h : Play P k S ss ns) {m : Nat} (hm : ss.length = m) (hr : Runs P (m : Nat) (k : Nat) (SH.start P (m : Nat) (k : Nat)) t) (ht : t.todo = []) :
    Play P k S (ss ++ [{ t with out := [] }]) (ns ++ t.out) ∧ mass (ss ++ [{ t with out := [] }]) (ns ++ t.out) ≤ mass ss ns + 20000000 := by
  have hg := hL.good hw
  have hc := hL.closed hw
  obtain ⟨ho1, ho2⟩ := start_okS (me := (m : Nat)) (k := (k : Nat)) hw
  have hf := hr.full hw (start_full hw)
  have hs := hr.snd hg hc (start_snd hg hc)
  have hsh := hr.sht start_sht
  have hmore : ∀ y, SaidN ss ns y → SaidN (ss ++ [{ t with out := [] }]) (ns ++ t.out) y := fun y hy => by
    rcases hy with hy | ⟨j, s, hj, hs⟩
    · exact .inl (List.mem_append_left _ hy)
    · exact .inr ⟨j, s, by rw [List.getElem?_append_left (List.getElem?_eq_some_iff.1 hj).1]; exact hj, hs⟩
  refine ⟨⟨fun i s hi => ?_, fun s hs => ?_, fun s hs' => ?_, fun x hx => ?_, fun x hx => ?_⟩, ?_⟩
  · rcases Nat.lt_or_ge i ss.length with h1 | h1
    · rw [List.getElem?_append_left h1] at hi
      exact (h.full i s hi).more hmore
    · have : i = m := by
        have := (List.getElem?_eq_some_iff.1 hi).1
        rw [List.length_append, List.length_singleton] at this
        omega
      subst this
      rw [List.getElem?_append_right h1, hm, Nat.sub_self] at hi
      obtain rfl := Option.some.inj hi
      exact hf.rest.more fun y hy => hy.elim False.elim fun q => .inl (List.mem_append_right _ q)
  · rcases List.mem_append.1 hs with hs | hs
    · exact h.rest s hs
    · rw [List.mem_singleton.1 hs]; exact ⟨ht, rfl⟩
  · rcases List.mem_append.1 hs' with hs' | hs'
    · exact h.snd s hs'
    · rw [List.mem_singleton.1 hs']; exact ⟨hs.has, hs.nxt, hs.todo, fun _ h => (by cases h)⟩
  · rcases List.mem_append.1 hx with hx | hx
    · exact h.nok x hx
    · exact ⟨(hf.ok.out x hx).1, hsh x (.inr hx)⟩
  · rcases List.mem_append.1 hx with hx | hx
    · exact h.nsnd x hx
    · exact hs.out x hx
  · unfold mass
    have h1 := phi_out t
    have h2 := (hr.ok hw ho1).2
    rw [List.map_append, List.sum_append, List.length_append]
    simp only [List.map_cons, List.map_nil, List.sum_cons, List.sum_nil]
    omega
theorem sum_set (f : SH → Nat) : ∀ (l : List SH) (j : Nat) (s t : SH), l[j]? = some s → ((l.set j t).map f).sum + f s = (l.map f).sum + f t
  | [], _, _, _, h => by cases h
  | x :: l, 0, s, t, h => by
    obtain rfl := Option.some.inj h
    simp only [qS1, List.map_cons, List.sum_cons]
    omega
  | x :: l, j + 1, s, t, h => by
    have := sum_set f l j s t (by simpa using h)
    simp only [qS2, List.map_cons, List.sum_cons]
    omega
theorem Play.take (hL : LeastAt P n S) (hw : P.Well) (h : Play P k S ss ns) {q j : Nat} {x : NV} {s : SH} (hq : ns[q]? = some x) (hj : ss[j]? = some s) (hto : x.to = (j : Nat)) (hr : Runs P (j : Nat) (k : Nat) (s.push x) t) (ht : t.todo = []) :
    Play P k S (ss.set j { t with out := [] }) ((ns.take q ++ ns.drop (q + 1)) ++ t.out) ∧ mass (ss.set j { t with out := [] }) ((ns.take q ++ ns.drop (q + 1)) ++ t.out) < mass ss ns := by
  have hg := hL.good hw
  have hc := hL.closed hw
  have hql := (List.getElem?_eq_some_iff.1 hq).1
  have hjl := (List.getElem?_eq_some_iff.1 hj).1
  have hsm := List.mem_of_getElem? hj
  have hxm := List.mem_of_getElem? hq
  have hns : ns = ns.take q ++ x :: ns.drop (q + 1) := by
    conv => lhs; rw [← List.take_append_drop q ns]
    rw [List.drop_eq_getElem_cons hql, (List.getElem?_eq_some_iff.1 hq).2]
  obtain ⟨hx1, hx2⟩ := h.nok x hxm
  have hpf := push_full (h.full j s hj) hx1 hto
  have hf := hr.full hw hpf
  have hs := hr.snd hg hc (push_snd (h.snd s hsm) (h.nsnd x hxm))
  have hsh := hr.sht (push_sht (rest_sht (h.rest s hsm)) hx2)
  have hset : (ss.set j { t with out := [] })[j]? = some { t with out := [] } := List.getElem?_set_self hjl
  have hdn : ∀ y, (s.push x).Dn (fun _ => False) y → SaidN (ss.set j { t with out := [] }) ((ns.take q ++ ns.drop (q + 1)) ++ t.out) y := fun y hy => by
    rcases hr.dn hw hpf.ok hy with h1 | h1 | h1 | h1
    · exact .inr ⟨j, _, hset, h1⟩
    · rw [ht] at h1; cases h1
    · exact .inl (List.mem_append_right _ h1)
    · exact h1.elim
  have hmore : ∀ y, SaidN ss ns y → SaidN (ss.set j { t with out := [] }) ((ns.take q ++ ns.drop (q + 1)) ++ t.out) y := fun y hy => by
    rcases hy with hy | ⟨i, s', hi, hs'⟩
    · rw [hns] at hy
      rcases List.mem_append.1 hy with hy | hy
      · exact .inl (List.mem_append_left _ (List.mem_append_left _ hy))
      · rcases List.mem_cons.1 hy with rfl | hy
        · exact hdn _ (.inr (.inl (List.mem_append_right _ (List.mem_singleton.2 rfl))))
        · exact .inl (List.mem_append_left _ (List.mem_append_right _ hy))
    · by_cases hij : j = i
      · subst hij
        rw [hj] at hi
        obtain rfl := Option.some.inj hi
        exact hdn y (.inl hs')
      · exact .inr ⟨i, s', by rw [List.getElem?_set_ne hij]; exact hi, hs'⟩
  refine ⟨⟨fun i s' hi => ?_, fun s' hs' => ?_, fun s' hs' => ?_, fun y hy => ?_, fun y hy => ?_⟩, ?_⟩
  · by_cases hij : j = i
    · subst hij
      rw [hset] at hi
      obtain rfl := Option.some.inj hi
      exact hf.rest.more fun y hy => hy.elim (hmore y) fun q => .inl (List.mem_append_right _ q)
    · rw [List.getElem?_set_ne hij] at hi
      exact (h.full i s' hi).more hmore
  · rcases List.mem_or_eq_of_mem_set hs' with hs' | rfl
    · exact h.rest s' hs'
    · exact ⟨ht, rfl⟩
  · rcases List.mem_or_eq_of_mem_set hs' with hs' | rfl
    · exact h.snd s' hs'
    · exact ⟨hs.has, hs.nxt, hs.todo, fun _ h => (by cases h)⟩
  · rcases List.mem_append.1 hy with hy | hy
    · refine h.nok y ?_
      rw [hns]
      exact (List.mem_append.1 hy).elim (List.mem_append_left _) fun q => List.mem_append_right _ (List.mem_cons_of_mem _ q)
    · exact ⟨(hf.ok.out y hy).1, hsh y (.inr hy)⟩
  · rcases List.mem_append.1 hy with hy | hy
    · refine h.nsnd y ?_
      rw [hns]
      exact (List.mem_append.1 hy).elim (List.mem_append_left _) fun q => List.mem_append_right _ (List.mem_cons_of_mem _ q)
    · exact hs.out y hy
  · unfold mass
    have h1 := phi_out t
    have h2 := push_phi s x
    have h3 := sum_set SH.phi ss j s { t with out := [] } hj
    have h4 : t.phi < (s.push x).phi := (hr.less hw hpf.ok).resolve_left fun e => by
      rw [e] at ht
      unfold SH.push at ht
      simp at ht
    have h5 : ns.length = (ns.take q).length + ((ns.drop (q + 1)).length + 1) := by
      conv => lhs; rw [hns]
      rw [List.length_append, List.length_cons]
    rw [List.length_append, List.length_append]
    omega
theorem Play.done (hL : LeastAt P n S) (hw : P.Well) (h : Play P k S ss []) (hk : ss.length = k) (h0 : 0 < k) {i : Nat} (hi : i < P.nodesV) {s : SH} (hs : ss[i % k]? = some s) : keysL s.has (i : Int) = S.getD i [] := by
  have hget : ∀ j, j < k → ∃ s, ss[j]? = some s := fun j hj => ⟨_, List.getElem?_eq_getElem (by omega)⟩
  have hgd : ∀ j, j < k → ss[j]? = some (ss.getD j SH.none) := fun j hj => by
    obtain ⟨s, hs⟩ := hget j hj
    rw [List.getD_eq_getElem?_getD, hs]; rfl
  have h1 := shards_done hL hw k h0 (fun j => ss.getD j SH.none) (fun _ => SaidN ss []) (fun j hj => h.full j _ (hgd j hj)) (fun j hj => h.rest _ (List.mem_of_getElem? (hgd j hj))) (fun j hj => h.snd _ (List.mem_of_getElem? (hgd j hj))) (fun j hj x hx => by
    rcases hx with hx | ⟨i, s, hi, hs⟩
    · cases hx
    · have hik := (List.getElem?_eq_some_iff.1 hi).1
      refine ⟨i, by omega, ?_⟩
      show (ss.getD i SH.none).Taken x
      rw [List.getD_eq_getElem?_getD, hi]
      exact hs) hi
  have e : ss.getD (i % k) SH.none = s := by rw [List.getD_eq_getElem?_getD, hs]; rfl
  simp only [e] at h1
  exact h1
end
structure SR where
  G : Nat → Prop
  F : Nat → Prop
  g : Nat
  c : SC
  s : SH
def SR.grow (a b : Nat) (r : SR) : SR := { r with F := fun q => r.F q ∨ (a ≤ q ∧ q < b) }
theorem SR.grow_s (a b : Nat) (r : SR) : (r.grow a b).s = r.s := rfl
structure Peers (w : World) (L : List SR) : Prop where
  at_ : ∀ r ∈ L, ShAt w r.G r.F r.g r.c r.s
  rest : ∀ r ∈ L, r.s.todo = [] ∧ r.s.out = []
  ap : ∀ (i j : Nat) (r q : SR), L[i]? = some r → L[j]? = some q → i ≠ j → (∀ b, b < w.heap.size → r.F b ∨ q.F b) ∧ ∀ b, r.G b → q.F b
  int : ∀ r ∈ L, ∀ b, IsInt w b → r.F b
theorem ShAt.gf {w : World} {G F : Nat → Prop} {g : Nat} {c : SC} {s : SH} (h : ShAt w G F g c s) : (∀ b, G b → F b) ∧ ∀ b, F b → b < w.heap.size := by
  obtain ⟨_, _, _, _, _, _, _, _, h⟩ := h
  exact ⟨h.gf, h.flt⟩
theorem ShAt.other {w w' : World} {G F X : Nat → Prop} {g : Nat} {c : SC} {s : SH} (h : ShAt w G F g c s) (hr : s.todo = [] ∧ s.out = []) (k : Keep X w w') (hG : ∀ b, G b → ¬ X b) (hF : ∀ b, b < w.heap.size → ¬ F b → ¬ X b) :
    ShAt w' G (fun b => F b ∨ (w.heap.size ≤ b ∧ b < w'.heap.size)) g c s := by
  obtain ⟨m1, m2, f1, f2, vt, vo, ts, os, h⟩ := h
  have e1 : ts = [] := by have := h.tn; rw [hr.1] at this; exact List.map_eq_nil_iff.1 this
  have e2 : os = [] := by have := h.on; rw [hr.2] at this; exact List.map_eq_nil_iff.1 this
  have h1 := h.keep k hG (fun b hb => hF b (h.own_lt hb) (h.own b hb)) (fun x hx => by rw [e1] at hx; cases hx) fun x hx => by rw [e2] at hx; cases hx
  exact ⟨m1, m2, f1, f2, vt, vo, ts, os, h1.turn (fun b hb hx => hx.elim (h.own b hb) fun q => by have := h.own_lt hb; omega) (fun b hb => .inl (h.gf b hb)) fun b hb => hb.elim (fun q => Nat.lt_of_lt_of_le (h.flt b q) k.size) fun q => q.2⟩
theorem IsInt.same {w w' : World} {X : Nat → Prop} {b : Nat} (h : IsInt w' b) (k : Keep X w w') (hb : b < w.heap.size) (hx : ¬ X b) : IsInt w b := by
  obtain ⟨c, z, hz⟩ := h
  rw [k.block b hb hx] at hz
  exact ⟨c, z, hz⟩
section
variable {w w' : World} {L : List SR} {X : Nat → Prop}
theorem Peers.step (h : Peers w L) (k : Keep X w w') (hX : ∀ r ∈ L, ∀ b, X b → ¬ r.G b ∧ (b < w.heap.size → r.F b)) : Peers w' (L.map (SR.grow w.heap.size w'.heap.size)) := by
  refine ⟨fun r hr => ?_, fun r hr => ?_, fun i j r q hi hj hij => ?_, fun r hr b hb => ?_⟩
  · obtain ⟨r, hmhr, rfl⟩ := List.mem_map.1 hr; have hr := hmhr
    exact (h.at_ r hr).other (h.rest r hr) k (fun b hb hx => (hX r hr b hx).1 hb) fun b hb hf hx => hf ((hX r hr b hx).2 hb)
  · obtain ⟨r, hmhr, rfl⟩ := List.mem_map.1 hr; have hr := hmhr
    exact h.rest r hr
  · rw [List.getElem?_map] at hi hj
    obtain ⟨r, hmhi, rfl⟩ := Option.map_eq_some_iff.1 hi; have hi := hmhi
    obtain ⟨q, hmhj, rfl⟩ := Option.map_eq_some_iff.1 hj; have hj := hmhj
    obtain ⟨h1, h2⟩ := h.ap i j r q hi hj hij
    refine ⟨fun b hb => ?_, fun b hb => .inl (h2 b hb)⟩
    rcases Nat.lt_or_ge b w.heap.size with h3 | h3
    · exact (h1 b h3).imp .inl .inl
    · exact .inl (.inr ⟨h3, hb⟩)
  · obtain ⟨r, hmhr, rfl⟩ := List.mem_map.1 hr; have hr := hmhr
    rcases Nat.lt_or_ge b w.heap.size with h3 | h3
    · by_cases hx : X b
      · exact .inl ((hX r hr b hx).2 h3)
      · exact .inl (h.int r hr b (hb.same k h3 hx))
    · exact .inr ⟨h3, hb.lt⟩
theorem get_set {α : Type} (l : List α) (j i : Nat) (x : α) (hj : j < l.length) : (l.set j x)[i]? = if j = i then some x else l[i]? := by
  by_cases h : j = i
  · subst h
    rw [if_pos rfl, List.getElem?_set_self hj]
  · rw [if_neg h, List.getElem?_set_ne h]
theorem Peers.take (h : Peers w L) {j : Nat} {r : SR} (hj : L[j]? = some r) (k : Keep (fun b => ¬ r.F b) w w') {F' : Nat → Prop} {s' : SH} (hS : ShAt w' r.G F' r.g r.c s') (hs : s'.todo = [] ∧ s'.out = []) (hF : ∀ b, r.F b → F' b) (hI : ∀ b, IsInt w' b → F' b) :
    Peers w' ((L.map (SR.grow w.heap.size w'.heap.size)).set j ⟨r.G, F', r.g, r.c, s'⟩) := by
  have hjl := (List.getElem?_eq_some_iff.1 hj).1
  have hget : ∀ i, ((L.map (SR.grow w.heap.size w'.heap.size)).set j ⟨r.G, F', r.g, r.c, s'⟩)[i]? = if j = i then some ⟨r.G, F', r.g, r.c, s'⟩ else (L[i]?).map (SR.grow w.heap.size w'.heap.size) := fun i => by
    rw [get_set _ _ _ _ (by rw [List.length_map]; exact hjl), List.getElem?_map]
  have all : ∀ (p : SR → Prop), p ⟨r.G, F', r.g, r.c, s'⟩ → (∀ i q, L[i]? = some q → j ≠ i → p (q.grow w.heap.size w'.heap.size)) → ∀ q ∈ (L.map (SR.grow w.heap.size w'.heap.size)).set j ⟨r.G, F', r.g, r.c, s'⟩, p q := fun p h1 h2 q hq => by
    obtain ⟨i, hi⟩ := List.mem_iff_getElem?.1 hq
    rw [hget] at hi
    by_cases hij : j = i
    · rw [if_pos hij] at hi
      obtain rfl := Option.some.inj hi
      exact h1
    · rw [if_neg hij] at hi
      obtain ⟨q, hmhi, rfl⟩ := Option.map_eq_some_iff.1 hi; have hi := hmhi
      exact h2 i q hi hij
  refine ⟨all _ hS fun i q hi hij => ?_, all _ hs fun i q hi hij => h.rest q (List.mem_of_getElem? hi), fun i l q p hi hl hil => ?_, all _ hI fun i q hi hij b hb => ?_⟩
  · obtain ⟨h1, h2⟩ := h.ap i j q r hi hj (Ne.symm hij)
    exact (h.at_ q (List.mem_of_getElem? hi)).other (h.rest q (List.mem_of_getElem? hi)) k (fun b hb hx => hx (h2 b hb)) fun b hb hf hx => hx ((h1 b hb).resolve_left hf)
  · rw [hget] at hi hl
    by_cases hij : j = i
    · rw [if_pos hij] at hi
      obtain rfl := Option.some.inj hi
      rw [if_neg (fun e => hil (hij.symm.trans e))] at hl
      obtain ⟨p, hmhl, rfl⟩ := Option.map_eq_some_iff.1 hl; have hl := hmhl
      obtain ⟨h1, h2⟩ := h.ap j l r p hj hl (by omega)
      refine ⟨fun b hb => ?_, fun b hb => .inl (h2 b hb)⟩
      rcases Nat.lt_or_ge b w.heap.size with h3 | h3
      · exact (h1 b h3).imp (hF b) .inl
      · exact .inr (.inr ⟨h3, hb⟩)
    · rw [if_neg hij] at hi
      obtain ⟨q, hmhi, rfl⟩ := Option.map_eq_some_iff.1 hi; have hi := hmhi
      by_cases hjl' : j = l
      · rw [if_pos hjl'] at hl
        obtain rfl := Option.some.inj hl
        obtain ⟨h1, h2⟩ := h.ap i j q r hi hj (Ne.symm hij)
        refine ⟨fun b hb => ?_, fun b hb => hF b (h2 b hb)⟩
        rcases Nat.lt_or_ge b w.heap.size with h3 | h3
        · exact (h1 b h3).imp .inl (hF b)
        · exact .inl (.inr ⟨h3, hb⟩)
      · rw [if_neg hjl'] at hl
        obtain ⟨p, hmhl, rfl⟩ := Option.map_eq_some_iff.1 hl; have hl := hmhl
        obtain ⟨h1, h2⟩ := h.ap i l q p hi hl hil
        refine ⟨fun b hb => ?_, fun b hb => .inl (h2 b hb)⟩
        rcases Nat.lt_or_ge b w.heap.size with h3 | h3
        · exact (h1 b h3).imp .inl .inl
        · exact .inl (.inr ⟨h3, hb⟩)
  · rcases Nat.lt_or_ge b w.heap.size with h3 | h3
    · rcases (h.ap i j q r hi hj (Ne.symm hij)).1 b h3 with h4 | h4
      · exact .inl h4
      · exact .inl (h.int q (List.mem_of_getElem? hi) b (hb.same k h3 fun hx => hx h4))
    · exact .inr ⟨h3, hb.lt⟩
theorem Peers.add (h : Peers w L) (x : Ext w w') {r : SR} (hS : ShAt w' r.G r.F r.g r.c r.s) (hs : r.s.todo = [] ∧ r.s.out = []) (hF : ∀ b, b < w.heap.size → r.F b) (hI : ∀ b, IsInt w' b → r.F b) (hG : ∀ b, r.G b → IsInt w b ∨ w.heap.size ≤ b) :
    Peers w' (L.map (SR.grow w.heap.size w'.heap.size) ++ [r]) := by
  have h0 := h.step (x.keep fun _ => False) fun _ _ _ hx => hx.elim
  have hl : (L.map (SR.grow w.heap.size w'.heap.size)).length = L.length := List.length_map _
  have one : ∀ (i : Nat) (q : SR), (L.map (SR.grow w.heap.size w'.heap.size) ++ [r])[i]? = some q → (∃ p, L[i]? = some p ∧ q = p.grow w.heap.size w'.heap.size ∧ i < L.length) ∨ (i = L.length ∧ q = r) := fun i q hq => by
    rcases Nat.lt_or_ge i L.length with h1 | h1
    · rw [List.getElem?_append_left (by omega), List.getElem?_map] at hq
      obtain ⟨p, hmhp, rfl⟩ := Option.map_eq_some_iff.1 hq; have hp := hmhp
      exact .inl ⟨p, hp, rfl, h1⟩
    · have := (List.getElem?_eq_some_iff.1 hq).1
      rw [List.length_append, List.length_singleton] at this
      obtain rfl : i = L.length := by omega
      rw [List.getElem?_append_right (by omega), hl, Nat.sub_self] at hq
      exact .inr ⟨rfl, (Option.some.inj hq).symm⟩
  have gf := hS.gf
  have cr : ∀ (i : Nat) (p : SR), L[i]? = some p → (∀ b, b < w'.heap.size → (p.grow w.heap.size w'.heap.size).F b ∨ r.F b) ∧ (∀ b, p.G b → r.F b) ∧ ∀ b, r.G b → (p.grow w.heap.size w'.heap.size).F b := fun i p hp => by
    have hp' := List.mem_of_getElem? hp
    refine ⟨fun b hb => ?_, fun b hb => hF b ((h.at_ p hp').gf.2 b ((h.at_ p hp').gf.1 b hb)), fun b hb => ?_⟩
    · rcases Nat.lt_or_ge b w.heap.size with h3 | h3
      · exact .inr (hF b h3)
      · exact .inl (.inr ⟨h3, hb⟩)
    · rcases hG b hb with h3 | h3
      · exact .inl (h.int p hp' b h3)
      · exact .inr ⟨h3, gf.2 b (gf.1 b hb)⟩
  refine ⟨fun q hq => ?_, fun q hq => ?_, fun i j q p hi hj hij => ?_, fun q hq => ?_⟩
  · rcases List.mem_append.1 hq with hq | hq
    · exact h0.at_ q hq
    · rw [List.mem_singleton.1 hq]; exact hS
  · rcases List.mem_append.1 hq with hq | hq
    · exact h0.rest q hq
    · rw [List.mem_singleton.1 hq]; exact hs
  · rcases one i q hi with ⟨q, hmi, rfl, h1⟩ | ⟨rfl, rfl⟩
    · rcases one j p hj with ⟨p, hmj, rfl, h2⟩ | ⟨rfl, rfl⟩
      · obtain ⟨k1, k2⟩ := h.ap i j q p hmi hmj hij
        refine ⟨fun b hb => ?_, fun b hb => .inl (k2 b hb)⟩
        rcases Nat.lt_or_ge b w.heap.size with h3 | h3
        · exact (k1 b h3).imp .inl .inl
        · exact .inl (.inr ⟨h3, hb⟩)
      · exact ⟨(cr i q hmi).1, (cr i q hmi).2.1⟩
    · rcases one j p hj with ⟨p, hmj, rfl, h2⟩ | ⟨rfl, rfl⟩
      · exact ⟨fun b hb => ((cr j p hmj).1 b hb).symm, (cr j p hmj).2.2⟩
      · exact absurd rfl hij
  · rcases List.mem_append.1 hq with hq | hq
    · exact h0.int q hq
    · rw [List.mem_singleton.1 hq]; exact hI
end
structure Game (n1 : Nat) (B : Nat → Prop) (w : World) (L : List SR) : Prop where
  peers : Peers w L
  n1s : n1 ≤ w.heap.size
  low : ∀ r ∈ L, ∀ b, b < n1 → r.F b
  nb : ∀ r ∈ L, ∀ b, B b → r.F b ∧ ¬ r.G b
  bl : ∀ b, B b → n1 ≤ b ∧ b < w.heap.size ∧ ¬ IsInt w b
section
variable {w w' : World} {L : List SR} {X B B' : Nat → Prop} {n1 : Nat}
theorem Game.start (w : World) : Game w.heap.size (fun _ => False) w [] :=
  ⟨⟨fun _ h => (by cases h), fun _ h => (by cases h), fun _ _ _ _ h => (by cases h), fun _ h => (by cases h)⟩, Nat.le_refl _, fun _ h => (by cases h), fun _ h => (by cases h), fun _ h => h.elim⟩
theorem Game.step (h : Game n1 B w L) (k : Keep X w w') (hX : ∀ b, X b → b < w.heap.size → B b) (hG : ∀ r ∈ L, ∀ b, X b → ¬ r.G b) (hB : ∀ b, B' b → (B b ∨ w.heap.size ≤ b) ∧ b < w'.heap.size ∧ ¬ IsInt w' b) : Game n1 B' w' (L.map (SR.grow w.heap.size w'.heap.size)) := by
  refine ⟨h.peers.step k fun r hr b hx => ⟨hG r hr b hx, fun hb => (h.nb r hr b (hX b hx hb)).1⟩, Nat.le_trans h.n1s k.size, fun r hr b hb => ?_, fun r hr b hb => ?_, fun b hb => ?_⟩
  · obtain ⟨r, hmhr, rfl⟩ := List.mem_map.1 hr; have hr := hmhr
    exact .inl (h.low r hr b hb)
  · obtain ⟨r, hmhr, rfl⟩ := List.mem_map.1 hr; have hr := hmhr
    obtain ⟨h1, h2, h3⟩ := hB b hb
    rcases h1 with h1 | h1
    · exact ⟨.inl (h.nb r hr b h1).1, (h.nb r hr b h1).2⟩
    · exact ⟨.inr ⟨h1, h2⟩, fun hg => by
        have g := (h.peers.at_ r hr).gf
        have := g.2 b (g.1 b hg)
        omega⟩
  · obtain ⟨h1, h2, h3⟩ := hB b hb
    exact ⟨h1.elim (fun q => (h.bl b q).1) fun q => Nat.le_trans h.n1s q, h2, h3⟩
theorem Game.ext (h : Game n1 B w L) (x : Ext w w') : Game n1 B w' (L.map (SR.grow w.heap.size w'.heap.size)) :=
  h.step (x.keep fun _ => False) (fun _ h _ => h.elim) (fun _ _ _ h => h.elim) fun b hb => by
    obtain ⟨h1, h2, h3⟩ := h.bl b hb
    exact ⟨.inl hb, Nat.lt_of_lt_of_le h2 x.size, fun hi => h3 (hi.back x h2)⟩
theorem Game.take (h : Game n1 B w L) {j : Nat} {r : SR} (hj : L[j]? = some r) (k : Keep (fun b => ¬ r.F b) w w') {F' : Nat → Prop} {s' : SH} (hS : ShAt w' r.G F' r.g r.c s') (hs : s'.todo = [] ∧ s'.out = []) (hF : ∀ b, r.F b → F' b) (hI : ∀ b, IsInt w' b → F' b) :
    Game n1 B w' ((L.map (SR.grow w.heap.size w'.heap.size)).set j ⟨r.G, F', r.g, r.c, s'⟩) := by
  have hr := List.mem_of_getElem? hj
  have all : ∀ (p : SR → Prop), p ⟨r.G, F', r.g, r.c, s'⟩ → (∀ q ∈ L, p (q.grow w.heap.size w'.heap.size)) → ∀ q ∈ (L.map (SR.grow w.heap.size w'.heap.size)).set j ⟨r.G, F', r.g, r.c, s'⟩, p q := fun p h1 h2 q hq => by
    rcases List.mem_or_eq_of_mem_set hq with hq | rfl
    · obtain ⟨q, hmhq, rfl⟩ := List.mem_map.1 hq; have hq := hmhq
      exact h2 q hq
    · exact h1
  refine ⟨h.peers.take hj k hS hs hF hI, Nat.le_trans h.n1s k.size, all _ (fun b hb => hF b (h.low r hr b hb)) fun q hq b hb => .inl (h.low q hq b hb), all _ (fun b hb => ⟨hF b (h.nb r hr b hb).1, (h.nb r hr b hb).2⟩) fun q hq b hb => ⟨.inl (h.nb q hq b hb).1, (h.nb q hq b hb).2⟩, fun b hb => ?_⟩
  obtain ⟨h1, h2, h3⟩ := h.bl b hb
  exact ⟨h1, Nat.lt_of_lt_of_le h2 k.size, fun hi => h3 (hi.same k h2 fun hx => hx (h.nb r hr b hb).1)⟩
theorem Game.add (h : Game n1 B w L) (x : Ext w w') {r : SR} (hS : ShAt w' r.G r.F r.g r.c r.s) (hs : r.s.todo = [] ∧ r.s.out = []) (hF : ∀ b, b < w.heap.size → r.F b) (hI : ∀ b, IsInt w' b → r.F b) (hG : ∀ b, r.G b → IsInt w b ∨ w.heap.size ≤ b) :
    Game n1 B w' (L.map (SR.grow w.heap.size w'.heap.size) ++ [r]) := by
  have h0 := h.ext x
  refine ⟨h.peers.add x hS hs hF hI hG, h0.n1s, fun q hq => ?_, fun q hq => ?_, h0.bl⟩
  · rcases List.mem_append.1 hq with hq | hq
    · exact h0.low q hq
    · rw [List.mem_singleton.1 hq]; exact fun b hb => hF b (Nat.lt_of_lt_of_le hb h.n1s)
  · rcases List.mem_append.1 hq with hq | hq
    · exact h0.nb q hq
    · rw [List.mem_singleton.1 hq]
      refine fun b hb => ?_
      obtain ⟨h1, h2, h3⟩ := h.bl b hb
      exact ⟨hF b h2, fun hg => (hG b hg).elim h3 fun q => by omega⟩
theorem Game.old (h : Game n1 B w L) {r : SR} (hr : r ∈ L) (k : Keep (fun b => ¬ r.F b) w w') : Old n1 w w' := k.mono fun b _ hx => Nat.le_of_not_lt fun hl => hx (h.low r hr b hl)
end
theorem own_stay {w w' : World} {base : Nat} {e : TypeId} {size : Nat} {v : Value} {n : Nat} {xs : List Value} {X : Nat → Prop} (h : w.ownsRow base e size v n xs) (k : Keep X w w') (hx : ∀ i, v.ownBlock = some i → ¬ X i) : w'.ownsRow base e size v n xs := by
  refine ⟨h.1, h.2.imp id ?_⟩
  rintro ⟨g, cap, cur, rfl, h2, h3, h4⟩
  exact ⟨g, cap, cur, rfl, h2, Blk.keep (show Blk w g cur e from h3) k (hx g rfl), h4⟩
structure NotesO (n1 : Nat) (w : World) (v : Value) (l : List NV) (os : List N2) : Prop where
  row : w.ownsRow n1 57 3 v l.length (os.flatMap N2.cells)
  eq : os.map N2.n = l
  nums : ∀ x ∈ os, IRow 0 w x.v x.n.nums
section
variable {w w' : World} {X : Nat → Prop} {n1 : Nat} {v : Value} {l : List NV} {os : List N2}
theorem NotesO.keep (h : NotesO n1 w v l os) (k : Keep X w w') (h1 : ∀ b, v.ownBlock = some b → ¬ X b) (h2 : ∀ b, IsInt w b → ¬ X b) : NotesO n1 w' v l os :=
  ⟨own_stay h.row k h1, h.eq, fun x hx => own_stay (h.nums x hx) k fun b hb => h2 b (by
    obtain ⟨c, hc⟩ := own_ty (h.nums x hx) hb
    exact ⟨_, _, hc⟩)⟩
theorem NotesO.ext (h : NotesO n1 w v l os) (x : Ext w w') : NotesO n1 w' v l os := h.keep (x.keep fun _ => False) (fun _ _ h => h) fun _ _ h => h
theorem NotesO.len (h : NotesO n1 w v l os) : os.length = l.length := by rw [← h.eq, List.length_map]
theorem NotesO.one (h : ∀ x ∈ os, IRow 0 w x.v x.n.nums) : ∀ u ∈ os.flatMap N2.cells, u.oneCell' = true := by
  intro u hu
  obtain ⟨x, hx, hu⟩ := List.mem_flatMap.1 hu
  obtain ⟨a, c, hv⟩ := row_form (h x hx)
  simp only [N2.cells, hv, List.mem_cons, List.not_mem_nil, or_false] at hu
  rcases hu with rfl | rfl | rfl <;> rfl
theorem NotesO.cell {g n cap : Nat} (h : NotesO n1 w (.slice (some ⟨g, 0, none⟩) n cap) l os) {i : Nat} {x : N2} (hx : os[i]? = some x) (j : Nat) (u : Value) (hu : x.cells[j]? = some u) (hj : j < 3) : w.cell? ⟨g, i * 3 + j, none⟩ = some u := by
  obtain ⟨a', c', e'⟩ := (OwnsQ.ofRow h.row).form
  simp only [Value.slice.injEq] at e'
  obtain ⟨rfl, rfl, rfl⟩ := e'
  exact own_get h.row _ ((fm_get N2.cells 3 N2.cells_len os i j x hx hj).trans hu)
theorem NotesO.src {g n cap : Nat} (h : NotesO n1 w (.slice (some ⟨g, 0, none⟩) n cap) l os) (i m : Nat) (him : i + m ≤ l.length) : Src w (some ⟨g, i * 3, none⟩) m 3 (((os.drop i).take m).flatMap N2.cells) := by
  have hl := h.len
  refine ⟨?_, fun _ => ⟨_, rfl⟩, fun y hy j u hu => ?_, NotesO.one (w := w) fun x hx => h.nums x (List.mem_of_mem_drop (List.mem_of_mem_take hx))⟩
  · rw [fm_len N2.cells 3 N2.cells_len]
    rw [List.length_take, List.length_drop]
    rw [Nat.min_eq_left (by omega)]
  · obtain rfl := Option.some.inj hy
    obtain ⟨a', c', e'⟩ := (OwnsQ.ofRow h.row).form
    simp only [Value.slice.injEq] at e'
    obtain ⟨rfl, rfl, rfl⟩ := e'
    rw [Addr.add_lit]
    refine own_get h.row _ ?_
    rw [← fm_take N2.cells 3 N2.cells_len, ← fm_drop N2.cells 3 N2.cells_len, List.getElem?_take, List.getElem?_drop] at hu
    split at hu
    · exact hu
    · cases hu
theorem NotesR.src {F : Nat → Prop} {a : Option Addr} {n cap : Nat} (h : NotesR w F (.slice a n cap) l os) : Src w a n 3 (os.flatMap N2.cells) := by
  have hl : os.length = l.length := by rw [← h.eq, List.length_map]
  obtain ⟨a', c', e'⟩ := h.row.form
  simp only [Value.slice.injEq] at e'
  obtain ⟨-, rfl, -⟩ := e'
  refine ⟨h.row.1, fun h0 => ?_, fun y hy j u hu => ?_, NotesO.one (w := w) h.nums⟩
  · obtain ⟨g, off, cap', hv, _⟩ := h.row.pos h0
    simp only [Value.slice.injEq] at hv
    exact ⟨_, hv.1⟩
  · subst hy
    rcases Nat.eq_zero_or_pos l.length with h0 | h0
    · have := h.row.1
      rw [h0, Nat.zero_mul] at this
      rw [List.eq_nil_of_length_eq_zero this] at hu
      cases hu
    · obtain ⟨g, off, cap', hv, _⟩ := h.row.pos h0
      simp only [Value.slice.injEq, Option.some.injEq] at hv
      obtain ⟨rfl, -, -⟩ := hv
      rw [Addr.add_lit]
      exact h.row.get _ hu
end
def SFaultIs (P : PP) (has : List (List Int)) (c : Nat) (p : Int) : Prop :=
  (has.length ≠ P.nodesV ∧ c = 3 ∧ p = -1) ∨ (has.length = P.nodesV ∧ (∀ l ∈ has, P.setE l = 0) ∧ c = 0 ∧ p = -1) ∨
  (has.length = P.nodesV ∧ ∃ (i : Nat) (l : List Int), has[i]? = some l ∧ P.setE l ≠ 0 ∧ (∀ j m, j < i → has[j]? = some m → P.setE m = 0) ∧ c = P.setE l ∧ p = (i : Int))
theorem setE_two {P : PP} {l : List Int} (h : chkE l = 0) {x : Int} (hx : x ∈ l) (hm : (P.objectsV : Int) ≤ x) : P.setE l = 2 := by
  have h0 : P.setE l ≠ 0 := fun e => by have := (setE_zero e).2 x hx; omega
  unfold PP.setE at h0 ⊢
  rw [if_pos h] at h0 ⊢
  by_cases hb : 0 < l.length ∧ (P.objectsV : Int) ≤ l.getD (l.length - 1) 0
  · rw [if_pos hb]
  · rw [if_neg hb] at h0; exact absurd rfl h0
theorem setE_chk {P : PP} {l : List Int} (h : chkE l ≠ 0) : P.setE l = chkE l := by unfold PP.setE; rw [if_neg h]
def SStep (P : PP) (l : List Int) (k e : Nat) : Prop := (e = chkE l ∧ chkE l ≠ 0 ∧ k = 0) ∨ (chkE l = 0 ∧ ((e = 0 ∧ ∀ x ∈ l.take k, x < (P.objectsV : Int)) ∨ (e = 2 ∧ ∃ x ∈ l, (P.objectsV : Int) ≤ x)))
theorem SStep.end {P : PP} {l : List Int} {k e : Nat} (h : SStep P l k e) (hk : e ≠ 0 ∨ k = l.length) : P.setE l = e := by
  rcases h with ⟨rfl, h2, _⟩ | ⟨h1, ⟨rfl, h3⟩ | ⟨rfl, x, hx, hm⟩⟩
  · exact setE_chk h2
  · rcases hk with hk | hk
    · exact absurd rfl hk
    · refine setE_of h1 fun x hx => h3 x ?_
      rw [hk, List.take_length]; exact hx
  · exact setE_two h1 hx hm
theorem code_chk {ad : Nat → Addr} {P : PP} {w : World} {v : Value} (h : ErrIs ad P w v) (hw : ¬ P.Well) :
    ∃ c p, FaultIs P c p ∧ c ≠ 0 ∧ ∀ w1, Ext w w1 → AllErrs w1 ad → Calls Tryz.prog 56 #[v] w1 fun e w' => e = .returned (.tuple #[.int .i64 (c : Int), .int .i64 p]) ∧ Ext w1 w' := by
  rcases h with ⟨h3, rfl⟩ | ⟨h3, h4, rfl⟩ | ⟨h3, i, s, b, h4, rfl, hb⟩
  · have := P.err1_le
    exact ⟨P.err1, -1, .inl ⟨h3, rfl, rfl⟩, h3, fun w1 x hA => code_of w1 ad hA _ h3 (by omega)⟩
  · exact absurd ⟨h3, h4⟩ hw
  · have := P.stmtErr_le s
    exact ⟨P.stmtErr s, i, .inr (.inr ⟨h3, i, s, h4, rfl, rfl⟩), h4.2.1, fun w1 x hA => code_at w1 ad hA _ h4.2.1 (by omega) b _ (hb.ext x)⟩
theorem SFaultIs.uniq {P : PP} {has : List (List Int)} {c d : Nat} {p q : Int} (h : SFaultIs P has c p) (g : SFaultIs P has d q) : c = d ∧ p = q := by
  rcases h with ⟨h1, h2, h3⟩ | ⟨h1, h2, h3, h4⟩ | ⟨h1, i, l, h2, h3, h4, h5, h6⟩ <;> rcases g with ⟨g1, g2, g3⟩ | ⟨g1, g2, g3, g4⟩ | ⟨g1, j, m, g2, g3, g4, g5, g6⟩
  · exact ⟨h2.trans g2.symm, h3.trans g3.symm⟩
  · exact absurd g1 h1
  · exact absurd g1 h1
  · exact absurd h1 g1
  · exact ⟨h3.trans g3.symm, h4.trans g4.symm⟩
  · exact absurd (h2 m (List.mem_of_getElem? g2)) g3
  · exact absurd h1 g1
  · exact absurd (g2 l (List.mem_of_getElem? h2)) h3
  · have hij : i = j := by
      rcases Nat.lt_trichotomy i j with k | k | k
      · exact absurd (g4 i l k h2) h3
      · exact k
      · exact absurd (h4 j m k g2) g3
    subst hij
    obtain rfl := Option.some.inj (h2.symm.trans g2)
    exact ⟨h5.trans g5.symm, h6.trans g6.symm⟩
set_option maxRecDepth 100000 in
set_option maxHeartbeats 6400000 in
theorem shardany_no (a1 a2 a3 : Option Addr) (c1 c2 c3 : Nat) (P : PP) (kk : Int) (sa : Option Addr) (sc : Nat) (nums : List Int) (w : World) (ad : Nat → Addr) (hE : ErrsP w ad) (hA : AllErrs w ad) (hP : ProgR w w.heap.size (.slice a1 P.vars.length c1) (.slice a2 P.funs.length c2) (.slice a3 P.stmts.length c3) P) (hI : IntsR w w.heap.size (.slice sa nums.length sc) nums) (hw : ¬ P.Well) :
    Calls Tryz.prog 4 #[pval a1 a2 a3 c1 c2 c3 P, .int .i64 kk, .slice sa nums.length sc] w fun e w' => e = .returned (.bool true) ∧ Ext w w' := by
  have Hw := hid hw
  clear hw
  have HAA := hid hA
  have HIs := hid hI
  have hnl := hI.len
  clear hA hI
  have HE := hid hE
  have HP := hid hP
  obtain ⟨W1, hW1⟩ : ∃ W1, W1 = w.alloc (.cells (pcells a1 a2 a3 c1 c2 c3 P) 26) := ⟨_, rfl⟩
  have HX1 : Hid (Ext w W1) := hid (by rw [hW1]; exact (Ext.refl _).alloc _)
  have HB1 : Hid (Blk W1 w.heap.size (pcells a1 a2 a3 c1 c2 c3 P) 26) := hid (by rw [hW1]; exact Blk.new _ _ _)
  have HR := hid (shardedfact_any W1 ad (hE.ext HX1.out))
  have HW1 : Hid (W1 = w.alloc (.cells #[.slice a1 P.vars.length c1, .slice a2 P.funs.length c2, .slice a3 P.stmts.length c3] 26)) := hid (by rw [hW1]; rfl)
  unfold pval
  clear hE hP hW1
  go_enter Tryz.func4, Tryz.ntmps4
  go_wp2_with fail
  rw [← HW1.out]
  refine HR.out.mono ?_
  intro e w1 hx
  obtain ⟨rfl, hx1⟩ := hx
  have HL := hid (large_q a1 a2 a3 c1 c2 c3 16 (by omega) P w1 w.heap.size (HP.out.ext (HX1.out.trans hx1)))
  rw [show ((16 : Nat) : Int) = (16 : Int) from rfl] at HL
  unfold pval at HL
  have HX1' := hid (HX1.out.trans hx1)
  have HBp1 := hid (HB1.out.ext hx1)
  have p0 := HBp1.out.av 0 rfl
  have p1 := HBp1.out.av 1 rfl
  have p2 := HBp1.out.av 2 rfl
  simp only [pcells, qA0, qA1, qA2] at p0 p1 p2
  clear HR hx1
  go_wp2_with fail
  refine HL.out.mono ?_
  intro e w2 hx
  obtain ⟨r, rfl, hr, hsm, hx2⟩ := hx
  have HX2 := hid (HX1'.out.trans hx2)
  have HBp := hid (HBp1.out.ext hx2)
  clear HL hx2 p0 p1 p2
  rcases (by omega : r = 1 ∨ r = 0) with rfl | rfl
  · clear hsm hr
    go_wp2
    go_ret
    exact ⟨rfl, HX2.out⟩
  have HSm := hid (hsm rfl).1
  have HQl := hid (hsm rfl).2.1
  have HVl := hid (hsm rfl).2.2
  clear hsm hr
  by_cases hlen : nums.length ≤ 100
  case neg =>
    go_wp2
    go_ret
    exact ⟨rfl, HX2.out⟩
  have Hlen := hid hlen
  clear hnl
  have hz1 : ∀ s ∈ P.vars, s.size ≤ 1000000 := fun s hs => by have := HSm.out.vs s hs; omega
  have hz2 : ∀ s ∈ P.names, s.size ≤ 1000000 := fun s hs => by
    obtain ⟨f, hf, rfl⟩ := List.mem_map.1 hs
    have := (HSm.out.fs f hf).1
    omega
  have Hz1 := hid hz1
  have Hz2 := hid hz2
  have HPS := hid (show PS0 w2 w2.heap.size ad a1 a2 a3 c1 c2 c3 P from ⟨HE.out.ext HX2.out, (HP.out.ext HX2.out).lift HX2.out.size, Hz1.out, Hz2.out⟩)
  clear hz1 hz2
  have HQ := hid (ownprogram_any a1 a2 a3 c1 c2 c3 P w2 HPS.out.prog HSm.out)
  unfold pval at HQ
  have p0 := HBp.out.av 0 rfl
  have p1 := HBp.out.av 1 rfl
  have p2 := HBp.out.av 2 rfl
  simp only [pcells, qA0, qA1, qA2] at p0 p1 p2
  go_wp2_with fail
  refine HQ.out.mono ?_
  intro e w3 hx
  obtain ⟨hx3, b1, b2, b3, d1, d2, d3, rfl, hq⟩ := hx
  obtain ⟨W3, hW3⟩ : ∃ W3, W3 = w3.alloc (.cells (pcells b1 b2 b3 d1 d2 d3 P) 26) := ⟨_, rfl⟩
  have hx3' : Ext w3 W3 := by rw [hW3]; exact (Ext.refl _).alloc _
  have HBo : Hid (Blk W3 w3.heap.size (pcells b1 b2 b3 d1 d2 d3 P) 26) := hid (by rw [hW3]; exact Blk.new _ _ _)
  have HW3 : Hid (W3 = w3.alloc (.cells #[.slice b1 P.vars.length d1, .slice b2 P.funs.length d2, .slice b3 P.stmts.length d3] 26)) := hid (by rw [hW3]; rfl)
  have Hx3 := hid (hx3.trans hx3')
  have HX3 := hid (HX2.out.trans Hx3.out)
  have HPo := hid (show PS0 W3 W3.heap.size ad b1 b2 b3 d1 d2 d3 P from ⟨HE.out.ext HX3.out, (hq.ext hx3').lift hx3'.size, Hz1.out, Hz2.out⟩)
  have HF9 := hid (rfprog_all a1 a2 a3 c1 c2 c3 P W3 (HPS.out.on (Nat.le_refl _) Hx3.out).prog Hz1.out Hz2.out)
  unfold pval at HF9
  clear HQ hx3 hx3' hq hW3 p0 p1 p2
  have p0 := (HBp.out.ext Hx3.out).av 0 rfl
  have p1 := (HBp.out.ext Hx3.out).av 1 rfl
  have p2 := (HBp.out.ext Hx3.out).av 2 rfl
  simp only [pcells, qA0, qA1, qA2] at p0 p1 p2
  rw [HW3.out] at p0 p1 p2
  go_wp2_with fail
  rw [← HW3.out]
  refine HF9.out.mono ?_
  intro e w8 hx
  obtain ⟨hx8, fc, fp, rfl, hfi⟩ := hx
  have Hfi := hid hfi
  obtain ⟨W8, hW8⟩ : ∃ W8, W8 = w8.alloc (.cells #[.int .i64 (fc : Int), .int .i64 fp] 31) := ⟨_, rfl⟩
  have hx8' : Ext w8 W8 := by rw [hW8]; exact (Ext.refl _).alloc _
  have HBf : Hid (Blk W8 w8.heap.size #[.int .i64 (fc : Int), .int .i64 fp] 31) := hid (by rw [hW8]; exact Blk.new _ _ _)
  have HW8 := hid hW8
  have Hx38 := hid (hx8.trans hx8')
  have Hw38 := hid hx8
  have Hw88 := hid hx8'
  have HX8 := hid (HX3.out.trans Hx38.out)
  clear HF9 hfi hx8 hx8' hW8 p0 p1 p2
  have k0 := HBf.out.av 0 rfl
  have k1 := HBf.out.av 1 rfl
  simp only [qA0, qA1, qA2] at k0 k1
  have q0 := (HBo.out.ext Hx38.out).av 0 rfl
  have q1 := (HBo.out.ext Hx38.out).av 1 rfl
  have q2 := (HBo.out.ext Hx38.out).av 2 rfl
  simp only [pcells, qA0, qA1, qA2] at q0 q1 q2
  rw [HW8.out] at k0 k1 q0 q1 q2
  have hc := Hfi.out.no Hw.out
  have e0 : ((fc : Int) == 0) = false := beq_eq_false_iff_ne.2 (by omega)
  have e1 : decide ((0 : Int) < (fc : Int)) = true := decide_eq_true (by omega)
  have e2 : (0 < fc) = True := by simp; omega
  have e3 : (fc = 0) = False := by simp; omega
  have HN := hid (shardnew_no b1 b2 b3 d1 d2 d3 P 0 kk W8 W8.heap.size ad (HPo.out.on (Nat.le_refl _) Hx38.out) (Nat.le_refl _) Hw.out)
  unfold pval at HN
  clear hc
  go_wp2_with fail
  rw [← HW8.out]
  refine HN.out.mono ?_
  intro e w4 hx
  obtain ⟨t4, z4, rfl, hei, hx4⟩ := hx
  obtain ⟨fc', fp', hf4, h4, hc4⟩ := code_chk hei Hw.out
  obtain ⟨rfl, rfl⟩ := Hfi.out.uniq hf4
  have HX4 := hid (HX8.out.trans hx4)
  have HFa := hid (faulted3_any w4 (.iface t4 (.pointer (some z4))) (fc : Int) fp fun w1 x => hc4 w1 x (HAA.out.ext (HX4.out.trans x)))
  have k0 := (HBf.out.ext hx4).av 0 rfl
  have k1 := (HBf.out.ext hx4).av 1 rfl
  simp only [qA0, qA1, qA2] at k0 k1
  clear HN hei hx4 hf4 h4 hc4 q0 q1 q2
  go_wp2_with fail
  refine HFa.out.mono ?_
  intro e w9 hx
  obtain ⟨rfl, hx9⟩ := hx
  have HX9 := hid (HX4.out.trans hx9)
  clear HFa hx9 k0 k1
  go_wp2
  go_ret
  exact ⟨rfl, HX9.out⟩
set_option maxRecDepth 100000 in
set_option maxHeartbeats 6400000 in
theorem shardany_of (a1 a2 a3 : Option Addr) (c1 c2 c3 : Nat) (P : PP) (kk : Int) (sa : Option Addr) (sc : Nat) (nums : List Int) (w : World) (ad : Nat → Addr) (hE : ErrsP w ad) (hA : AllErrs w ad) (hP : ProgR w w.heap.size (.slice a1 P.vars.length c1) (.slice a2 P.funs.length c2) (.slice a3 P.stmts.length c3) P) (hI : IntsR w w.heap.size (.slice sa nums.length sc) nums) (hw : P.Well) (hb : kk < 1 ∨ 6 < kk) :
    Calls Tryz.prog 4 #[pval a1 a2 a3 c1 c2 c3 P, .int .i64 kk, .slice sa nums.length sc] w fun e w' => e = .returned (.bool true) ∧ Ext w w' := by
  have Hw := hid hw
  have Hb := hid hb
  clear hw hb
  have HAA := hid hA
  have HIs := hid hI
  have hnl := hI.len
  clear hA hI
  have HE := hid hE
  have HP := hid hP
  obtain ⟨W1, hW1⟩ : ∃ W1, W1 = w.alloc (.cells (pcells a1 a2 a3 c1 c2 c3 P) 26) := ⟨_, rfl⟩
  have HX1 : Hid (Ext w W1) := hid (by rw [hW1]; exact (Ext.refl _).alloc _)
  have HB1 : Hid (Blk W1 w.heap.size (pcells a1 a2 a3 c1 c2 c3 P) 26) := hid (by rw [hW1]; exact Blk.new _ _ _)
  have HR := hid (shardedfact_any W1 ad (hE.ext HX1.out))
  have HW1 : Hid (W1 = w.alloc (.cells #[.slice a1 P.vars.length c1, .slice a2 P.funs.length c2, .slice a3 P.stmts.length c3] 26)) := hid (by rw [hW1]; rfl)
  unfold pval
  clear hE hP hW1
  go_enter Tryz.func4, Tryz.ntmps4
  go_wp2_with fail
  rw [← HW1.out]
  refine HR.out.mono ?_
  intro e w1 hx
  obtain ⟨rfl, hx1⟩ := hx
  have HL := hid (large_q a1 a2 a3 c1 c2 c3 16 (by omega) P w1 w.heap.size (HP.out.ext (HX1.out.trans hx1)))
  rw [show ((16 : Nat) : Int) = (16 : Int) from rfl] at HL
  unfold pval at HL
  have HX1' := hid (HX1.out.trans hx1)
  have HBp1 := hid (HB1.out.ext hx1)
  have p0 := HBp1.out.av 0 rfl
  have p1 := HBp1.out.av 1 rfl
  have p2 := HBp1.out.av 2 rfl
  simp only [pcells, qA0, qA1, qA2] at p0 p1 p2
  clear HR hx1
  go_wp2_with fail
  refine HL.out.mono ?_
  intro e w2 hx
  obtain ⟨r, rfl, hr, hsm, hx2⟩ := hx
  have HX2 := hid (HX1'.out.trans hx2)
  have HBp := hid (HBp1.out.ext hx2)
  clear HL hx2 p0 p1 p2
  rcases (by omega : r = 1 ∨ r = 0) with rfl | rfl
  · clear hsm hr
    go_wp2
    go_ret
    exact ⟨rfl, HX2.out⟩
  have HSm := hid (hsm rfl).1
  have HQl := hid (hsm rfl).2.1
  have HVl := hid (hsm rfl).2.2
  clear hsm hr
  by_cases hlen : nums.length ≤ 100
  case neg =>
    go_wp2
    go_ret
    exact ⟨rfl, HX2.out⟩
  have Hlen := hid hlen
  clear hnl
  have hz1 : ∀ s ∈ P.vars, s.size ≤ 1000000 := fun s hs => by have := HSm.out.vs s hs; omega
  have hz2 : ∀ s ∈ P.names, s.size ≤ 1000000 := fun s hs => by
    obtain ⟨f, hf, rfl⟩ := List.mem_map.1 hs
    have := (HSm.out.fs f hf).1
    omega
  have Hz1 := hid hz1
  have Hz2 := hid hz2
  have HPS := hid (show PS0 w2 w2.heap.size ad a1 a2 a3 c1 c2 c3 P from ⟨HE.out.ext HX2.out, (HP.out.ext HX2.out).lift HX2.out.size, Hz1.out, Hz2.out⟩)
  clear hz1 hz2
  have HQ := hid (ownprogram_any a1 a2 a3 c1 c2 c3 P w2 HPS.out.prog HSm.out)
  unfold pval at HQ
  have p0 := HBp.out.av 0 rfl
  have p1 := HBp.out.av 1 rfl
  have p2 := HBp.out.av 2 rfl
  simp only [pcells, qA0, qA1, qA2] at p0 p1 p2
  go_wp2_with fail
  refine HQ.out.mono ?_
  intro e w3 hx
  obtain ⟨hx3, b1, b2, b3, d1, d2, d3, rfl, hq⟩ := hx
  obtain ⟨W3, hW3⟩ : ∃ W3, W3 = w3.alloc (.cells (pcells b1 b2 b3 d1 d2 d3 P) 26) := ⟨_, rfl⟩
  have hx3' : Ext w3 W3 := by rw [hW3]; exact (Ext.refl _).alloc _
  have HBo : Hid (Blk W3 w3.heap.size (pcells b1 b2 b3 d1 d2 d3 P) 26) := hid (by rw [hW3]; exact Blk.new _ _ _)
  have HW3 : Hid (W3 = w3.alloc (.cells #[.slice b1 P.vars.length d1, .slice b2 P.funs.length d2, .slice b3 P.stmts.length d3] 26)) := hid (by rw [hW3]; rfl)
  have Hx3 := hid (hx3.trans hx3')
  have HX3 := hid (HX2.out.trans Hx3.out)
  have HPo := hid (show PS0 W3 W3.heap.size ad b1 b2 b3 d1 d2 d3 P from ⟨HE.out.ext HX3.out, (hq.ext hx3').lift hx3'.size, Hz1.out, Hz2.out⟩)
  have HF9 := hid (rfprog_all a1 a2 a3 c1 c2 c3 P W3 (HPS.out.on (Nat.le_refl _) Hx3.out).prog Hz1.out Hz2.out)
  unfold pval at HF9
  clear HQ hx3 hx3' hq hW3 p0 p1 p2
  have p0 := (HBp.out.ext Hx3.out).av 0 rfl
  have p1 := (HBp.out.ext Hx3.out).av 1 rfl
  have p2 := (HBp.out.ext Hx3.out).av 2 rfl
  simp only [pcells, qA0, qA1, qA2] at p0 p1 p2
  rw [HW3.out] at p0 p1 p2
  go_wp2_with fail
  rw [← HW3.out]
  refine HF9.out.mono ?_
  intro e w8 hx
  obtain ⟨hx8, fc, fp, rfl, hfi⟩ := hx
  have Hfi := hid hfi
  obtain ⟨W8, hW8⟩ : ∃ W8, W8 = w8.alloc (.cells #[.int .i64 (fc : Int), .int .i64 fp] 31) := ⟨_, rfl⟩
  have hx8' : Ext w8 W8 := by rw [hW8]; exact (Ext.refl _).alloc _
  have HBf : Hid (Blk W8 w8.heap.size #[.int .i64 (fc : Int), .int .i64 fp] 31) := hid (by rw [hW8]; exact Blk.new _ _ _)
  have HW8 := hid hW8
  have Hx38 := hid (hx8.trans hx8')
  have Hw38 := hid hx8
  have Hw88 := hid hx8'
  have HX8 := hid (HX3.out.trans Hx38.out)
  clear HF9 hfi hx8 hx8' hW8 p0 p1 p2
  have k0 := HBf.out.av 0 rfl
  have k1 := HBf.out.av 1 rfl
  simp only [qA0, qA1, qA2] at k0 k1
  have q0 := (HBo.out.ext Hx38.out).av 0 rfl
  have q1 := (HBo.out.ext Hx38.out).av 1 rfl
  have q2 := (HBo.out.ext Hx38.out).av 2 rfl
  simp only [pcells, qA0, qA1, qA2] at q0 q1 q2
  rw [HW8.out] at k0 k1 q0 q1 q2
  obtain ⟨rfl, rfl⟩ := Hfi.out.well Hw.out
  clear k0 k1 q0 q1 q2
  have HW8 : Hid (W8 = w8.alloc (.cells #[.int .i64 0, .int .i64 (-1)] 31)) := hid HW8.out
  have HBf : Hid (Blk W8 w8.heap.size #[.int .i64 0, .int .i64 (-1)] 31) := hid HBf.out
  have k0 := HBf.out.av 0 rfl
  have k1 := HBf.out.av 1 rfl
  have q0 := (HBo.out.ext Hx38.out).av 0 rfl
  have q1 := (HBo.out.ext Hx38.out).av 1 rfl
  have q2 := (HBo.out.ext Hx38.out).av 2 rfl
  simp only [pcells, qA0, qA1, qA2] at k0 k1 q0 q1 q2
  rw [HW8.out] at k0 k1 q0 q1 q2
  have hb := Hb.out
  by_cases h1 : kk < 1
  ·
    have HBa := hid (rbare_any 2 W8)
    go_wp2_with fail
    rw [← HW8.out]
    refine HBa.out.mono ?_
    intro e w5 hx
    obtain ⟨rfl, hx5⟩ := hx
    have Hx85 := hid hx5
    have f0 := (HBf.out.ext hx5).free 0
    have f1 := (HBf.out.ext hx5).free 1
    have z0 := (HBf.out.ext hx5).av 0 rfl
    have z1 := (HBf.out.ext hx5).av 1 rfl
    simp only [qA0, qA1, qA2] at z0 z1
    obtain ⟨W6, hW6⟩ : ∃ W6, W6 = (w5.setCell ⟨w8.heap.size, 0, none⟩ (.int .i64 2)).setCell ⟨w8.heap.size, 1, none⟩ (.int .i64 (-1)) := ⟨_, rfl⟩
    have HW6 := hid hW6
    have HB6 : Hid (Blk W6 w8.heap.size #[.int .i64 2, .int .i64 (-1)] 31) := hid (by
      rw [hW6]
      exact two (HBf.out.ext Hx85.out))
    have Hx36 : Hid (Ext W3 W6) := hid (by
      have h0 : Keep (fun b => b = w8.heap.size) w5 W6 := by rw [hW6]; exact two_keep _ _ _ _
      exact Keep.new (Hw38.out.trans (Hw88.out.trans Hx85.out)) h0 fun b hb => by rw [hb]; exact Hw38.out.size)
    have Hq0 := hid (((HBo.out.ext Hx36.out).av 0 rfl))
    have Hq1 := hid (((HBo.out.ext Hx36.out).av 1 rfl))
    have Hq2 := hid (((HBo.out.ext Hx36.out).av 2 rfl))
    have HN := hid (shardnew_bound b1 b2 b3 d1 d2 d3 P 0 kk W6 W6.heap.size ad ((HPo.out.on (Nat.le_refl _) Hx36.out).pw Hw.out) (by omega))
    unfold pval evOf at HN
    have q0 := Hq0.out
    have q1 := Hq1.out
    have q2 := Hq2.out
    have k0 := HB6.out.av 0 rfl
    have k1 := HB6.out.av 1 rfl
    simp only [pcells, qA0, qA1, qA2] at q0 q1 q2 k0 k1
    rw [HW6.out] at q0 q1 q2 k0 k1
    clear HBa hx5 hW6 hb
    go_wp2_with fail
    rw [← HW6.out]
    refine HN.out.mono ?_
    intro e w4 hx
    obtain ⟨rfl, hx4⟩ := hx
    have HX4 := hid (HX3.out.trans (Hx36.out.trans hx4))
    have HFa := hid (faulted3_any w4 (evOf ad 2) 2 (-1) fun w1 x => code_of w1 ad (HAA.out.ext (HX4.out.trans x)) 2 (by decide) (by decide))
    unfold evOf at HFa
    have k0 := (HB6.out.ext hx4).av 0 rfl
    have k1 := (HB6.out.ext hx4).av 1 rfl
    simp only [qA0, qA1, qA2] at k0 k1
    clear HN hx4 q0 q1 q2 f0 f1 z0 z1
    go_wp2_with fail
    refine HFa.out.mono ?_
    intro e w9 hx
    obtain ⟨rfl, hx9⟩ := hx
    have HX9 := hid (HX4.out.trans hx9)
    clear HFa hx9 k0 k1
    go_wp2
    go_ret
    exact ⟨rfl, HX9.out⟩
  · have h2 : 6 < kk := by omega
    have HBa := hid (rbare_any 2 W8)
    go_wp2_with fail
    rw [← HW8.out]
    refine HBa.out.mono ?_
    intro e w5 hx
    obtain ⟨rfl, hx5⟩ := hx
    have Hx85 := hid hx5
    have f0 := (HBf.out.ext hx5).free 0
    have f1 := (HBf.out.ext hx5).free 1
    have z0 := (HBf.out.ext hx5).av 0 rfl
    have z1 := (HBf.out.ext hx5).av 1 rfl
    simp only [qA0, qA1, qA2] at z0 z1
    obtain ⟨W6, hW6⟩ : ∃ W6, W6 = (w5.setCell ⟨w8.heap.size, 0, none⟩ (.int .i64 2)).setCell ⟨w8.heap.size, 1, none⟩ (.int .i64 (-1)) := ⟨_, rfl⟩
    have HW6 := hid hW6
    have HB6 : Hid (Blk W6 w8.heap.size #[.int .i64 2, .int .i64 (-1)] 31) := hid (by
      rw [hW6]
      exact two (HBf.out.ext Hx85.out))
    have Hx36 : Hid (Ext W3 W6) := hid (by
      have h0 : Keep (fun b => b = w8.heap.size) w5 W6 := by rw [hW6]; exact two_keep _ _ _ _
      exact Keep.new (Hw38.out.trans (Hw88.out.trans Hx85.out)) h0 fun b hb => by rw [hb]; exact Hw38.out.size)
    have Hq0 := hid (((HBo.out.ext Hx36.out).av 0 rfl))
    have Hq1 := hid (((HBo.out.ext Hx36.out).av 1 rfl))
    have Hq2 := hid (((HBo.out.ext Hx36.out).av 2 rfl))
    have HN := hid (shardnew_bound b1 b2 b3 d1 d2 d3 P 0 kk W6 W6.heap.size ad ((HPo.out.on (Nat.le_refl _) Hx36.out).pw Hw.out) (by omega))
    unfold pval evOf at HN
    have q0 := Hq0.out
    have q1 := Hq1.out
    have q2 := Hq2.out
    have k0 := HB6.out.av 0 rfl
    have k1 := HB6.out.av 1 rfl
    simp only [pcells, qA0, qA1, qA2] at q0 q1 q2 k0 k1
    rw [HW6.out] at q0 q1 q2 k0 k1
    clear HBa hx5 hW6 hb
    go_wp2_with fail
    rw [← HW6.out]
    refine HN.out.mono ?_
    intro e w4 hx
    obtain ⟨rfl, hx4⟩ := hx
    have HX4 := hid (HX3.out.trans (Hx36.out.trans hx4))
    have HFa := hid (faulted3_any w4 (evOf ad 2) 2 (-1) fun w1 x => code_of w1 ad (HAA.out.ext (HX4.out.trans x)) 2 (by decide) (by decide))
    unfold evOf at HFa
    have k0 := (HB6.out.ext hx4).av 0 rfl
    have k1 := (HB6.out.ext hx4).av 1 rfl
    simp only [qA0, qA1, qA2] at k0 k1
    clear HN hx4 q0 q1 q2 f0 f1 z0 z1
    go_wp2_with fail
    refine HFa.out.mono ?_
    intro e w9 hx
    obtain ⟨rfl, hx9⟩ := hx
    have HX9 := hid (HX4.out.trans hx9)
    clear HFa hx9 k0 k1
    go_wp2
    go_ret
    exact ⟨rfl, HX9.out⟩
structure Stand (P : PP) (k : Nat) (S : List (List Int)) (n1 : Nat) (w : World) (va v : Value) (L : List SR) (ns : List NV) (os : List N2) : Prop where
  game : Game n1 (fun b => va.ownBlock = some b ∨ v.ownBlock = some b) w L
  ptr : w.ownsRow n1 47 1 va L.length (L.map fun r => Value.pointer (some ⟨r.g, 0, none⟩))
  notes : NotesO n1 w v ns os
  play : Play P k S (L.map SR.s) ns
  con : ∀ (i : Nat) (r : SR), L[i]? = some r → r.c.P = P ∧ r.c.me = i ∧ r.c.k = k
theorem grow_s (a b : Nat) (L : List SR) : (L.map (SR.grow a b)).map SR.s = L.map SR.s := by
  rw [List.map_map]; rfl
theorem grow_ptr (a b : Nat) (L : List SR) : ((L.map (SR.grow a b)).map fun r => Value.pointer (some ⟨r.g, 0, none⟩)) = L.map fun r => Value.pointer (some ⟨r.g, 0, none⟩) := by
  rw [List.map_map]; rfl
theorem bnd_of {c : SC} {kd x : Int} {l : List Int} (h : NOk c.P (c.k : Nat) ⟨(c.me : Nat), kd, x :: l⟩) : c.bnd kd x l = true ∧ (kd = 100 ∨ (kd = 101 ∧ l.length = 1)) := by
  rcases h.is with ⟨h1, n, l', h2, h3, h4, h5⟩ | ⟨h1, a, b, h2, h3, h4, h5⟩
  · simp only [List.cons.injEq] at h2 h1 h4
    obtain ⟨rfl, rfl⟩ := h2
    subst h1
    refine ⟨?_, .inl rfl⟩
    unfold SC.bnd SC.own SC.most
    rw [decide_eq_true ⟨h3.1, h3.2, h4.symm⟩, Bool.true_and, if_neg (by decide), Bool.not_eq_true', List.any_eq_false]
    intro n hn
    have := h5 n hn
    simp
    omega
  · simp only [List.cons.injEq] at h2 h1 h4
    obtain ⟨rfl, rfl⟩ := h2
    subst h1
    refine ⟨?_, .inr ⟨rfl, rfl⟩⟩
    unfold SC.bnd SC.own SC.most
    rw [decide_eq_true ⟨h3.1, h3.2, h4.symm⟩, Bool.true_and, if_pos rfl, Bool.not_eq_true', List.any_eq_false]
    intro n hn
    obtain rfl := List.mem_singleton.1 hn
    simp
    omega
section
variable {P : PP} {k n1 : Nat} {S : List (List Int)} {w w' : World} {va v va' v' : Value} {L : List SR} {ns : List NV} {os : List N2}
theorem con_grow {a b : Nat} (h : ∀ (i : Nat) (r : SR), L[i]? = some r → r.c.P = P ∧ r.c.me = i ∧ r.c.k = k) : ∀ (i : Nat) (r : SR), (L.map (SR.grow a b))[i]? = some r → r.c.P = P ∧ r.c.me = i ∧ r.c.k = k := fun i r hr => by
  rw [List.getElem?_map] at hr
  obtain ⟨q, hq, rfl⟩ := Option.map_eq_some_iff.1 hr
  exact h i q hq
theorem Stand.start (P : PP) (k : Nat) (S : List (List Int)) (w : World) : Stand P k S w.heap.size w (.slice none 0 0) (.slice none 0 0) [] [] [] :=
  ⟨⟨(Game.start w).peers, Nat.le_refl _, fun _ h => (by cases h), fun _ h => (by cases h), fun b h => (by rcases h with h | h <;> cases h)⟩, World.ownsRow_nil _ _ _ _, ⟨World.ownsRow_nil _ _ _ _, rfl, fun _ h => (by cases h)⟩, Play.nil P k S, fun _ _ h => (by cases h)⟩
theorem Stand.ext (h : Stand P k S n1 w va v L ns os) (x : Ext w w') : Stand P k S n1 w' va v (L.map (SR.grow w.heap.size w'.heap.size)) ns os :=
  ⟨h.game.ext x, by rw [List.length_map, grow_ptr]; exact own_ext h.ptr x, h.notes.ext x, by rw [grow_s]; exact h.play, con_grow h.con⟩
theorem own_at2 {w : World} {base : Nat} {e : TypeId} {size n : Nat} {v : Value} {xs : List Value} (h : w.ownsRow base e size v n xs) (he : e ≠ 3) {b : Nat} (hb : v.ownBlock = some b) : b < w.heap.size ∧ ¬ IsInt w b := by
  obtain ⟨c, hc⟩ := own_ty h hb
  exact ⟨hc.lt, IsInt.not hc he⟩
theorem Stand.turn (h : Stand P k S n1 w va v L ns os) (kp : Keep (fun b => v.ownBlock = some b) w w') {ns' : List NV} {os' : List N2} (hn : NotesO n1 w' v' ns' os') (ho : ∀ b, v'.ownBlock = some b → v.ownBlock = some b ∨ w.heap.size ≤ b) (hp : Play P k S (L.map SR.s) ns') :
    Stand P k S n1 w' va v' (L.map (SR.grow w.heap.size w'.heap.size)) ns' os' := by
  have hptr : w'.ownsRow n1 47 1 va L.length (L.map fun r => Value.pointer (some ⟨r.g, 0, none⟩)) := own_off h.ptr kp fun b hb => by
    obtain ⟨c, hc⟩ := own_ty h.notes.row hb
    exact off_of hc (by decide)
  refine ⟨h.game.step kp (fun b hb _ => .inr hb) (fun r hr b hb => (h.game.nb r hr b (.inr hb)).2) fun b hb => ?_, by rw [List.length_map, grow_ptr]; exact hptr, hn, by rw [grow_s]; exact hp, con_grow h.con⟩
  rcases hb with hb | hb
  · obtain ⟨h1, h2⟩ := own_at2 hptr (by decide) hb
    exact ⟨.inl (.inl hb), h1, h2⟩
  · obtain ⟨h1, h2⟩ := own_at2 hn.row (by decide) hb
    exact ⟨(ho b hb).imp .inr id, h1, h2⟩
theorem Stand.move (h : Stand P k S n1 w va v L ns os) (x : Ext w w') {ns' : List NV} {os' : List N2} (hn : NotesO n1 w' v' ns' os') (ho : ∀ b, v'.ownBlock = some b → w.heap.size ≤ b) :
    Game n1 (fun b => va.ownBlock = some b ∨ v'.ownBlock = some b) w' (L.map (SR.grow w.heap.size w'.heap.size)) := by
  have hptr := own_ext h.ptr x
  refine h.game.step (x.keep fun _ => False) (fun _ h _ => h.elim) (fun _ _ _ h => h.elim) fun b hb => ?_
  rcases hb with hb | hb
  · obtain ⟨h1, h2⟩ := own_at2 hptr (by decide) hb
    exact ⟨.inl (.inl hb), h1, h2⟩
  · obtain ⟨h1, h2⟩ := own_at2 hn.row (by decide) hb
    exact ⟨.inr (ho b hb), h1, h2⟩
theorem Stand.add {w2 w4 w5 : World} (h : Stand P k S n1 w va v L ns os) {n m : Nat} (hL : LeastAt P n S) (hw : P.Well) (hm : L.length = m) {g : Nat} {c : SC} {G F : Nat → Prop} {t : SH} (hcP : c.P = P) (hcm : c.me = m) (hck : c.k = k) (hr : Runs P (m : Nat) (k : Nat) (SH.start P (m : Nat) (k : Nat)) t) (ht : t.todo = []) (hS : ShAt w2 G F g c { t with out := [] }) (hF : ∀ b, b < w.heap.size → F b) (hI : ∀ b, IsInt w2 b → F b) (hG : ∀ b, G b → IsInt w b ∨ w.heap.size ≤ b) (x2 : Ext w w2) (x4 : Ext w2 w4)
    (k5 : Keep (fun b => va.ownBlock = some b) w4 w5) (h5 : w5.ownsRow n1 47 1 va' (m + 1) ((L.map fun r => Value.pointer (some ⟨r.g, 0, none⟩)) ++ [Value.pointer (some ⟨g, 0, none⟩)])) (o5 : ∀ b, va'.ownBlock = some b → va.ownBlock = some b ∨ w4.heap.size ≤ b)
    (k6 : Keep (fun b => v.ownBlock = some b) w5 w') {os2 : List N2} (h6 : NotesO n1 w' v' (ns ++ t.out) (os ++ os2)) (o6 : ∀ b, v'.ownBlock = some b → v.ownBlock = some b ∨ w5.heap.size ≤ b) :
    ∃ L', L'.length = m + 1 ∧ Stand P k S n1 w' va' v' L' (ns ++ t.out) (os ++ os2) ∧ mass (L'.map SR.s) (ns ++ t.out) ≤ mass (L.map SR.s) ns + 20000000 := by
  obtain ⟨p1, p2⟩ := h.play.add hL hw (m := m) (by rw [List.length_map]; exact hm) hr ht
  have g2 := h.game.add (r := SR.mk G F g c { t with out := [] }) x2 hS ⟨ht, rfl⟩ hF hI hG
  have g4 := g2.ext x4
  obtain ⟨L4, hL4⟩ : ∃ L4, L4 = (L.map (SR.grow w.heap.size w2.heap.size) ++ [SR.mk G F g c { t with out := [] }]).map (SR.grow w2.heap.size w4.heap.size) := ⟨_, rfl⟩
  rw [← hL4] at g4
  have e1 : L4.map SR.s = L.map SR.s ++ [({ t with out := [] } : SH)] := by rw [hL4, grow_s, List.map_append, grow_s]; rfl
  have e2 : (L4.map fun r => Value.pointer (some ⟨r.g, 0, none⟩)) = (L.map fun r => Value.pointer (some ⟨r.g, 0, none⟩)) ++ [Value.pointer (some ⟨g, 0, none⟩)] := by rw [hL4, grow_ptr, List.map_append, grow_ptr]; rfl
  have e3 : L4.length = m + 1 := by rw [hL4, List.length_map, List.length_append, List.length_map, hm]; rfl
  have e4 : ∀ (i : Nat) (r : SR), L4[i]? = some r → r.c.P = P ∧ r.c.me = i ∧ r.c.k = k := by
    rw [hL4]
    refine con_grow fun i r hi => ?_
    rcases Nat.lt_or_ge i L.length with h1 | h1
    · rw [List.getElem?_append_left (by rw [List.length_map]; exact h1)] at hi
      exact con_grow h.con i r hi
    · have := (List.getElem?_eq_some_iff.1 hi).1
      rw [List.length_append, List.length_map, List.length_singleton] at this
      obtain rfl : i = L.length := by omega
      rw [List.getElem?_append_right (by rw [List.length_map]; exact Nat.le_refl _), List.length_map, Nat.sub_self] at hi
      obtain rfl := Option.some.inj hi
      exact ⟨hcP, hcm.trans hm.symm, hck⟩
  have v4 := own_ext h.notes.row (x2.trans x4)
  have v5 : w5.ownsRow n1 57 3 v ns.length (os.flatMap N2.cells) := own_off v4 k5 fun b hb => by
    obtain ⟨c', hc⟩ := own_ty (own_ext h.ptr (x2.trans x4)) hb
    exact off_of hc (by decide)
  have g5 : Game n1 (fun b => va'.ownBlock = some b ∨ v.ownBlock = some b) w5 (L4.map (SR.grow w4.heap.size w5.heap.size)) := g4.step k5 (fun b hb _ => .inl hb) (fun r hr b hb => (g4.nb r hr b (.inl hb)).2) fun b hb => by
    rcases hb with hb | hb
    · obtain ⟨h1, h2⟩ := own_at2 h5 (by decide) hb
      exact ⟨(o5 b hb).imp .inl id, h1, h2⟩
    · obtain ⟨h1, h2⟩ := own_at2 v5 (by decide) hb
      exact ⟨.inl (.inr hb), h1, h2⟩
  have h6' : w'.ownsRow n1 47 1 va' (m + 1) ((L.map fun r => Value.pointer (some ⟨r.g, 0, none⟩)) ++ [Value.pointer (some ⟨g, 0, none⟩)]) := own_off h5 k6 fun b hb => by
    obtain ⟨c', hc⟩ := own_ty v5 hb
    exact off_of hc (by decide)
  have g6 : Game n1 (fun b => va'.ownBlock = some b ∨ v'.ownBlock = some b) w' ((L4.map (SR.grow w4.heap.size w5.heap.size)).map (SR.grow w5.heap.size w'.heap.size)) := g5.step k6 (fun b hb _ => .inr hb) (fun r hr b hb => (g5.nb r hr b (.inr hb)).2) fun b hb => by
    rcases hb with hb | hb
    · obtain ⟨h1, h2⟩ := own_at2 h6' (by decide) hb
      exact ⟨.inl (.inl hb), h1, h2⟩
    · obtain ⟨h1, h2⟩ := own_at2 h6.row (by decide) hb
      exact ⟨(o6 b hb).imp .inr id, h1, h2⟩
  refine ⟨_, by rw [List.length_map, List.length_map, e3], ⟨g6, by rw [List.length_map, List.length_map, e3, grow_ptr, grow_ptr, e2]; exact h6', h6, by rw [grow_s, grow_s, e1]; exact p1, con_grow (con_grow e4)⟩, by rw [grow_s, grow_s, e1]; exact p2⟩
end
theorem pshard_info : (Tryz.prog.info? 47).map (fun i => (i.zero, i.size, i.bytes)) = some (some (.pointer none), 1, 8) := by kernel_rfl
theorem wpList_append_big {ops : Array Oper} {Q : Exit → Act → World → Prop} {rest : List Oper} {o : Oper} {a : Act} {w : World} (base : Nat) (hbase : base ≤ w.heap.size) (hg : o.guard = none) (s x : Operand) (ho : o.op = .call { callee := .builtin .append, args := #[s, x], argTypes := #[48, 48] })
    (v : Value) (n : Nat) (xs : List Value) (hs : a.eval s = v) (hown : w.ownsRow base 57 3 v n xs) (ad : Option Addr) (m c : Nat) (us : List Value) (hx : a.eval x = .slice ad m c) (hsrc : Src w ad m 3 us) (hl : n + m ≤ 1000000000)
    (h : ∀ v' w', w'.ownsRow base 57 3 v' (n + m) (xs ++ us) → Keep (fun k => v.ownBlock = some k) w w' → (∀ k, v'.ownBlock = some k → v.ownBlock = some k ∨ w.heap.size ≤ k) → wpList Tryz.prog ops Q rest (a.put o.dst v') w') : wpList Tryz.prog ops Q (o :: rest) a w := by
  obtain ⟨ti, hi, hz0, hz, hz2⟩ := info_parts note_info
  have fin : ∀ v' w', (Builtin.append_ #[48, 48] o.type #[v, .slice ad m c]).run Tryz.prog w = .ok v' w' → w'.ownsRow base 57 3 v' (n + m) (xs ++ us) → Keep (fun k => v.ownBlock = some k) w w' → (∀ k, v'.ownBlock = some k → v.ownBlock = some k ∨ w.heap.size ≤ k) → wpList Tryz.prog ops Q (o :: rest) a w := fun v' w' hr h2 h3 h4 => by
    refine wpList_plain hg fun K hK => ?_
    unfold Oper.wp
    rw [run_exec_append s x 48 ho hs hx hr]
    exact hK _ _ (h v' w' h2 h3 h4)
  rcases ad with _ | ad
  · have hm : m = 0 := by
      rcases Nat.eq_zero_or_pos m with h0 | h0
      · exact h0
      · obtain ⟨x, hx⟩ := hsrc.sm h0; cases hx
    subst hm
    obtain rfl : us = [] := List.eq_nil_of_length_eq_zero (by have := hsrc.len; omega)
    exact fin v w (own_nilSrc Tryz.underlying48 hi hown o.type c) (by simpa using hown) (Keep.refl _ _) fun k hk => .inl hk
  · obtain ⟨v', w', hr, h2, h3, _, h4⟩ := run_append_own_at (P := Tryz.prog) w base 48 o.type 57 ti (.agg #[.int .i64 0, .int .u8 0, .slice none 0 0]) 3 40 Tryz.underlying48 hi hz0 hz hz2 rfl (by omega) v n xs hown ad m c us hsrc.len (hsrc.cl ad rfl) hsrc.one (by simp only [maxLen]; omega) (by omega) hbase
    refine fin v' w' hr h2 (grown_keep h3) fun k hk => ?_
    rcases h4 with h4 | h4
    · exact .inl (h4 ▸ hk)
    · rw [h4] at hk
      have := Option.some.inj hk
      exact .inr (by omega)
theorem NotesR.off {w w' : World} {F X : Nat → Prop} {v : Value} {l : List NV} {os : List N2} (h : NotesR w F v l os) (k : Keep X w w') (h1 : ∀ b, X b → ¬ ∃ c, Blk w b c 57) (h2 : ∀ b, X b → ¬ ∃ c, Blk w b c 3) : NotesR w' F v l os :=
  ⟨h.row.off k h1, h.eq, fun x hx => own_off (h.nums x hx) k h2, h.fr, h.fn⟩
theorem NotesO.more {n1 : Nat} {w w' : World} {v v' : Value} {l m : List NV} {os os2 : List N2} (h : NotesO n1 w v l os) (hn : ∀ x ∈ os2, IRow 0 w x.v x.n.nums) (he : os2.map N2.n = m) (k : Keep (fun b => v.ownBlock = some b) w w') (hr : w'.ownsRow n1 57 3 v' (l.length + m.length) (os.flatMap N2.cells ++ os2.flatMap N2.cells)) : NotesO n1 w' v' (l ++ m) (os ++ os2) := by
  have off : ∀ b, v.ownBlock = some b → ¬ ∃ c, Blk w b c 3 := fun b hb => by
    obtain ⟨c, hc⟩ := own_ty h.row hb
    exact off_of hc (by decide)
  refine ⟨by rw [List.length_append, List.flatMap_append]; exact hr, by rw [List.map_append, h.eq, he], fun x hx => ?_⟩
  rcases List.mem_append.1 hx with hx | hx
  · exact own_off (h.nums x hx) k off
  · exact own_off (hn x hx) k off
theorem out_apart {P : PP} {m k : Nat} {t : SH} (hk : 1 ≤ k) (h : t.Ok P (m : Nat) (k : Nat)) : ∀ x ∈ t.out, x.to ≠ (m : Int) ∧ 0 ≤ x.to ∧ x.to < (k : Int) := fun x hx => by
  obtain ⟨h1, h2⟩ := h.out x hx
  refine ⟨h2, ?_⟩
  rcases h1.is with ⟨_, n, _, _, _, h3, _⟩ | ⟨_, a, _, _, _, h3, _⟩
  · rw [h3]
    exact ⟨Int.emod_nonneg _ (by omega), Int.emod_lt_of_pos _ (by omega)⟩
  · rw [h3]
    exact ⟨Int.emod_nonneg _ (by omega), Int.emod_lt_of_pos _ (by omega)⟩
theorem phi_load (t : SH) : t.out.length ≤ t.phi := by
  unfold SH.phi SH.load
  omega
structure Base (P : PP) (k n1 : Nat) (w : World) (va v : Value) (L : List SR) (ns : List NV) (os : List N2) : Prop where
  game : Game n1 (fun b => va.ownBlock = some b ∨ v.ownBlock = some b) w L
  ptr : w.ownsRow n1 47 1 va L.length (L.map fun r => Value.pointer (some ⟨r.g, 0, none⟩))
  notes : NotesO n1 w v ns os
  con : ∀ (i : Nat) (r : SR), L[i]? = some r → r.c.P = P ∧ r.c.me = i ∧ r.c.k = k
section
variable {P : PP} {k n1 : Nat} {S : List (List Int)} {w w' : World} {va v va' v' : Value} {L : List SR} {ns : List NV} {os : List N2}
theorem Base.ext (h : Base P k n1 w va v L ns os) (x : Ext w w') : Base P k n1 w' va v (L.map (SR.grow w.heap.size w'.heap.size)) ns os :=
  ⟨h.game.ext x, by rw [List.length_map, grow_ptr]; exact own_ext h.ptr x, h.notes.ext x, con_grow h.con⟩
theorem Base.turn (h : Base P k n1 w va v L ns os) (kp : Keep (fun b => v.ownBlock = some b) w w') {ns' : List NV} {os' : List N2} (hn : NotesO n1 w' v' ns' os') (ho : ∀ b, v'.ownBlock = some b → v.ownBlock = some b ∨ w.heap.size ≤ b) :
    Base P k n1 w' va v' (L.map (SR.grow w.heap.size w'.heap.size)) ns' os' := by
  have hptr : w'.ownsRow n1 47 1 va L.length (L.map fun r => Value.pointer (some ⟨r.g, 0, none⟩)) := own_off h.ptr kp fun b hb => by
    obtain ⟨c, hc⟩ := own_ty h.notes.row hb
    exact off_of hc (by decide)
  refine ⟨h.game.step kp (fun b hb _ => .inr hb) (fun r hr b hb => (h.game.nb r hr b (.inr hb)).2) fun b hb => ?_, by rw [List.length_map, grow_ptr]; exact hptr, hn, con_grow h.con⟩
  rcases hb with hb | hb
  · obtain ⟨h1, h2⟩ := own_at2 hptr (by decide) hb
    exact ⟨.inl (.inl hb), h1, h2⟩
  · obtain ⟨h1, h2⟩ := own_at2 hn.row (by decide) hb
    exact ⟨(ho b hb).imp .inr id, h1, h2⟩
theorem Base.stand (h : Base P k n1 w va v L ns os) (hp : Play P k S (L.map SR.s) ns) : Stand P k S n1 w va v L ns os := ⟨h.game, h.ptr, h.notes, hp, h.con⟩
theorem Stand.taken {w3 w4 : World} {v3 : Value} {ns3 : List NV} {os3 : List N2} (h : Stand P k S n1 w va v L ns os) (x3 : Ext w w3) (hn : NotesO n1 w3 v3 ns3 os3) (ho3 : ∀ b, v3.ownBlock = some b → w.heap.size ≤ b) {j : Nat} {r : SR} (hj : L[j]? = some r)
    (k4 : Keep (fun b => ¬ (r.grow w.heap.size w3.heap.size).F b) w3 w4) {F' : Nat → Prop} {s' : SH} (hS : ShAt w4 r.G F' r.g r.c s') (hs : s'.todo = [] ∧ s'.out = []) (hF : ∀ b, (r.grow w.heap.size w3.heap.size).F b → F' b) (hI : ∀ b, IsInt w4 b → F' b) :
    ∃ L4, Base P k n1 w4 va v3 L4 ns3 os3 ∧ L4.map SR.s = (L.map SR.s).set j s' ∧ L4.length = L.length := by
  have hjl := (List.getElem?_eq_some_iff.1 hj).1
  have g3 := h.move x3 hn ho3
  have hj3 : (L.map (SR.grow w.heap.size w3.heap.size))[j]? = some (r.grow w.heap.size w3.heap.size) := by rw [List.getElem?_map, hj]; rfl
  have hr3 := List.mem_of_getElem? hj3
  have g4 := g3.take hj3 k4 hS hs hF hI
  obtain ⟨L4, hL4⟩ : ∃ L4, L4 = ((L.map (SR.grow w.heap.size w3.heap.size)).map (SR.grow w3.heap.size w4.heap.size)).set j ⟨r.G, F', r.g, r.c, s'⟩ := ⟨_, rfl⟩
  have hget : ∀ i, L4[i]? = if j = i then some ⟨r.G, F', r.g, r.c, s'⟩ else ((L[i]?).map (SR.grow w.heap.size w3.heap.size)).map (SR.grow w3.heap.size w4.heap.size) := fun i => by
    rw [hL4, get_set _ _ _ _ (by rw [List.length_map, List.length_map]; exact hjl), List.getElem?_map, List.getElem?_map]
  have hlen : L4.length = L.length := by rw [hL4, List.length_set, List.length_map, List.length_map]
  have hp : (L4.map fun r => Value.pointer (some ⟨r.g, 0, none⟩)) = L.map fun r => Value.pointer (some ⟨r.g, 0, none⟩) := by
    refine List.ext_getElem? fun i => ?_
    rw [List.getElem?_map, List.getElem?_map, hget]
    by_cases hij : j = i
    · subst hij
      rw [if_pos rfl, hj]; rfl
    · rw [if_neg hij, Option.map_map, Option.map_map]; rfl
  have hs4 : L4.map SR.s = (L.map SR.s).set j s' := by
    refine List.ext_getElem? fun i => ?_
    rw [List.getElem?_map, hget, get_set _ _ _ _ (by rw [List.length_map]; exact hjl), List.getElem?_map]
    by_cases hij : j = i
    · rw [if_pos hij, if_pos hij]; rfl
    · rw [if_neg hij, if_neg hij, Option.map_map, Option.map_map]; rfl
  refine ⟨L4, ⟨by rw [hL4]; exact g4, ?_, hn.keep k4 (fun b hb hx => hx (g3.nb _ hr3 b (.inr hb)).1) fun b hb hx => hx (g3.peers.int _ hr3 b hb), fun i q hi => ?_⟩, hs4, hlen⟩
  · rw [hlen, hp]
    exact own_stay (own_ext h.ptr x3) k4 fun b hb hx => hx (g3.nb _ hr3 b (.inl hb)).1
  · rw [hget] at hi
    by_cases hij : j = i
    · subst hij
      rw [if_pos rfl] at hi
      obtain rfl := Option.some.inj hi
      have hq := h.con _ r hj
      exact hq
    · rw [if_neg hij, Option.map_map] at hi
      obtain ⟨p, hp, rfl⟩ := Option.map_eq_some_iff.1 hi
      exact h.con i p hp
theorem Stand.ready {w3 : World} {v3 : Value} {ns3 : List NV} {os3 : List N2} (h : Stand P k S n1 w va v L ns os) (x3 : Ext w w3) (hn : NotesO n1 w3 v3 ns3 os3) (ho3 : ∀ b, v3.ownBlock = some b → w.heap.size ≤ b) {j : Nat} {r : SR} (hj : L[j]? = some r) :
    ShAt w3 r.G (r.grow w.heap.size w3.heap.size).F r.g r.c r.s ∧ r.s.Ok r.c.P (r.c.me : Nat) (r.c.k : Nat) ∧ r.c.P = P ∧ r.c.me = j ∧ r.c.k = k ∧ (∀ b, b < n1 → (r.grow w.heap.size w3.heap.size).F b) ∧ (∀ b, w.heap.size ≤ b → b < w3.heap.size → (r.grow w.heap.size w3.heap.size).F b) ∧ (L.map SR.s)[j]? = some r.s ∧ ∀ b, va.ownBlock = some b ∨ v3.ownBlock = some b → (r.grow w.heap.size w3.heap.size).F b := by
  have g3 := h.move x3 hn ho3
  have hj3 : (L.map (SR.grow w.heap.size w3.heap.size))[j]? = some (r.grow w.heap.size w3.heap.size) := by rw [List.getElem?_map, hj]; rfl
  have hr3 := List.mem_of_getElem? hj3
  obtain ⟨c1, c2, c3⟩ := h.con j r hj
  have hs : (L.map SR.s)[j]? = some r.s := by rw [List.getElem?_map, hj]; rfl
  refine ⟨g3.peers.at_ _ hr3, ?_, c1, c2, c3, fun b hb => g3.low _ hr3 b hb, fun b h1 h2 => .inr ⟨h1, h2⟩, hs, fun b hb => (g3.nb _ hr3 b hb).1⟩
  have := (h.play.full j r.s hs).ok
  rw [c1, c2, c3]
  exact this
theorem Stand.near {n ga na ca : Nat} (h : Stand P k S n1 w (.slice (some ⟨ga, 0, none⟩) na ca) v L ns os) (hL : LeastAt P n S) (hw : P.Well) (hk : 1 ≤ k) (hlen : L.length = k) (hS : S.length = P.nodesV) (full : Bool) (hf : full = true → ns = []) {i : Nat} (hi : i < S.length) : NearAt w ⟨ga, 0, none⟩ k i full (S.getD i []) := by
  have hm : i % k < k := Nat.mod_lt _ (by omega)
  obtain ⟨r, hr⟩ : ∃ r, L[i % k]? = some r := ⟨_, List.getElem?_eq_getElem (by omega)⟩
  have hrm := List.mem_of_getElem? hr
  obtain ⟨c1, c2, c3⟩ := h.con _ _ hr
  have hs : (L.map SR.s)[i % k]? = some r.s := by rw [List.getElem?_map, hr]; rfl
  have hok := (h.play.full _ _ hs).ok
  have hown : r.c.hasL r.s (i : Int) = keysL r.s.has (i : Int) := SC.own_yes ⟨by omega, by rw [c1]; omega, by rw [c2, c3, natmod]⟩ _
  have hsn := h.play.snd r.s (List.mem_of_getElem? hs)
  obtain ⟨na', ca', e'⟩ := (OwnsQ.ofRow h.ptr).form
  simp only [Value.slice.injEq] at e'
  obtain ⟨-, rfl, -⟩ := e'
  refine ⟨r.G, r.F, r.g, r.c, r.s, ?_, h.game.peers.at_ r hrm, by rw [c1, c2, c3]; exact hok, ?_, fun o ho => ?_, fun hfl => ?_⟩
  · rw [Addr.add_lit, Nat.zero_add]
    exact own_get h.ptr _ (by rw [List.getElem?_map, hr]; rfl)
  · rw [hown]
    refine chkE_zero.2 ⟨fun o ho => ?_, keysL_srt _ _⟩
    have := (keysL_in ho).2
    omega
  · rw [hown] at ho
    have := hsn.has _ (keysL_in ho).1
    simpa using this
  · rw [hown]
    have hp := h.play
    rw [hf hfl] at hp
    rw [hp.done hL hw (by rw [List.length_map]; exact hlen) (by omega) (by omega) hs]
noncomputable def standMes (P : PP) (k : Nat) (S : List (List Int)) (n1 : Nat) (va v : Value) (w : World) : Nat := infM fun m => ∃ (L : List SR) (ns : List NV) (os : List N2), L.length = k ∧ Stand P k S n1 w va v L ns os ∧ mass (L.map SR.s) ns = m
theorem standMes_of (hl : L.length = k) (h : Stand P k S n1 w va v L ns os) : ∃ L ns os, L.length = k ∧ Stand P k S n1 w va v L ns os ∧ mass (L.map SR.s) ns = standMes P k S n1 va v w :=
  (infM_of (p := fun m => ∃ (L : List SR) (ns : List NV) (os : List N2), L.length = k ∧ Stand P k S n1 w va v L ns os ∧ mass (L.map SR.s) ns = m) ⟨_, L, ns, os, hl, h, rfl⟩).1
theorem standMes_le (hl : L.length = k) (h : Stand P k S n1 w va v L ns os) : standMes P k S n1 va v w ≤ mass (L.map SR.s) ns :=
  (infM_of (p := fun m => ∃ (L : List SR) (ns : List NV) (os : List N2), L.length = k ∧ Stand P k S n1 w va v L ns os ∧ mass (L.map SR.s) ns = m) ⟨_, L, ns, os, hl, h, rfl⟩).2 _ ⟨L, ns, os, hl, h, rfl⟩
theorem NotesO.left {w1 w2 w3 : World} {v2 v3 : Value} (h : NotesO n1 w v ns os) (q : Nat) (x1 : Ext w w1) (k2 : Ext w1 w2) (k3 : Keep (fun b => v2.ownBlock = some b) w2 w3) (h2 : w2.ownsRow n1 57 3 v2 q ((os.take q).flatMap N2.cells)) (hq : q < ns.length) (h3 : w3.ownsRow n1 57 3 v3 (q + (ns.length - (q + 1))) ((os.take q).flatMap N2.cells ++ (os.drop (q + 1)).flatMap N2.cells)) : NotesO n1 w3 v3 (ns.take q ++ ns.drop (q + 1)) (os.take q ++ os.drop (q + 1)) := by
  have hl := h.len
  refine ⟨?_, ?_, fun x hx => ?_⟩
  · rw [List.length_append, List.length_take, List.length_drop, Nat.min_eq_left (by omega), List.flatMap_append]
    exact h3
  · rw [List.map_append, List.map_take, List.map_drop, h.eq]
  · have hm : x ∈ os := (List.mem_append.1 hx).elim List.mem_of_mem_take List.mem_of_mem_drop
    refine own_off (own_ext (own_ext (h.nums x hm) x1) k2) k3 fun b hb => ?_
    obtain ⟨c, hc⟩ := own_ty h2 hb
    exact off_of hc (by decide)
end
def TookN (w3 : World) (G Fj : Nat → Prop) (g : Nat) (c : SC) (s : SH) (x : NV) (v : Value) (w' : World) : Prop :=
  ∃ (u : Value) (t : SH) (os : List N2) (F' : Nat → Prop), v = .tuple #[u, .nilIface] ∧ Runs c.P (c.me : Nat) (c.k : Nat) (s.push x) t ∧ t.todo = [] ∧ ShAt w' G F' g c { t with out := [] } ∧ NotesR w' F' u t.out os ∧ (∀ b, Fj b → F' b) ∧ (∀ b, IsInt w' b → F' b) ∧ Keep (fun b => ¬ Fj b) w3 w'
theorem TookN.ext {w3 w w' : World} {G Fj : Nat → Prop} {g : Nat} {c : SC} {s : SH} {x : NV} {v : Value} (h : TookN w3 G Fj g c s x v w) (y : Ext w w') : TookN w3 G Fj g c s x v w' := by
  obtain ⟨u, t, os, F', h1, h2, h3, h4, h5, h6, h7, h8⟩ := h
  refine ⟨u, t, os, _, h1, h2, h3, h4.frz y, ⟨h5.row.ext y, h5.eq, fun z hz => own_ext (h5.nums z hz) y, fun b hb => .inl (h5.fr b hb), fun z hz b hb => .inl (h5.fn z hz b hb)⟩, fun b hb => .inl (h6 b hb), fun b hb => ?_, h8.ext_r y⟩
  rcases Nat.lt_or_ge b w.heap.size with h9 | h9
  · exact .inl (h7 b (hb.back y h9))
  · exact .inr ⟨h9, hb.lt⟩
theorem to_nat {P : PP} {k : Nat} {x : NV} (hk : 1 ≤ k) (h : NOk P (k : Nat) x) : ∃ j : Nat, j < k ∧ x.to = (j : Int) := by
  have e : 0 ≤ x.to ∧ x.to < (k : Int) := by
    rcases h.is with ⟨_, n, _, _, _, h3, _⟩ | ⟨_, a, _, _, _, h3, _⟩
    · rw [h3]
      exact ⟨Int.emod_nonneg _ (by omega), Int.emod_lt_of_pos _ (by omega)⟩
    · rw [h3]
      exact ⟨Int.emod_nonneg _ (by omega), Int.emod_lt_of_pos _ (by omega)⟩
  obtain ⟨j, hj⟩ := Int.eq_ofNat_of_zero_le e.1
  exact ⟨j, by omega, hj⟩
theorem nok_cons {P : PP} {k : Int} {x : NV} (h : NOk P k x) : ∃ y l, x.nums = y :: l := by
  rcases h.is with ⟨_, n, l, h2, _⟩ | ⟨_, a, b, h2, _⟩
  · exact ⟨n, l, h2⟩
  · exact ⟨a, [b], h2⟩
section
variable {P : PP} {k n1 : Nat} {S : List (List Int)} {w w3 : World} {va v v3 : Value} {L : List SR} {ns ns3 : List NV} {os os3 : List N2}
theorem phi_mass {ss : List SH} {ns : List NV} {s : SH} (h : s ∈ ss) : s.phi ≤ mass ss ns := by
  unfold mass
  induction ss with
  | nil => cases h
  | cons x l ih =>
    rw [List.map_cons, List.sum_cons]
    rcases List.mem_cons.1 h with rfl | h
    · omega
    · have := ih h
      omega
theorem Stand.takes (h : Stand P k S n1 w va v L ns os) (x3 : Ext w w3) (hn : NotesO n1 w3 v3 ns3 os3) (ho3 : ∀ b, v3.ownBlock = some b → w.heap.size ≤ b) {j q : Nat} {r : SR} (hj : L[j]? = some r) {kd x0 : Int} {l : List Int} (hq : ns[q]? = some ⟨(j : Int), kd, x0 :: l⟩) (hm : mass (L.map SR.s) ns ≤ 120000000) {xv : Value} (hv : IRow 0 w3 xv (x0 :: l)) (w5 : World) (x5 : Ext w3 w5) :
    Calls Tryz.prog 31 #[.pointer (some ⟨r.g, 0, none⟩), .int .u8 kd, xv] w5 fun e w' => ∃ u, e = .returned u ∧ TookN w5 r.G (r.grow w.heap.size w3.heap.size).F r.g r.c r.s ⟨(j : Int), kd, x0 :: l⟩ u w' := by
  obtain ⟨t1, t2, t3, t4, t5, _, _, t8, _⟩ := h.ready x3 hn ho3 hj
  obtain ⟨hok, hl2⟩ := h.play.nok _ (List.mem_of_getElem? hq)
  have hok' : NOk r.c.P (r.c.k : Nat) ⟨(r.c.me : Nat), kd, x0 :: l⟩ := by rw [t3, t4, t5]; exact hok
  obtain ⟨hb, hk⟩ := bnd_of hok'
  have hph := phi_mass (ns := ns) (List.mem_of_getElem? t8)
  refine (shardtake_good r.c r.s kd xv x0 l w5 r.G _ r.g (t1.ext x5) t2 (own_ext hv x5) hk hb (by simp only [List.length_cons] at hl2; omega) (by omega)).mono ?_
  rintro e w' ⟨u, t, os2, F', rfl, h1, h2, h3, h4, h5, h6, h7⟩
  rw [t4] at h1
  refine ⟨_, rfl, u, t, os2, F', rfl, ?_, h2, h3, h4, h5, h6, h7⟩
  rw [t4]
  exact h1
theorem Stand.next {n : Nat} (h : Stand P k S n1 w va v L ns os) (hL : LeastAt P n S) (hw : P.Well) (hlen : L.length = k) (x3 : Ext w w3) {q j : Nat} {x : NV} (hn : NotesO n1 w3 v3 (ns.take q ++ ns.drop (q + 1)) os3) (ho3 : ∀ b, v3.ownBlock = some b → w.heap.size ≤ b) {r : SR} (hj : L[j]? = some r) (hq : ns[q]? = some x) (hto : x.to = (j : Nat)) {w4 w5 w6 : World} {t : SH} {os2 : List N2} {F' : Nat → Prop}
    (h1 : Runs r.c.P (r.c.me : Nat) (r.c.k : Nat) (r.s.push x) t) (h2 : t.todo = []) (h3 : ShAt w4 r.G F' r.g r.c { t with out := [] }) (h4 : ∀ b, (r.grow w.heap.size w3.heap.size).F b → F' b) (h5 : ∀ b, IsInt w4 b → F' b) (k4 : Keep (fun b => ¬ (r.grow w.heap.size w3.heap.size).F b) w3 w4) (x5 : Ext w4 w5)
    {v6 : Value} (k6 : Keep (fun b => v3.ownBlock = some b) w5 w6) (h6 : NotesO n1 w6 v6 ((ns.take q ++ ns.drop (q + 1)) ++ t.out) (os3 ++ os2)) (o6 : ∀ b, v6.ownBlock = some b → v3.ownBlock = some b ∨ w5.heap.size ≤ b) :
    ∃ L6, L6.length = k ∧ Stand P k S n1 w6 va v6 L6 ((ns.take q ++ ns.drop (q + 1)) ++ t.out) (os3 ++ os2) ∧ mass (L6.map SR.s) ((ns.take q ++ ns.drop (q + 1)) ++ t.out) < mass (L.map SR.s) ns := by
  obtain ⟨_, _, c1, c2, c3, _, _, hs, _⟩ := h.ready x3 hn ho3 hj
  rw [c1, c2, c3] at h1
  obtain ⟨p1, p2⟩ := h.play.take hL hw hq hs hto h1 h2
  obtain ⟨L4, b4, e4, l4⟩ := h.taken x3 hn ho3 hj k4 h3 ⟨h2, rfl⟩ h4 h5
  have b6 := (b4.ext x5).turn k6 h6 o6
  refine ⟨_, by rw [List.length_map, List.length_map, l4, hlen], b6.stand (by rw [grow_s, grow_s, e4]; exact p1), by rw [grow_s, grow_s, e4]; exact p2⟩
theorem Stand.outs (h : Stand P k S n1 w va v L ns os) (hw : P.Well) (hk : 1 ≤ k) (x3 : Ext w w3) (hn : NotesO n1 w3 v3 ns3 os3) (ho3 : ∀ b, v3.ownBlock = some b → w.heap.size ≤ b) {q j : Nat} {x : NV} {r : SR} (hj : L[j]? = some r) (hq : ns[q]? = some x) (hto : x.to = (j : Nat)) (hm : mass (L.map SR.s) ns ≤ 120000000) {w4 : World} {t : SH} {F' : Nat → Prop}
    (h1 : Runs r.c.P (r.c.me : Nat) (r.c.k : Nat) (r.s.push x) t) (h2 : t.todo = []) (h3 : ShAt w4 r.G F' r.g r.c { t with out := [] }) (h4 : ∀ b, (r.grow w.heap.size w3.heap.size).F b → F' b) (h5 : ∀ b, IsInt w4 b → F' b) (k4 : Keep (fun b => ¬ (r.grow w.heap.size w3.heap.size).F b) w3 w4) :
    (∀ y ∈ t.out, y.to ≠ (j : Int) ∧ 0 ≤ y.to ∧ y.to < (k : Int)) ∧ t.out.length ≤ 120000001 ∧ NotesO n1 w4 v3 ns3 os3 := by
  obtain ⟨_, _, c1, c2, c3, _, _, hs, _⟩ := h.ready x3 hn ho3 hj
  rw [c1, c2, c3] at h1
  obtain ⟨L4, b4, _, _⟩ := h.taken x3 hn ho3 hj k4 h3 ⟨h2, rfl⟩ h4 h5
  have hok := h1.ok hw (push_ok (h.play.full j r.s hs).ok (h.play.nok _ (List.mem_of_getElem? hq)).1 hto)
  have hph := phi_mass (ns := ns) (List.mem_of_getElem? hs)
  have h6 := push_phi r.s x
  have h7 := phi_load t
  exact ⟨out_apart hk hok.1, by omega, b4.notes⟩
end
theorem Src.none3 (w : World) (a : Addr) {os : List N2} {q nn : Nat} (h : nn ≤ q + 1) (hl : os.length = nn) : Src w (some a) (nn - (q + 1)) 3 ((os.drop (q + 1)).flatMap N2.cells) := by
  have h1 : os.drop (q + 1) = [] := List.drop_of_length_le (by omega)
  rw [h1]
  exact ⟨by simp; omega, fun _ => ⟨_, rfl⟩, fun x _ j u hu => by simp at hu, fun u hu => by simp at hu⟩
end Go.Proofs.YtbagppdibncfdaaGreatDoor
