/- Texts of one proof, put together: WE ZZZO WF VB Y1 Y2. -/
import Derived.Test.YtamblahkckaaaaaDoorHPB04
import Derived.Test.YtamblahkckaaaaaDoorHPB05
import Derived.Test.YtamblahkckaaaaaDoorHPB06
import Derived.Test.YtamblahkckaaaaaDoorHPB07
import Derived.ProofKit
import Derived.OpenShut
import Derived.Lib.SmallJoins
import Derived.Deep.Slices
import Derived.Test.YtamblahkckaaaaaDoorHPB01
set_option linter.unusedSimpArgs false
set_option linter.unusedVariables false
namespace Go.Proofs.YtamblahkckaaaaaDoor
open Go Go.RowKit
def PP.newsN (P : PP) (k : Nat) : Nat := ((List.range k).filter P.isNew).length
theorem PP.newsN_succ (P : PP) (k : Nat) : P.newsN (k + 1) = P.newsN k + if P.isNew k then 1 else 0 := by
  unfold PP.newsN
  rw [List.range_succ, List.filter_append, List.length_append]
  congr 1
  by_cases h : P.isNew k <;> simp [h]
theorem PP.newsN_le (P : PP) (k : Nat) : P.newsN k ≤ k := by
  unfold PP.newsN
  have := List.length_filter_le P.isNew (List.range k)
  simpa using this
def PP.nodesV (P : PP) : Nat := P.vars.length + P.newsN P.stmts.length
def PP.placeV (P : PP) (k : Int) : Int := if 0 ≤ k ∧ k < P.stmts.length ∧ P.isNew k.toNat = true then ((P.vars.length + P.newsN k.toNat : Nat) : Int) else -1
theorem isNew_at {P : PP} {k : Nat} {x : PS} (h : P.stmts[k]? = some x) : P.isNew k = x.isK kNew := by unfold PP.isNew; rw [h]
def PP.vN (P : PP) (n : Int) : ByteArray := P.vars.getD n.toNat ⟨#[]⟩
def PP.fN (P : PP) (n : Int) : ByteArray := match P.funs[n.toNat]? with | some f => f.name | none => ⟨#[]⟩
def PP.listT (P : PP) (l : List Int) : List UInt8 := Lib.join (l.map fun n => (P.vN n).data.toList) [44, 32]
def kB (l : List UInt8) : ByteArray := ⟨l.toArray⟩
def PP.stmtT (P : PP) (s : PS) : List UInt8 :=
  let x := (P.vN s.x).data.toList
  let y := (P.vN s.y).data.toList
  if (s.kind.toList == [110, 101, 119]) = true then x ++ [32, 61, 32, 110, 101, 119]
  else if (s.kind.toList == [102, 117, 110]) = true then x ++ [32, 61, 32, 102, 110, 32] ++ (P.fN s.y).data.toList
  else if (s.kind.toList == [97, 100, 100, 114]) = true then x ++ [32, 61, 32, 38] ++ y
  else if (s.kind.toList == [108, 111, 97, 100]) = true then x ++ [32, 61, 32, 42] ++ y
  else if (s.kind.toList == [115, 116, 111, 114, 101]) = true then [42] ++ x ++ [32, 61, 32] ++ y
  else if (s.kind.toList == [99, 97, 108, 108]) = true then x ++ [32, 61, 32, 99, 97, 108, 108, 32] ++ y ++ [40] ++ P.listT s.args ++ [41]
  else x ++ [32, 61, 32] ++ y
def PP.varT (v : ByteArray) : List UInt8 := [118, 97, 114, 32] ++ v.data.toList ++ [10]
def PP.funT (P : PP) (f : PF) : List UInt8 := [102, 110, 32] ++ f.name.data.toList ++ [40] ++ P.listT f.params ++ [41, 32] ++ (P.vN f.ret).data.toList ++ [10]
def PP.text (P : PP) : List UInt8 := P.vars.flatMap PP.varT ++ P.funs.flatMap P.funT ++ P.stmts.flatMap fun s => P.stmtT s ++ [10]
theorem StrsR.vat {w : World} {n0 : Nat} {a : Option Addr} {n cap : Nat} {P : PP} (h : StrsR w n0 (.slice a n cap) P.vars) {k : Nat} (hk : k < P.vars.length) : ∃ y, a = some y ∧ w.cell? (y.add k) = some (.string (P.vN (k : Int))) := by
  obtain ⟨y, q, h1, h2, h3⟩ := h.at hk
  refine ⟨y, h1, ?_⟩
  rw [h3]
  unfold PP.vN
  rw [Int.toNat_natCast, List.getD_eq_getElem?_getD, h2]
  rfl
def nameS (P : PP) (l : List Int) : List ByteArray := l.map P.vN
theorem nameS_next {P : PP} {l : List Int} {k : Nat} {x : Int} (h : l[k]? = some x) : (nameS P (l.take (k + 1))).map Value.string = (nameS P (l.take k)).map Value.string ++ [.string (P.vN x)] := by
  unfold nameS; rw [List.take_add_one, h, List.map_append, List.map_append]; rfl
theorem join_len (sep : List UInt8) (m : Nat) : ∀ ps : List (List UInt8), (∀ p ∈ ps, p.length ≤ m) → (Lib.join ps sep).length ≤ (m + sep.length) * ps.length
  | [], _ => by simp [Lib.join, List.intercalate]
  | [x], h => by rw [Lib.join_one]; have := h x (List.mem_cons_self ..); simp; omega
  | x :: y :: r, h => by
    have h1 := h x (List.mem_cons_self ..)
    have h2 := join_len sep m (y :: r) fun p hp => h p (List.mem_cons_of_mem _ hp)
    rw [join_two, List.length_append, List.length_append, List.length_cons, Nat.mul_succ]
    rw [List.length_cons] at h2 ⊢
    omega
theorem vN_small {P : PP} (hP : ∀ s ∈ P.vars, s.size ≤ 20) (n : Int) : (P.vN n).size ≤ 20 := by
  unfold PP.vN
  rw [List.getD_eq_getElem?_getD]
  cases h : P.vars[n.toNat]? with
  | none => exact Nat.zero_le _
  | some s => exact hP s (List.mem_of_getElem? h)
theorem listT_small {P : PP} (hP : ∀ s ∈ P.vars, s.size ≤ 20) {l : List Int} (hl : l.length ≤ 8) : (P.listT l).length ≤ 176 := by
  have := join_len [44, 32] 20 (l.map fun n => (P.vN n).data.toList) (fun p hp => by
    obtain ⟨n, _, rfl⟩ := List.mem_map.1 hp
    rw [bs_list]
    exact vN_small hP n)
  rw [List.length_map] at this
  unfold PP.listT
  simp only [List.length_cons, List.length_nil] at this
  omega
set_option maxRecDepth 100000 in
set_option maxHeartbeats 1600000 in
theorem proglist_any (a1 a2 a3 : Option Addr) (c1 c2 c3 : Nat) (P : PP) (v : Value) (l : List Int) (w : World) (n0 : Nat) (h : ProgR w n0 (.slice a1 P.vars.length c1) (.slice a2 P.funs.length c2) (.slice a3 P.stmts.length c3) P) (hP : ∀ s ∈ P.vars, s.size ≤ 20) (hv : P.vars.length ≤ 1000) (hl : IntsR w n0 v l) (h8 : l.length ≤ 8) (hin : ∀ x ∈ l, 0 ≤ x ∧ x < P.vars.length) :
    Calls Tryd.prog 21 #[pval a1 a2 a3 c1 c2 c3 P, v] w fun e w' => ∃ t : ByteArray, e = .returned (.string t) ∧ t.toList = P.listT l ∧ Ext w w' := by
  obtain ⟨W, hW⟩ : ∃ W, W = w.alloc (.cells (pcells a1 a2 a3 c1 c2 c3 P) 26) := ⟨_, rfl⟩
  have hxW : Ext w W := by rw [hW]; exact (Ext.refl _).alloc _
  have HBl : Hid (Blk W w.heap.size (pcells a1 a2 a3 c1 c2 c3 P) 26) := hid (by rw [hW]; exact Blk.new _ _ _)
  have HP := hid (h.ext hxW)
  have HS := hid (hl.old (hxW.old n0))
  have HxW := hid hxW
  have HW := hid hW
  have Hin := hid hin
  have Hsm := hid hP
  obtain ⟨a, cap, rfl, _⟩ := id hl
  unfold pval
  unfold pcells at HW
  clear h hl hW hxW hin hP
  go_enter Tryd.func21, Tryd.ntmps21
  go_wp2
  rw [← HW.out]
  go_loopw [5, 10] (fun t5 t10 wr => ∃ (k : Nat) (vs : List Value), t10 = .int .i64 (k : Int) ∧ k ≤ l.length ∧ vs = (nameS P (l.take k)).map .string ∧ wr.ownsRow W.heap.size 9 1 t5 k vs ∧ Ext W wr) (fun _ t10 _ => l.length - (intOf t10).toNat)
  case atStart => exact ⟨0, [], rfl, Nat.zero_le _, rfl, World.ownsRow_nil _ _ _ _, Ext.refl _⟩
  case round =>
    obtain ⟨k, vs, rfl, hk, hvs, hr, hx⟩ := hrel
    obtain ⟨a3', c3', rfl⟩ := row_form hr
    have Hr := hid hr
    have Hx := hid hx
    have Hvs := hid hvs
    clear hr hx hvs
    by_cases hlt : k < l.length
    · obtain ⟨y, q, hy, hq, hc⟩ := (HS.out.old (Hx.out.old n0)).at hlt
      subst hy
      have hqr := Hin.out q (List.mem_of_getElem? hq)
      obtain ⟨m, rfl⟩ : ∃ m : Nat, q = m := ⟨q.toNat, by omega⟩
      obtain ⟨yv, hyv, hcv⟩ := (HP.out.ext Hx.out).vars.vat (k := m) (by omega)
      subst hyv
      have d0 := (HBl.out.ext Hx.out).av 0 rfl
      simp only [pcells, qA0, qA1] at d0
      have Hn := hid (nameS_next (P := P) hq)
      obtain ⟨d, hd⟩ : ∃ d, d = P.vN (m : Int) := ⟨_, rfl⟩
      rw [← hd] at hcv Hn
      have Hn2 : Hid ((nameS P (l.take (k + 1))).map Value.string = vs ++ [.string d]) := hid (by rw [Hn.out, Hvs.out])
      have hm : m < P.vars.length := by omega
      have hxa : Hid (Ext W (wr.alloc (.cells #[.string d] 9))) := hid (Hx.out.alloc _)
      have Hra := hid (own_ext Hr.out ((Ext.refl wr).alloc (.cells #[.string d] 9)))
      clear hq hqr hd
      go_wp2_with (at_builtin; refine wpList_append_el W.heap.size hxa.out.size 22 9 (.string ⟨#[]⟩) 1 16 Tryd.underlying22 str_info rfl (by omega) (by omega) rfl _ _ rfl (.slice a3' k c3') k vs rfl Hra.out wr.heap.size [.string d] rfl (by simp [Value.oneCell']) rfl (Blk.new _ _ _) (by omega) ?_; intro v' w' h1 h2 h4; obtain ⟨a', c', rfl⟩ := row_form h1; have h3 := hid (Keep.new hxa.out h2 (fun k hk => (World.ownsRow.lt Hra.out k hk).1)); have h1 := hid h1; clear h2 h4)
      go_roundw
      case rel => exact ⟨k + 1, _, by go_num, by omega, rfl, by rw [Hn2.out]; exact h1.out, h3.out⟩
      case measure => simp [intOf]; omega
    · obtain rfl : k = l.length := by omega
      have hfull : vs = (nameS P l).map .string := by rw [Hvs.out, List.take_of_length_le (Nat.le_refl _)]
      have hnl : (nameS P l).length = l.length := by unfold nameS; rw [List.length_map]
      have hjl : (Lib.join ((nameS P l).map (·.data.toList)) [44, 32]) = P.listT l := by
        unfold PP.listT nameS
        rw [List.map_map]
        rfl
      rcases Nat.eq_zero_or_pos l.length with h0 | h0
      · have hle : l = [] := List.eq_nil_of_length_eq_zero h0
        have HJ := hid (show Calls Tryd.prog 38 #[.slice a3' l.length c3', .string ⟨#[44, 32]⟩] wr (fun e w' => e = .returned (.string ⟨#[]⟩) ∧ w' = wr) by rw [h0]; exact Tryd.strings_Join_none a3' c3' ⟨#[44, 32]⟩ wr)
        have Hle := hid hle
        clear hfull hnl hle h0 hk hlt hjl
        go_wp2_with fail
        refine HJ.out.mono ?_
        intro e w2 hx
        obtain ⟨rfl, rfl⟩ := hx
        clear HJ
        go_wp2
        go_ret
        refine ⟨_, rfl, ?_, HxW.out.trans Hx.out⟩
        rw [Hle.out, Lib.toList_data]
        rfl
      · obtain ⟨g, cp, e1⟩ := own_some Hr.out h0
        simp only [Value.slice.injEq, true_and] at e1
        obtain ⟨rfl, rfl⟩ := e1
        obtain ⟨cc, hcc⟩ := own_ty Hr.out (k := g) rfl
        have hcap : l.length ≤ c3' := by
          rcases Hr.out.2 with ⟨h, _⟩ | ⟨g', cap', cur, h, _, _, h5, _⟩
          · simp at h
          · simp only [Value.slice.injEq] at h; omega
        have HJ := hid (Tryd.strings_Join g 0 c3' (nameS P l) ⟨#[44, 32]⟩ wr (fun j x hj => by
          rw [Nat.zero_add]
          exact own_get Hr.out j (by rw [hfull, List.getElem?_map, hj]; rfl)) hcc.lt (by omega) (by omega) (by
            rw [show (⟨#[44, 32]⟩ : ByteArray).data.toList = [44, 32] from rfl, hjl]
            exact Nat.le_trans (listT_small Hsm.out h8) (by decide)))
        rw [hnl, show (⟨#[44, 32]⟩ : ByteArray).data.toList = [44, 32] from rfl, hjl] at HJ
        clear hcc hcap hfull hnl hjl
        go_wp2_with fail
        refine HJ.out.mono ?_
        intro e w2 hx
        obtain ⟨rfl, hx2⟩ := hx
        have Hx2 := hid (HxW.out.trans (Hx.out.trans hx2))
        clear HJ hx2
        go_wp2
        go_ret
        exact ⟨_, rfl, by rw [Lib.toList_data], Hx2.out⟩
set_option maxRecDepth 100000 in
set_option maxHeartbeats 3200000 in
theorem prognodes2_any (a1 a2 a3 : Option Addr) (c1 c2 c3 : Nat) (P : PP) (w : World) (n0 : Nat) (h : ProgR w n0 (.slice a1 P.vars.length c1) (.slice a2 P.funs.length c2) (.slice a3 P.stmts.length c3) P) (hv : P.vars.length ≤ 1000) (hs : P.stmts.length ≤ 1000) :
    Calls Tryd.prog 29 #[pval a1 a2 a3 c1 c2 c3 P] w fun e w' => e = .returned (.int .i64 (P.nodesV : Int)) ∧ Ext w w' := by
  have HP0 := hid h
  have hml1 : (P.vars.length : Int) ≤ 1000 := by omega
  obtain ⟨W, hW⟩ : ∃ W, W = w.alloc (.cells (pcells a1 a2 a3 c1 c2 c3 P) 26) := ⟨_, rfl⟩
  have HX : Hid (Ext w W) := hid (by rw [hW]; exact (Ext.refl _).alloc _)
  have hB : Blk W w.heap.size (pcells a1 a2 a3 c1 c2 c3 P) 26 := by rw [hW]; exact Blk.new _ _ _
  have HP := hid (h.ext HX.out)
  have d0 := hB.av 0 rfl
  have d2 := hB.av 2 rfl
  simp only [pcells, qA0, qA1, qA2] at d0 d2
  unfold pcells at hW
  have HWe := hid hW
  unfold pval
  clear hW hB h
  go_enter Tryd.func29, Tryd.ntmps29
  go_wp2
  rw [← HWe.out]
  go_loopw [3, 12] (fun tn ti wr => ∃ k : Nat, ti = .int .i64 (k : Int) ∧ k ≤ P.stmts.length ∧ tn = .int .i64 ((P.vars.length + P.newsN k : Nat) : Int) ∧ Ext W wr) (fun _ ti _ => P.stmts.length - (intOf ti).toNat)
  case atStart => exact ⟨0, rfl, Nat.zero_le _, rfl, Ext.refl _⟩
  case round =>
    obtain ⟨k, rfl, hk, rfl, hx⟩ := hrel
    have Hx := hid hx
    clear hx
    have Hle := hid (P.newsN_le k)
    have Hsu := hid (P.newsN_succ k)
    by_cases hlt : k < P.stmts.length
    · obtain ⟨yk, x, av, cv, hyk, hxk, e0, e1, e2, e3, _⟩ := (HP0.out.ext ((HX).out.trans Hx.out)).stmts.at (show k < P.stmts.length by omega)
      first | subst hyk | (obtain rfl := Option.some.inj hyk)
      have hnw := isNew_at hxk
      have hcn : ((P.vars.length + P.newsN k : Nat) : Int) ≤ 100000 := by have := Hle.out; omega
      cases hb : (x.kind.toList == [110, 101, 119]) with
      | true =>
        have Hn2 := hid (show P.newsN (k + 1) = P.newsN k + 1 by rw [Hsu.out, hnw.trans hb]; rfl)
        clear hxk hnw
        generalize P.newsN k = m at *
        go_wp2
        go_roundw
        case rel => exact ⟨k + 1, by go_num, by omega, by rw [Hn2.out]; go_num, Hx.out.alloc _⟩
        case measure => simp [intOf]; omega
      | false =>
        have Hn2 := hid (show P.newsN (k + 1) = P.newsN k by rw [Hsu.out, hnw.trans hb]; rfl)
        clear hxk hnw
        go_wp2
        go_roundw
        case rel => exact ⟨k + 1, by go_num, by omega, by rw [Hn2.out], Hx.out.alloc _⟩
        case measure => simp [intOf]; omega
    · obtain rfl : k = P.stmts.length := by omega
      go_wp2
      go_ret
      exact ⟨rfl, HX.out.trans Hx.out⟩
def PP.Well (P : PP) : Prop := P.err1 = 0 ∧ P.allWell
theorem PP.Well.few {P : PP} (h : P.Well) : P.vars.length ≤ 40 ∧ P.funs.length ≤ 6 ∧ P.stmts.length ≤ 80 := by
  have h1 := h.1
  unfold PP.err1 at h1
  cases hb : P.big with
  | true => rw [hb] at h1; simp at h1
  | false => unfold PP.big at hb; simp at hb; omega
theorem check_well {a1 a2 a3 : Option Addr} {c1 c2 c3 : Nat} {P : PP} {w : World} {n0 : Nat} {ad : Nat → Addr} (hE : ErrsP w ad) (h : ProgR w n0 (.slice a1 P.vars.length c1) (.slice a2 P.funs.length c2) (.slice a3 P.stmts.length c3) P)
    (hz1 : ∀ s ∈ P.vars, s.size ≤ 1000000) (hz2 : ∀ s ∈ P.names, s.size ≤ 1000000) (hw : P.Well) :
    Calls Tryd.prog 7 #[pval a1 a2 a3 c1 c2 c3 P] w fun e w' => e = .returned .nilIface ∧ Ext w w' := by
  have hml : (P.vars.length : Int) ≤ 9223372036854775807 := by have := hw.few; omega
  refine (pcheck_any a1 a2 a3 c1 c2 c3 P w n0 ad hE h hz1 hz2 hml).mono fun e w' ⟨v, he, hi, hx⟩ => ⟨?_, hx⟩
  rcases hi.form with ⟨rfl, _⟩ | ⟨_, hn⟩
  · exact he
  · exact absurd hw hn
set_option maxRecDepth 100000 in
set_option maxHeartbeats 3200000 in
theorem prognodes_any (a1 a2 a3 : Option Addr) (c1 c2 c3 : Nat) (P : PP) (w : World) (n0 : Nat) (ad : Nat → Addr) (hE : ErrsP w ad) (h : ProgR w n0 (.slice a1 P.vars.length c1) (.slice a2 P.funs.length c2) (.slice a3 P.stmts.length c3) P)
    (hz1 : ∀ s ∈ P.vars, s.size ≤ 1000000) (hz2 : ∀ s ∈ P.names, s.size ≤ 1000000) (hw : P.Well) :
    Calls Tryd.prog 12 #[pval a1 a2 a3 c1 c2 c3 P] w fun e w' => e = .returned (.int .i64 (P.nodesV : Int)) ∧ Ext w w' := by
  have HP00 := hid h
  have hv := hw.few
  obtain ⟨hv1, hv2, hv3⟩ := hv
  have hv : P.vars.length ≤ 1000 := by omega
  have hs : P.stmts.length ≤ 1000 := by omega
  have HP0 := hid h
  have hml1 : (P.vars.length : Int) ≤ 1000 := by omega
  obtain ⟨W, hW⟩ : ∃ W, W = w.alloc (.cells (pcells a1 a2 a3 c1 c2 c3 P) 26) := ⟨_, rfl⟩
  have HX : Hid (Ext w W) := hid (by rw [hW]; exact (Ext.refl _).alloc _)
  have hB : Blk W w.heap.size (pcells a1 a2 a3 c1 c2 c3 P) 26 := by rw [hW]; exact Blk.new _ _ _
  have HP := hid (h.ext HX.out)
  have d0 := hB.av 0 rfl
  have d2 := hB.av 2 rfl
  simp only [pcells, qA0, qA1, qA2] at d0 d2
  unfold pcells at hW
  have HWe := hid hW
  unfold pval
  clear hW hB h
  have HK := hid (check_well (hE.ext HX.out) HP.out hz1 hz2 hw)
  unfold pval at HK
  have HBx := hid (show Blk W w.heap.size (pcells a1 a2 a3 c1 c2 c3 P) 26 by rw [HWe.out]; exact Blk.new _ _ _)
  have HN := fun w1 (x : Ext w w1) => hid (prognodes2_any a1 a2 a3 c1 c2 c3 P w1 n0 (HP0.out.ext x) hv hs)
  unfold pval at HN
  clear d0 d2
  go_enter Tryd.func12, Tryd.ntmps12
  go_wp2_with fail
  rw [← HWe.out]
  refine HK.out.mono ?_
  intro e w1 hx
  obtain ⟨rfl, hx1⟩ := hx
  have HX1 := hid (HX.out.trans hx1)
  have d0 := (HBx.out.ext hx1).av 0 rfl
  have d1 := (HBx.out.ext hx1).av 1 rfl
  have d2 := (HBx.out.ext hx1).av 2 rfl
  simp only [pcells, qA0, qA1, qA2] at d0 d1 d2
  clear HK hx1
  go_wp2_with fail
  refine (HN w1 HX1.out).out.mono ?_
  intro e w2 hx
  obtain ⟨rfl, hx2⟩ := hx
  clear HN d0 d1 d2
  go_wp2
  go_ret
  exact ⟨rfl, HX1.out.trans hx2⟩
set_option maxRecDepth 100000 in
set_option maxHeartbeats 3200000 in
theorem progplace_any (a1 a2 a3 : Option Addr) (c1 c2 c3 : Nat) (P : PP) (p : Int) (w : World) (n0 : Nat) (ad : Nat → Addr) (hE : ErrsP w ad) (h : ProgR w n0 (.slice a1 P.vars.length c1) (.slice a2 P.funs.length c2) (.slice a3 P.stmts.length c3) P)
    (hz1 : ∀ s ∈ P.vars, s.size ≤ 1000000) (hz2 : ∀ s ∈ P.names, s.size ≤ 1000000) (hw : P.Well) :
    Calls Tryd.prog 11 #[pval a1 a2 a3 c1 c2 c3 P, .int .i64 p] w fun e w' => e = .returned (.int .i64 (P.placeV p)) ∧ Ext w w' := by
  have hc3 : P.stmts.length ≤ c3 := by
    obtain ⟨_, _, e, h2, _⟩ := h.stmts
    simp only [Value.slice.injEq] at e
    obtain ⟨_, _, rfl⟩ := e
    exact h2
  have HP00 := hid h
  have hv := hw.few
  obtain ⟨hv1, hv2, hv3⟩ := hv
  have hv : P.vars.length ≤ 1000 := by omega
  have hs : P.stmts.length ≤ 1000 := by omega
  have HP0 := hid h
  have hml1 : (P.vars.length : Int) ≤ 1000 := by omega
  obtain ⟨W, hW⟩ : ∃ W, W = w.alloc (.cells (pcells a1 a2 a3 c1 c2 c3 P) 26) := ⟨_, rfl⟩
  have HX : Hid (Ext w W) := hid (by rw [hW]; exact (Ext.refl _).alloc _)
  have hB : Blk W w.heap.size (pcells a1 a2 a3 c1 c2 c3 P) 26 := by rw [hW]; exact Blk.new _ _ _
  have HP := hid (h.ext HX.out)
  have d0 := hB.av 0 rfl
  have d2 := hB.av 2 rfl
  simp only [pcells, qA0, qA1, qA2] at d0 d2
  unfold pcells at hW
  have HWe := hid hW
  unfold pval
  clear hW hB h
  have HK := hid (check_well (hE.ext HX.out) HP.out hz1 hz2 hw)
  unfold pval at HK
  have HBx := hid (show Blk W w.heap.size (pcells a1 a2 a3 c1 c2 c3 P) 26 by rw [HWe.out]; exact Blk.new _ _ _)
  clear d0 d2
  go_enter Tryd.func11, Tryd.ntmps11
  go_wp2_with fail
  rw [← HWe.out]
  refine HK.out.mono ?_
  intro e w1 hx
  obtain ⟨rfl, hx1⟩ := hx
  have HX1 := hid (HX.out.trans hx1)
  have d0 := (HBx.out.ext hx1).av 0 rfl
  have d1 := (HBx.out.ext hx1).av 1 rfl
  have d2 := (HBx.out.ext hx1).av 2 rfl
  simp only [pcells, qA0, qA1, qA2] at d0 d1 d2
  clear HK hx1
  by_cases h1 : p < 0
  · have Hr := hid (show PP.placeV P p = -1 by unfold PP.placeV; rw [if_neg (by omega)])
    go_wp2
    go_ret
    exact ⟨by rw [Hr.out]; rfl, HX1.out⟩
  · obtain ⟨K, rfl⟩ := Int.eq_ofNat_of_zero_le (show 0 ≤ p by omega)
    by_cases h2 : K < P.stmts.length
    · obtain ⟨y, x, av, cv, rfl, hxk, e0, e1, e2, e3, _⟩ := (HP0.out.ext HX1.out).stmts.at h2
      have hnw := isNew_at hxk
      have hKc : K ≤ c3 := by omega
      cases hb : (x.kind.toList == [110, 101, 119]) with
      | true =>
        have Hr := hid (show P.placeV (K : Int) = ((P.vars.length + P.newsN K : Nat) : Int) by unfold PP.placeV; rw [if_pos ⟨by omega, by omega, by rw [Int.toNat_natCast]; exact hnw.trans hb⟩, Int.toNat_natCast])
        clear hnw hxk e1 e2 e3
        go_wp2
        clear e0 hb
        go_loopw [5, 39] (fun tn ti wr => ∃ k : Nat, ti = .int .i64 (k : Int) ∧ k ≤ K ∧ tn = .int .i64 ((P.vars.length + P.newsN k : Nat) : Int) ∧ Ext w1 wr) (fun _ ti _ => K - (intOf ti).toNat)
        case atStart => exact ⟨0, rfl, Nat.zero_le _, rfl, Ext.refl _⟩
        case round =>
          obtain ⟨k, rfl, hk, rfl, hx⟩ := hrel
          have Hx := hid hx
          clear hx
          have Hle := hid (P.newsN_le k)
          have Hsu := hid (P.newsN_succ k)
          by_cases hlt : k < K
          · obtain ⟨yk, x, av, cv, hyk, hxk, e0, e1, e2, e3, _⟩ := (HP0.out.ext ((HX1).out.trans Hx.out)).stmts.at (show k < P.stmts.length by omega)
            first | subst hyk | (obtain rfl := Option.some.inj hyk)
            have hnw := isNew_at hxk
            have hcn : ((P.vars.length + P.newsN k : Nat) : Int) ≤ 100000 := by have := Hle.out; omega
            cases hb : (x.kind.toList == [110, 101, 119]) with
            | true =>
              have Hn2 := hid (show P.newsN (k + 1) = P.newsN k + 1 by rw [Hsu.out, hnw.trans hb]; rfl)
              clear hxk hnw
              generalize P.newsN k = m at *
              go_wp2
              go_roundw
              case rel => exact ⟨k + 1, by go_num, by omega, by rw [Hn2.out]; go_num, Hx.out.alloc _⟩
              case measure => simp [intOf]; omega
            | false =>
              have Hn2 := hid (show P.newsN (k + 1) = P.newsN k by rw [Hsu.out, hnw.trans hb]; rfl)
              clear hxk hnw
              go_wp2
              go_roundw
              case rel => exact ⟨k + 1, by go_num, by omega, by rw [Hn2.out], Hx.out.alloc _⟩
              case measure => simp [intOf]; omega
          · obtain rfl : k = K := by omega
            go_wp2
            go_ret
            exact ⟨by rw [Hr.out]; rfl, HX1.out.trans Hx.out⟩
      | false =>
        have hno : ¬ (0 ≤ (K : Int) ∧ (K : Int) < P.stmts.length ∧ P.isNew (K : Int).toNat = true) := by rw [Int.toNat_natCast, show P.isNew K = false from hnw.trans hb]; simp
        have Hno := hid hno
        clear hno hnw hxk e1 e2 e3
        have Hr := hid (show PP.placeV P (K : Int) = -1 by unfold PP.placeV; rw [if_neg (Hno.out)])
        go_wp2
        go_ret
        exact ⟨by rw [Hr.out]; rfl, HX1.out⟩
    · have Hr := hid (show PP.placeV P (K : Int) = -1 by unfold PP.placeV; rw [if_neg (by omega)])
      go_wp2
      go_ret
      exact ⟨by rw [Hr.out]; rfl, HX1.out⟩
end Go.Proofs.YtamblahkckaaaaaDoor
namespace Go.Proofs.YtamblahkckaaaaaDoor
open Go Go.ChangeShapes Go.WideShapes Go.ChangeAt Go.WideMaps Go.WideElems Go.RowKit Go.Joins Go.Deep
section
variable {H : Type} {enc : TypeId × Value → H} {P : Program} {w : World} {base : Nat} {spare : Nat → Bool} {held : Bool}
set_option maxRecDepth 100000 in
theorem open_agg3 {r : Reach} {b0 : Nat} {t : TypeId} {f0 f1 f2 : Field} {v : Value} {d : DataW H} {p : List MemPlace} (hs : P.underlying t = some (.struct #[f0, f1, f2])) (hone : oneCellFields P #[f0, f1, f2] = true) (hC : P.cellsOf t = 3)
    (hv : Value.okWide P w r b0 t v) (h : DataW.Trod enc P w base spare held t v d p) :
    ∃ (v0 v1 v2 : Value) (y0 y1 y2 : DataW H × List MemPlace) (n : Nat), v = .agg #[v0, v1, v2] ∧
      DataW.trod enc P w base spare held n f0.type [v0] = some y0 ∧ DataW.trod enc P w base spare held n f1.type [v1] = some y1 ∧ DataW.trod enc P w base spare held n f2.type [v2] = some y2 := by
  obtain ⟨cs, rfl, hsz⟩ := okWide_struct hs hv
  obtain ⟨l⟩ := cs
  match l, hsz.trans hC with
  | [c0, c1, c2], _ =>
    obtain ⟨fuel, hf⟩ := h
    obtain ⟨xs, n, _, hx, _, hlen, hg⟩ := DataW.trod_struct hs hf
    obtain ⟨o0, k0⟩ := hone_of hone 0 f0 rfl
    obtain ⟨o1, k1⟩ := hone_of hone 1 f1 rfl
    obtain ⟨o2, k2⟩ := hone_of hone 2 f2 rfl
    match xs, hlen with
    | [y0, y1, y2], _ =>
      exact ⟨c0, c1, c2, y0, y1, y2, n, rfl, by simpa [Value.cells, o0, k0] using hg 0 f0 rfl, by simpa [Value.cells, o1, k1] using hg 1 f1 rfl, by simpa [Value.cells, o2, k2] using hg 2 f2 rfl⟩
end
theorem cellsU_prog : Tryd.prog.cellsOf 26 = 3 := by kernel_rfl
theorem cellsU_fun : Tryd.prog.cellsOf 43 = 3 := by kernel_rfl
theorem cellsU_stmt : Tryd.prog.cellsOf 39 = 4 := by kernel_rfl
theorem cellsU_str : Tryd.prog.cellsOf 9 = 1 := by kernel_rfl
theorem cellsU_int : Tryd.prog.cellsOf 3 = 1 := by kernel_rfl
theorem cellsU_ints : Tryd.prog.cellsOf 37 = 1 := by kernel_rfl
theorem listU3 {α : Type} {l : List α} (h : l.length = 3) : ∃ c0 c1 c2, l = [c0, c1, c2] := by
  match l, h with
  | [c0, c1, c2], _ => exact ⟨c0, c1, c2, rfl⟩
theorem listU4 {α : Type} {l : List α} (h : l.length = 4) : ∃ c0 c1 c2 c3, l = [c0, c1, c2, c3] := by
  match l, h with
  | [c0, c1, c2, c3], _ => exact ⟨c0, c1, c2, c3, rfl⟩
section
variable {H : Type} {enc : TypeId × Value → H} {w : World} {base : Nat} {sp : Nat → Bool} {held : Bool} {n : Nat}
theorem add_addU (a : Addr) (i j : Nat) : (a.add i).add j = a.add (i + j) := Go.Deep.add_add a i j
theorem maxLen_eq : maxLen = 9223372036854775807 := by decide
theorem elR_of {α : Type} [Inhabited α] {t e : TypeId} {size : Nat} {v : Value} {x : DataW H × List MemPlace} (ht : Tryd.prog.underlying t = some (.slice e)) (hc : Tryd.prog.cellsOf e = size) (h0 : 0 < size) (E : Nat → Addr → α → Prop)
    (hE : ∀ (i m : Nat) (y : Addr) (cs : List Value) (z : DataW H × List MemPlace), (∀ j, j < size → w.cell? ((y.add (i * size)).add j) = cs[j]?) → cs.length = size → DataW.trod enc Tryd.prog w base sp held m e cs = some z → ∃ a, E i y a)
    (h : DataW.trod enc Tryd.prog w base sp held n t [v] = some x) : ∃ l : List α, ElR w.heap.size v l.length fun i y => ∀ a, l[i]? = some a → E i y a := by
  have hml := maxLen_eq
  rcases open_slice ht h with ⟨hcs, _⟩ | ⟨y, l, c, m, k, D, Pl, hcs, _, hl, hm, hmm, _, hx⟩
  · simp only [List.cons.injEq, and_true] at hcs
    subst hcs
    exact ⟨[], none, 0, rfl, Nat.le_refl _, by decide, fun h => absurd h (by simp), fun y hy => by cases hy⟩
  simp only [List.cons.injEq, and_true] at hcs
  subst hcs
  have hlm : l ≤ m := by rw [hmm]; split <;> omega
  have each : ∀ i, i < l → ∃ a : α, E i y a ∧ y.block < w.heap.size := by
    intro i hi
    obtain ⟨cs', h1, h2⟩ := hx i (by omega)
    rw [hc] at h1
    obtain ⟨_, hlen, hcell⟩ := World.cells?_some h1
    obtain ⟨a, ha⟩ := hE i k y cs' _ (fun j hj => hcell j hj) hlen h2
    refine ⟨a, ha, ?_⟩
    have h3 := hcell 0 h0
    obtain ⟨u, hu⟩ : ∃ u, cs'[0]? = some u := ⟨_, List.getElem?_eq_getElem (by omega)⟩
    rw [hu] at h3
    have := cell_lt h3
    rwa [add_block, add_block] at this
  obtain ⟨Z, hZ⟩ := choose_lt each
  refine ⟨(List.range l).map Z, some y, c, by simp, by simpa using hl, by omega, fun _ => ⟨_, rfl⟩, fun y' hy hp => ?_⟩
  obtain rfl := Option.some.inj hy
  have hp' : 0 < l := by simpa using hp
  refine ⟨(hZ 0 hp').2, fun i hi a ha => ?_⟩
  have hi' : i < l := by simpa using hi
  rw [List.getElem?_map, List.getElem?_range hi'] at ha
  obtain rfl := Option.some.inj ha
  exact (hZ i hi').1
set_option maxRecDepth 100000 in
theorem intsR_of {v : Value} {x : DataW H × List MemPlace} (h : DataW.trod enc Tryd.prog w base sp held n 37 [v] = some x) : ∃ l, IntsR w w.heap.size v l := by
  refine elR_of (α := Int) Tryd.underlying37 cellsU_int (by decide) (fun i y s => w.cell? (y.add i) = some (.int .i64 s)) (fun i m y cs z hc hl ht => ?_) h
  obtain ⟨k, e, _, _⟩ := DataW.trod_int Tryd.underlying3 ht
  subst e
  refine ⟨k, ?_⟩
  have := hc 0 (by decide)
  simpa [add_addU, Addr.add] using this
set_option maxRecDepth 100000 in
theorem strsR_of {v : Value} {x : DataW H × List MemPlace} (h : DataW.trod enc Tryd.prog w base sp held n 22 [v] = some x) : ∃ l, StrsR w w.heap.size v l := by
  refine elR_of (α := ByteArray) Tryd.underlying22 cellsU_str (by decide) (fun i y s => w.cell? (y.add i) = some (.string s)) (fun i m y cs z hc hl ht => ?_) h
  obtain ⟨k, e, _, _⟩ := DataW.trod_string Tryd.underlying9 ht
  subst e
  refine ⟨k, ?_⟩
  have := hc 0 (by decide)
  simpa [add_addU, Addr.add] using this
set_option maxRecDepth 100000 in
theorem funsR_of {v : Value} {x : DataW H × List MemPlace} (h : DataW.trod enc Tryd.prog w base sp held n 23 [v] = some x) : ∃ l, FunsR w w.heap.size v l := by
  have inh : Inhabited PF := ⟨⟨⟨#[]⟩, [], 0⟩⟩
  refine elR_of (α := PF) Tryd.underlying23 cellsU_fun (by decide) (fun i y f => ∃ pv, w.cell? (y.add (i * 3)) = some (.string f.name) ∧ w.cell? ((y.add (i * 3)).add 1) = some pv ∧ w.cell? ((y.add (i * 3)).add 2) = some (.int .i64 f.ret) ∧ IntsR w w.heap.size pv f.params) (fun i m y cs z hc hl ht => ?_) h
  obtain ⟨c0, c1, c2, rfl⟩ := listU3 hl
  obtain ⟨xs, k, _, _, _, hxl, hf⟩ := DataW.trod_struct Tryd.underlying43 ht
  obtain ⟨y0, y1, y2, rfl⟩ := listU3 hxl
  have g0 : DataW.trod enc Tryd.prog w base sp held k 9 [c0] = some y0 := by simpa [cellsU_str] using hf 0 _ rfl
  have g1 : DataW.trod enc Tryd.prog w base sp held k 37 [c1] = some y1 := by simpa [cellsU_ints] using hf 1 _ rfl
  have g2 : DataW.trod enc Tryd.prog w base sp held k 3 [c2] = some y2 := by simpa [cellsU_int] using hf 2 _ rfl
  obtain ⟨s, e0, _, _⟩ := DataW.trod_string Tryd.underlying9 g0
  obtain ⟨ps, hp⟩ := intsR_of g1
  obtain ⟨r, e2, _, _⟩ := DataW.trod_int Tryd.underlying3 g2
  simp only [List.cons.injEq, and_true] at e0 e2
  subst e0 e2
  exact ⟨⟨s, ps, r⟩, c1, by simpa [Addr.add] using hc 0 (by decide), hc 1 (by decide), hc 2 (by decide), hp⟩
set_option maxRecDepth 100000 in
theorem stmtsR_of {v : Value} {x : DataW H × List MemPlace} (h : DataW.trod enc Tryd.prog w base sp held n 24 [v] = some x) : ∃ l, StmtsR w w.heap.size v l := by
  have inh : Inhabited PS := ⟨⟨⟨#[]⟩, 0, 0, []⟩⟩
  refine elR_of (α := PS) Tryd.underlying24 cellsU_stmt (by decide) (fun i y f => ∃ pv, w.cell? (y.add (i * 4)) = some (.string f.kind) ∧ w.cell? ((y.add (i * 4)).add 1) = some (.int .i64 f.x) ∧ w.cell? ((y.add (i * 4)).add 2) = some (.int .i64 f.y) ∧ w.cell? ((y.add (i * 4)).add 3) = some pv ∧ IntsR w w.heap.size pv f.args) (fun i m y cs z hc hl ht => ?_) h
  obtain ⟨c0, c1, c2, c3, rfl⟩ := listU4 hl
  obtain ⟨xs, k, _, _, _, hxl, hf⟩ := DataW.trod_struct Tryd.underlying39 ht
  obtain ⟨y0, y1, y2, y3, rfl⟩ := listU4 hxl
  have g0 : DataW.trod enc Tryd.prog w base sp held k 9 [c0] = some y0 := by simpa [cellsU_str] using hf 0 _ rfl
  have g1 : DataW.trod enc Tryd.prog w base sp held k 3 [c1] = some y1 := by simpa [cellsU_int] using hf 1 _ rfl
  have g2 : DataW.trod enc Tryd.prog w base sp held k 3 [c2] = some y2 := by simpa [cellsU_int] using hf 2 _ rfl
  have g3 : DataW.trod enc Tryd.prog w base sp held k 37 [c3] = some y3 := by simpa [cellsU_ints] using hf 3 _ rfl
  obtain ⟨s, e0, _, _⟩ := DataW.trod_string Tryd.underlying9 g0
  obtain ⟨a, e1, _, _⟩ := DataW.trod_int Tryd.underlying3 g1
  obtain ⟨b, e2, _, _⟩ := DataW.trod_int Tryd.underlying3 g2
  obtain ⟨ps, hp⟩ := intsR_of g3
  simp only [List.cons.injEq, and_true] at e0 e1 e2
  subst e0 e1 e2
  exact ⟨⟨s, a, b, ps⟩, c3, by simpa [Addr.add] using hc 0 (by decide), hc 1 (by decide), hc 2 (by decide), hc 3 (by decide), hp⟩
end
theorem StrsR.form {w : World} {n0 : Nat} {v : Value} {l : List ByteArray} (h : StrsR w n0 v l) : ∃ a c, v = .slice a l.length c := by
  obtain ⟨a, c, h, _⟩ := h
  exact ⟨a, c, h⟩
theorem FunsR.form {w : World} {n0 : Nat} {v : Value} {l : List PF} (h : FunsR w n0 v l) : ∃ a c, v = .slice a l.length c := by
  obtain ⟨a, c, h, _⟩ := h
  exact ⟨a, c, h⟩
theorem StmtsR.form {w : World} {n0 : Nat} {v : Value} {l : List PS} (h : StmtsR w n0 v l) : ∃ a c, v = .slice a l.length c := by
  obtain ⟨a, c, h, _⟩ := h
  exact ⟨a, c, h⟩
set_option maxRecDepth 100000 in
theorem prog_of {H : Type} {enc : TypeId × Value → H} {w : World} {base b0 : Nat} {sp : Nat → Bool} {held : Bool} {v : Value} {d : DataW H} {p : List MemPlace} (hv : Value.okWide Tryd.prog w .any b0 26 v) (h : DataW.Trod enc Tryd.prog w base sp held 26 v d p) :
    ∃ (a1 a2 a3 : Option Addr) (c1 c2 c3 : Nat) (P : PP), v = pval a1 a2 a3 c1 c2 c3 P ∧ ProgR w w.heap.size (.slice a1 P.vars.length c1) (.slice a2 P.funs.length c2) (.slice a3 P.stmts.length c3) P := by
  obtain ⟨v0, v1, v2, y0, y1, y2, n, rfl, h0, h1, h2⟩ := open_agg3 Tryd.underlying26 (by kernel_rfl) cellsU_prog hv h
  obtain ⟨vs, hvs⟩ := strsR_of h0
  obtain ⟨fs, hfs⟩ := funsR_of h1
  obtain ⟨ss, hss⟩ := stmtsR_of h2
  obtain ⟨a1, c1, rfl⟩ := hvs.form
  obtain ⟨a2, c2, rfl⟩ := hfs.form
  obtain ⟨a3, c3, rfl⟩ := hss.form
  exact ⟨a1, a2, a3, c1, c2, c3, ⟨vs, fs, ss⟩, rfl, hvs, hfs, hss⟩
end Go.Proofs.YtamblahkckaaaaaDoor
namespace Go.Proofs.YtamblahkckaaaaaDoor
open Go Go.RowKit
def SetsR (w : World) (n0 : Nat) (v : Value) (L : List (List Int)) : Prop := ElR n0 v L.length fun i y => ∀ l, L[i]? = some l → ∃ u, w.cell? (y.add i) = some u ∧ IntsR w n0 u l
theorem SetsR.old {w w' : World} {n0 : Nat} {v : Value} {L : List (List Int)} (h : SetsR w n0 v L) (k : Old n0 w w') : SetsR w' n0 v L :=
  ElR.mono h (Nat.le_refl _) fun i y _ hy hE l hl => by
    obtain ⟨u, h1, h2⟩ := hE l hl
    exact ⟨u, k.cellx h1 (by rw [add_block]; exact hy), h2.old k⟩
theorem SetsR.lift {w : World} {n0 n1 : Nat} {v : Value} {L : List (List Int)} (h : SetsR w n0 v L) (hn : n0 ≤ n1) : SetsR w n1 v L :=
  ElR.mono h hn fun i y _ _ hE l hl => by
    obtain ⟨u, h1, h2⟩ := hE l hl
    exact ⟨u, h1, ElR.lift h2 hn⟩
theorem SetsR.ext {w w' : World} {n0 : Nat} {v : Value} {L : List (List Int)} (h : SetsR w n0 v L) (x : Ext w w') : SetsR w' n0 v L := h.old (x.old _)
theorem SetsR.form {w : World} {n0 : Nat} {v : Value} {L : List (List Int)} (h : SetsR w n0 v L) : ∃ a c, v = .slice a L.length c := by
  obtain ⟨a, c, h, _⟩ := h
  exact ⟨a, c, h⟩
theorem SetsR.len {w : World} {n0 : Nat} {v : Value} {L : List (List Int)} (h : SetsR w n0 v L) : (L.length : Int) ≤ 9223372036854775807 := by
  obtain ⟨a, c, _, h2, h3, _⟩ := h
  omega
theorem SetsR.at {w : World} {n0 : Nat} {a : Option Addr} {n cap : Nat} {L : List (List Int)} (h : SetsR w n0 (.slice a n cap) L) {k : Nat} (hk : k < L.length) : ∃ y l b c, a = some y ∧ L[k]? = some l ∧ w.cell? (y.add k) = some (.slice b l.length c) ∧ IntsR w n0 (.slice b l.length c) l := by
  obtain ⟨a', cap', h1, h2, h3, h4, h5⟩ := h
  obtain ⟨rfl, rfl, rfl⟩ : a = a' ∧ n = L.length ∧ cap = cap' := by simpa using h1
  obtain ⟨y, rfl⟩ := h4 (by omega)
  obtain ⟨l, hl⟩ : ∃ l, L[k]? = some l := ⟨_, List.getElem?_eq_getElem hk⟩
  obtain ⟨u, e1, e2⟩ := (h5 y rfl (by omega)).2 k hk l hl
  obtain ⟨b, c, rfl, _⟩ := id e2
  exact ⟨y, l, b, c, rfl, hl, e1, e2⟩
theorem IntsR.len {w : World} {n0 : Nat} {v : Value} {l : List Int} (h : IntsR w n0 v l) : (l.length : Int) ≤ 9223372036854775807 := by
  obtain ⟨a, c, _, h2, h3, _⟩ := h
  omega
section
variable {H : Type} {enc : TypeId × Value → H} {w : World} {base : Nat} {sp : Nat → Bool} {held : Bool} {n : Nat}
end
def Made (w : World) (vs : List Value) (L : List (List Int)) : Prop := vs.length = L.length ∧ ∀ (i : Nat) v l, vs[i]? = some v → L[i]? = some l → IntsT w v l
theorem Made.keep {X : Nat → Prop} {w w' : World} {vs : List Value} {L : List (List Int)} (h : Made w vs L) (k : Keep X w w') (hX : ∀ b, X b → ¬ IsInt w b) : Made w' vs L :=
  ⟨h.1, fun i v l h1 h2 => (h.2 i v l h1 h2).keep k hX⟩
theorem Made.ext {w w' : World} {vs : List Value} {L : List (List Int)} (h : Made w vs L) (x : Ext w w') : Made w' vs L := ⟨h.1, fun i v l h1 h2 => (h.2 i v l h1 h2).ext x⟩
theorem Made.snoc {w : World} {vs : List Value} {L : List (List Int)} {v : Value} {l : List Int} (h : Made w vs L) (hv : IntsT w v l) : Made w (vs ++ [v]) (L ++ [l]) := by
  refine ⟨by simp [h.1], fun i u m h1 h2 => ?_⟩
  have hlen := h.1
  rcases Nat.lt_trichotomy i L.length with hi | hi | hi
  · rw [List.getElem?_append_left (by omega)] at h1 h2
    exact h.2 i u m h1 h2
  · subst hi
    rw [List.getElem?_append_right (by omega), show L.length - vs.length = 0 by omega] at h1
    rw [List.getElem?_append_right (Nat.le_refl _), Nat.sub_self] at h2
    obtain rfl := Option.some.inj h1
    obtain rfl := Option.some.inj h2
    exact hv
  · rw [List.getElem?_eq_none (by simp; omega)] at h1
    cases h1
theorem SetsR.made {w : World} {base : Nat} {v : Value} {vs : List Value} {L : List (List Int)} (h : w.ownsRow base 37 1 v L.length vs) (hm : Made w vs L) : SetsR w w.heap.size v L := by
  rcases h.2 with ⟨rfl, h0⟩ | ⟨g, cap, cur, rfl, hb, hg, hn, hc, hcs, ht⟩
  · unfold SetsR
    rw [h0]
    exact ⟨none, 0, rfl, Nat.le_refl _, by decide, fun h => absurd h (by omega), fun y hy => by cases hy⟩
  · refine ⟨_, cap, rfl, hn, by unfold maxLen at hc; omega, fun _ => ⟨_, rfl⟩, fun y hy h0 => ?_⟩
    obtain rfl := Option.some.inj hy
    have hB : Blk w g cur 37 := hg
    refine ⟨hB.lt, fun i hi l hl => ?_⟩
    have hi2 : i < vs.length := by rw [hm.1]; exact hi
    obtain ⟨u, hu⟩ : ∃ u, vs[i]? = some u := ⟨_, List.getElem?_eq_getElem hi2⟩
    refine ⟨u, ?_, (hm.2 i u l hu hl).1⟩
    rw [show (⟨g, 0, none⟩ : Addr).add i = ⟨g, i, none⟩ from by by_cases h0 : i = 0 <;> simp [Addr.add, h0]]
    exact own_get h i hu
structure PW (w : World) (n0 : Nat) (ad : Nat → Addr) (a1 a2 a3 : Option Addr) (c1 c2 c3 : Nat) (P : PP) : Prop where
  errs : ErrsP w ad
  prog : ProgR w n0 (.slice a1 P.vars.length c1) (.slice a2 P.funs.length c2) (.slice a3 P.stmts.length c3) P
  z1 : ∀ s ∈ P.vars, s.size ≤ 1000000
  z2 : ∀ s ∈ P.names, s.size ≤ 1000000
  well : P.Well
theorem PW.ext {w w' : World} {n0 : Nat} {ad : Nat → Addr} {a1 a2 a3 : Option Addr} {c1 c2 c3 : Nat} {P : PP} (h : PW w n0 ad a1 a2 a3 c1 c2 c3 P) (x : Ext w w') : PW w' n0 ad a1 a2 a3 c1 c2 c3 P := ⟨h.errs.ext x, h.prog.ext x, h.z1, h.z2, h.well⟩
theorem PW.lift {w : World} {n0 n1 : Nat} {ad : Nat → Addr} {a1 a2 a3 : Option Addr} {c1 c2 c3 : Nat} {P : PP} (h : PW w n0 ad a1 a2 a3 c1 c2 c3 P) (hn : n0 ≤ n1) : PW w n1 ad a1 a2 a3 c1 c2 c3 P := ⟨h.errs, h.prog.lift hn, h.z1, h.z2, h.well⟩
def PP.objectsV (P : PP) : Nat := P.nodesV + P.funs.length
def PP.funV (P : PP) (o : Int) : Int := if 0 ≤ o - P.nodesV ∧ o - P.nodesV < P.funs.length then o - P.nodesV else -1
theorem PP.nodesV_le2 (P : PP) : P.nodesV ≤ P.vars.length + P.stmts.length := by
  unfold PP.nodesV
  have := P.newsN_le P.stmts.length
  omega
set_option maxRecDepth 100000 in
set_option maxHeartbeats 1600000 in
theorem progobjects_any (a1 a2 a3 : Option Addr) (c1 c2 c3 : Nat) (P : PP) (w : World) (n0 : Nat) (ad : Nat → Addr) (h : PW w n0 ad a1 a2 a3 c1 c2 c3 P) :
    Calls Tryd.prog 13 #[pval a1 a2 a3 c1 c2 c3 P] w fun e w' => e = .returned (.int .i64 (P.objectsV : Int)) ∧ Ext w w' := by
  have HM := fun w1 (x : Ext w w1) => hid (prognodes2_any a1 a2 a3 c1 c2 c3 P w1 n0 (h.prog.ext x) (by have := h.well.few; omega) (by have := h.well.few; omega))
  obtain ⟨W, hW⟩ : ∃ W, W = w.alloc (.cells (pcells a1 a2 a3 c1 c2 c3 P) 26) := ⟨_, rfl⟩
  have HX : Hid (Ext w W) := hid (by rw [hW]; exact (Ext.refl _).alloc _)
  have HBx : Hid (Blk W w.heap.size (pcells a1 a2 a3 c1 c2 c3 P) 26) := hid (by rw [hW]; exact Blk.new _ _ _)
  have HWe : Hid (W = w.alloc (.cells #[.slice a1 P.vars.length c1, .slice a2 P.funs.length c2, .slice a3 P.stmts.length c3] 26)) := hid (by rw [hW]; rfl)
  have HPW := hid h
  have HK := fun w1 (x : Ext w w1) => hid (check_well (h.errs.ext x) (h.prog.ext x) h.z1 h.z2 h.well)
  have HN := fun w1 (x : Ext w w1) => hid (prognodes_any a1 a2 a3 c1 c2 c3 P w1 n0 ad (h.errs.ext x) (h.prog.ext x) h.z1 h.z2 h.well)
  obtain ⟨hf1, hf2, hf3⟩ := h.well.few
  have hnl := P.nodesV_le2
  have d0 := HBx.out.av 0 rfl
  have d1 := HBx.out.av 1 rfl
  have d2 := HBx.out.av 2 rfl
  simp only [pcells, qA0, qA1, qA2] at d0 d1 d2
  unfold pval at HK HN ⊢
  clear hW h
  unfold pval at HM
  have Ho : Hid ((P.objectsV : Int) = (P.nodesV : Int) + (P.funs.length : Int)) := hid (by unfold PP.objectsV; omega)
  go_enter Tryd.func13, Tryd.ntmps13
  go_wp2_with fail
  rw [← HWe.out]
  have HK1 := HK W HX.out
  refine HK1.out.mono ?_
  intro e w1 hx
  obtain ⟨rfl, hx1⟩ := hx
  have e0 := (HBx.out.ext hx1).kc (X := fun _ => False) (fun e => e) 0 rfl
  have e1 := (HBx.out.ext hx1).kc (X := fun _ => False) (fun e => e) 1 rfl
  have e2 := (HBx.out.ext hx1).kc (X := fun _ => False) (fun e => e) 2 rfl
  simp only [pcells, qA0, qA1, qA2] at e0 e1 e2
  have Hx1 := hid (HX.out.trans hx1)
  clear HK HK1 HN hx1 d0 d1 d2
  generalize P.nodesV = N at *
  go_wp2
  refine wp_flowT (fun _ => False) (by kernel_rfl) (by kernel_rfl) ?_
  repeat (apply FlowT.d; (intro w1 hk; unfold does; go_simp; (try go_ints); (first | exact DetR.mk | (simp only [↓IntWalk.iteOmega, Oper.doesUpon_value]; exact DetR.mk) | (simp only [↓IntWalk.iteOmega]; go_simp; (try go_ints); exact DetR.mk))); simp only [Act.put, qS0, qS1, qS2])
  apply FlowT.d
  · intro w1 hk
    unfold does
    go_simp
    exact CallR.det ((HM w1 (Hx1.out.trans hk.ext)).out)
  simp only [Act.put, qS0, qS1, qS2]
  repeat (apply FlowT.d; (intro w1 hk; unfold does; go_simp; (try go_ints); (first | exact DetR.mk | (simp only [↓IntWalk.iteOmega, Oper.doesUpon_value]; exact DetR.mk) | (simp only [↓IntWalk.iteOmega]; go_simp; (try go_ints); exact DetR.mk))); simp only [Act.put, qS0, qS1, qS2])
  refine FlowT.fin fun w2 hx2 hk2 => ?_
  have Hx2 := hid (Hx1.out.trans hx2)
  clear hx2 hk2 e0 e1 e2 HM
  go_wp2
  go_ret
  exact ⟨by rw [Ho.out]; rfl, Hx2.out⟩
end Go.Proofs.YtamblahkckaaaaaDoor
