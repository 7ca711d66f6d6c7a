/- Texts of one proof, put together: U1 US SE U2 U3 U4 U5 U6 U7 F9 FA. -/
import Derived.Test.YtihdpijgngooaaaGreatDoorHHT01
import Derived.Test.YtihdpijgngooaaaGreatDoorProg
import Derived.Shelf.Strings.SlTrimAscii
import Derived.Stop.LaidErr
import Derived.Stop.ErrReads
import Derived.Stop.Joined
import Derived.MakeChecks
import Derived.LaidSub
import Derived.Lib.IndexBytes
set_option linter.unusedSimpArgs false
set_option linter.unusedVariables false
namespace Go.Proofs.YtihdpijgngooaaaGreatDoor
open Go Go.RowKit
set_option maxRecDepth 100000 in
set_option maxHeartbeats 800000 in
theorem indexs_any (v : Value) (l : List ByteArray) (s : ByteArray) (w : World) (n0 : Nat) (h : StrsR w n0 v l) : Calls Tryz.prog 161 #[v, .string s] w fun e w' => ∃ r : Int, e = .returned (.int .i64 r) ∧ IdxR (memB s l = true) r ∧ w = w' := by
  obtain ⟨a, cap, rfl, h2, h3, h4, h5⟩ := h
  have H4 := hid h4
  have H5 := hid h5
  have hml : (l.length : Int) ≤ 9223372036854775807 := by omega
  clear h2 h3 h4 h5
  go_enter Tryz.func161, Tryz.ntmps161
  go_wp2
  go_loop [8] (fun t8 => ∃ k : Nat, t8 = .int .i64 (k : Int) ∧ k ≤ l.length ∧ ∀ j t, j < k → l[j]? = some t → eqB s t = false) (fun t8 => l.length - (intOf t8).toNat)
  case atStart => exact ⟨0, rfl, Nat.zero_le _, fun j t h => by omega⟩
  case round =>
    obtain ⟨k, rfl, hk, hne⟩ := hrel
    have Hne := hid hne
    clear hne
    by_cases hlt : k < l.length
    · obtain ⟨y, rfl⟩ := H4.out (by omega)
      have hxk : l[k]? = some (l[k]'hlt) := List.getElem?_eq_getElem hlt
      obtain ⟨t, ht⟩ : ∃ t, t = l[k]'hlt := ⟨_, rfl⟩
      rw [← ht] at hxk
      have hc := (H5.out y rfl (by omega)).2 k hlt t hxk
      have Hxk := hid hxk
      clear hxk ht
      cases he : eqB s t with
      | true =>
        have Hin := hid (IdxR.yes (k := k) (show memB s l = true from List.any_eq_true.2 ⟨t, List.mem_of_getElem? Hxk.out, he⟩) (by omega))
        unfold eqB at he
        go_wp2
        go_ret
        exact ⟨(k : Int), rfl, Hin.out, rfl⟩
      | false =>
        have Hf := hid he
        unfold eqB at he
        go_wp2
        refine ⟨⟨k + 1, by go_num, by omega, fun j u hj hu => ?_⟩, by simp [intOf]; omega⟩
        by_cases hjk : j = k
        · subst hjk
          obtain rfl := Option.some.inj (Hxk.out.symm.trans hu)
          exact Hf.out
        · exact Hne.out j u (by omega) hu
    · obtain rfl : k = l.length := by omega
      have Hnot := hid (IdxR.no (show ¬ memB s l = true from fun hm => by
        obtain ⟨t, ht, e⟩ := List.any_eq_true.1 hm
        obtain ⟨j, hj, e2⟩ := List.mem_iff_getElem.1 ht
        rw [Hne.out j t hj (by rw [List.getElem?_eq_getElem hj, e2])] at e
        cases e))
      go_wp2
      go_ret
      exact ⟨(-1 : Int), rfl, Hnot.out, rfl⟩
set_option maxRecDepth 100000 in
set_option maxHeartbeats 800000 in
theorem containss_any (v : Value) (l : List ByteArray) (s : ByteArray) (w : World) (n0 : Nat) (h : StrsR w n0 v l) : Calls Tryz.prog 131 #[v, .string s] w fun e w' => e = .returned (.bool (memB s l)) ∧ w = w' := by
  have H := hid (indexs_any v l s w n0 h)
  obtain ⟨a, cap, rfl, _⟩ := h
  go_enter Tryz.func131, Tryz.ntmps131
  go_wp2_with fail
  refine H.out.mono ?_
  intro e w1 hx
  obtain ⟨r, rfl, hiff, rfl⟩ := hx
  have hr := hiff.1
  have Hiff := hid hiff.2
  clear hiff H
  go_wp2
  go_ret
  refine ⟨congrArg (fun n => Ending.returned (Value.bool n)) ?_, rfl⟩
  have h1 := Hiff.out
  cases hv : memB s l with
  | true => rw [hv] at h1; simpa using h1
  | false => rw [hv] at h1; simpa using h1
set_option maxRecDepth 100000 in
set_option maxHeartbeats 800000 in
theorem indexi_any (v : Value) (l : List Int) (s : Int) (w : World) (n0 : Nat) (h : IntsR w n0 v l) : Calls Tryz.prog 86 #[v, .int .i64 s] w fun e w' => ∃ r : Int, e = .returned (.int .i64 r) ∧ IdxR (s ∈ l) r ∧ w = w' := by
  obtain ⟨a, cap, rfl, h2, h3, h4, h5⟩ := h
  have H4 := hid h4
  have H5 := hid h5
  have hml : (l.length : Int) ≤ 9223372036854775807 := by omega
  clear h2 h3 h4 h5
  go_enter Tryz.func86, Tryz.ntmps86
  go_wp2
  go_loop [8] (fun t8 => ∃ k : Nat, t8 = .int .i64 (k : Int) ∧ k ≤ l.length ∧ ∀ j t, j < k → l[j]? = some t → s ≠ t) (fun t8 => l.length - (intOf t8).toNat)
  case atStart => exact ⟨0, rfl, Nat.zero_le _, fun j t h => by omega⟩
  case round =>
    obtain ⟨k, rfl, hk, hne⟩ := hrel
    have Hne := hid hne
    clear hne
    by_cases hlt : k < l.length
    · obtain ⟨y, rfl⟩ := H4.out (by omega)
      have hxk : l[k]? = some (l[k]'hlt) := List.getElem?_eq_getElem hlt
      obtain ⟨t, ht⟩ : ∃ t, t = l[k]'hlt := ⟨_, rfl⟩
      rw [← ht] at hxk
      have hc := (H5.out y rfl (by omega)).2 k hlt t hxk
      have Hxk := hid hxk
      clear hxk ht
      by_cases he : s = t
      · subst he
        have Hin := hid (IdxR.yes (k := k) (List.mem_of_getElem? Hxk.out) (by omega))
        go_wp2
        go_ret
        exact ⟨(k : Int), rfl, Hin.out, rfl⟩
      · have Hf := hid he
        go_wp2
        refine ⟨⟨k + 1, by go_num, by omega, fun j u hj hu => ?_⟩, by simp [intOf]; omega⟩
        by_cases hjk : j = k
        · subst hjk
          obtain rfl := Option.some.inj (Hxk.out.symm.trans hu)
          exact Hf.out
        · exact Hne.out j u (by omega) hu
    · obtain rfl : k = l.length := by omega
      have Hnot := hid (IdxR.no (show ¬ s ∈ l from fun ht => by
        obtain ⟨j, hj, e2⟩ := List.mem_iff_getElem.1 ht
        exact Hne.out j s hj (by rw [List.getElem?_eq_getElem hj, e2]) rfl))
      go_wp2
      go_ret
      exact ⟨(-1 : Int), rfl, Hnot.out, rfl⟩
set_option maxRecDepth 100000 in
set_option maxHeartbeats 800000 in
theorem containsi_any (v : Value) (l : List Int) (s : Int) (w : World) (n0 : Nat) (h : IntsR w n0 v l) : Calls Tryz.prog 54 #[v, .int .i64 s] w fun e w' => e = .returned (.bool (decide (s ∈ l))) ∧ w = w' := by
  have H := hid (indexi_any v l s w n0 h)
  obtain ⟨a, cap, rfl, _⟩ := h
  go_enter Tryz.func54, Tryz.ntmps54
  go_wp2_with fail
  refine H.out.mono ?_
  intro e w1 hx
  obtain ⟨r, rfl, hiff, rfl⟩ := hx
  have hr := hiff.1
  have Hiff := hid hiff.2
  clear hiff H
  go_wp2
  go_ret
  refine ⟨?_, rfl⟩
  exact congrArg (fun n => Ending.returned (Value.bool n)) (decide_eq_decide.2 Hiff.out)
theorem IntsR.take {w : World} {n0 : Nat} {a : Option Addr} {n cap : Nat} {l : List Int} (h : IntsR w n0 (.slice a n cap) l) (i : Nat) (hi : i ≤ l.length) : IntsR w n0 (.slice a i cap) (l.take i) := by
  obtain ⟨a', cap', h1, h2, h3, h4, h5⟩ := h
  obtain ⟨rfl, rfl, rfl⟩ : a = a' ∧ n = l.length ∧ cap = cap' := by simpa using h1
  have hl : (l.take i).length = i := by simp; omega
  unfold IntsR
  rw [hl]
  refine ⟨a, cap, rfl, by omega, h3, fun h0 => h4 (by omega), fun y hy h0 => ⟨(h5 y hy (by omega)).1, fun j hj s hs => (h5 y hy (by omega)).2 j (by omega) s ?_⟩⟩
  rwa [List.getElem?_take, if_pos hj] at hs
theorem StrsR.take {w : World} {n0 : Nat} {a : Option Addr} {n cap : Nat} {l : List ByteArray} (h : StrsR w n0 (.slice a n cap) l) (i : Nat) (hi : i ≤ l.length) : StrsR w n0 (.slice a i cap) (l.take i) := by
  obtain ⟨a', cap', h1, h2, h3, h4, h5⟩ := h
  obtain ⟨rfl, rfl, rfl⟩ : a = a' ∧ n = l.length ∧ cap = cap' := by simpa using h1
  have hl : (l.take i).length = i := by simp; omega
  unfold StrsR
  rw [hl]
  refine ⟨a, cap, rfl, by omega, h3, fun h0 => h4 (by omega), fun y hy h0 => ⟨(h5 y hy (by omega)).1, fun j hj s hs => (h5 y hy (by omega)).2 j (by omega) s ?_⟩⟩
  rwa [List.getElem?_take, if_pos hj] at hs
set_option maxRecDepth 100000 in
set_option maxHeartbeats 800000 in
theorem twice_any (v : Value) (l : List Int) (w : World) (n0 : Nat) (h : IntsR w n0 v l) : Calls Tryz.prog 133 #[v] w fun e w' => e = .returned (.bool (dupI l)) ∧ w = w' := by
  have HI := hid h
  obtain ⟨a, cap, rfl, h2, h3, h4, h5⟩ := h
  have H4 := hid h4
  have H5 := hid h5
  have hml : (l.length : Int) ≤ 9223372036854775807 := by omega
  clear h4 h5
  go_enter Tryz.func133, Tryz.ntmps133
  go_wp2
  go_loop [7] (fun t7 => ∃ k : Nat, t7 = .int .i64 (k : Int) ∧ k ≤ l.length ∧ ∀ j, j < k → ¬ l.getD j 0 ∈ l.take j) (fun t7 => l.length - (intOf t7).toNat)
  case atStart => exact ⟨0, rfl, Nat.zero_le _, fun j h => by omega⟩
  case round =>
    obtain ⟨k, rfl, hk, hne⟩ := hrel
    have Hne := hid hne
    clear hne
    by_cases hlt : k < l.length
    · obtain ⟨y, rfl⟩ := H4.out (by omega)
      have hxk : l[k]? = some (l.getD k 0) := by simp [List.getD_eq_getElem?_getD, hlt]
      have hc := (H5.out y rfl (by omega)).2 k hlt _ hxk
      have HC := hid (containsi_any _ _ (l.getD k 0) w n0 (HI.out.take k hk))
      obtain ⟨t, ht⟩ : ∃ t, t = l.getD k 0 := ⟨_, rfl⟩
      rw [← ht] at hc HC
      have Ht := hid ht
      clear ht hxk
      go_wp2_with fail
      refine HC.out.mono ?_
      intro e w1 hx
      obtain ⟨rfl, rfl⟩ := hx
      clear HC
      by_cases he : t ∈ l.take k
      · have Hin : Hid (dupI l = true) := hid (List.any_eq_true.2 ⟨k, List.mem_range.2 hlt, by simp only [decide_eq_true_eq]; rw [← Ht.out]; exact he⟩)
        rw [decide_eq_true he]
        go_wp2
        go_ret
        exact ⟨by rw [Hin.out]; rfl, rfl⟩
      · have Hf := hid he
        rw [decide_eq_false he]
        clear he
        go_wp2
        refine ⟨⟨k + 1, by go_num, by omega, fun j hj => ?_⟩, by simp [intOf]; omega⟩
        by_cases hjk : j = k
        · subst hjk; rw [← Ht.out]; exact Hf.out
        · exact Hne.out j (by omega)
    · obtain rfl : k = l.length := by omega
      have Hnot : Hid (dupI l = false) := hid (List.any_eq_false.2 fun j hj => by simp only [decide_eq_true_eq]; exact Hne.out j (List.mem_range.1 hj))
      go_wp2
      go_ret
      exact ⟨by rw [Hnot.out]; rfl, rfl⟩
end Go.Proofs.YtihdpijgngooaaaGreatDoor
namespace Go.Proofs
open Go.Shelf
def Tryz.lays160_ren : Go.Shelf.Ren := ⟨fun | 160 => 160 | 232 => 176 | 231 => 175 | 227 => 177 | 234 => 179 | 233 => 178 | 236 => 181 | 235 => 180 | 228 => 185 | 271 => 188 | 151 => 187 | 197 => 186 | 120 => 191 | 152 => 190 | 260 => 189 | 137 => 192 | 119 => 193 | 224 => 194 | 225 => 195 | 217 => 196 | 266 => 197 | n => n, fun | 9 => 9 | 4 => 4 | 3 => 3 | 5 => 5 | 117 => 243 | 116 => 242 | 0 => 0 | 124 => 246 | 21 => 21 | 105 => 251 | 46 => 142 | 119 => 255 | 139 => 258 | 138 => 257 | n => n, fun | 3 => 12 | 4 => 13 | n => n⟩
theorem Tryz.lays160 : Go.Proofs.Lays.n160 Tryz.prog Tryz.lays160_ren := {
  mixed := by kernel_rfl
  f119 := Tryz.func193.trans (congrArg some (by kernel_rfl))
  f120 := Tryz.func191.trans (congrArg some (by kernel_rfl))
  f137 := Tryz.func192.trans (congrArg some (by kernel_rfl))
  f151 := Tryz.func187.trans (congrArg some (by kernel_rfl))
  f152 := Tryz.func190.trans (congrArg some (by kernel_rfl))
  f160 := Tryz.func160.trans (congrArg some (by kernel_rfl))
  f197 := Tryz.func186.trans (congrArg some (by kernel_rfl))
  f217 := Tryz.func196.trans (congrArg some (by kernel_rfl))
  f224 := Tryz.func194.trans (congrArg some (by kernel_rfl))
  f225 := Tryz.func195.trans (congrArg some (by kernel_rfl))
  f227 := Tryz.func177.trans (congrArg some (by kernel_rfl))
  f228 := Tryz.func185.trans (congrArg some (by kernel_rfl))
  f231 := Tryz.func175.trans (congrArg some (by kernel_rfl))
  f232 := Tryz.func176.trans (congrArg some (by kernel_rfl))
  f233 := Tryz.func178.trans (congrArg some (by kernel_rfl))
  f234 := Tryz.func179.trans (congrArg some (by kernel_rfl))
  f235 := Tryz.func180.trans (congrArg some (by kernel_rfl))
  f236 := Tryz.func181.trans (congrArg some (by kernel_rfl))
  f260 := Tryz.func189.trans (congrArg some (by kernel_rfl))
  f266 := Tryz.func197.trans (congrArg some (by kernel_rfl))
  f271 := Tryz.func188.trans (congrArg some (by kernel_rfl))
  t0 := Tryz.underlying0
  a0 := Tryz.isAgg0
  z0 := Tryz.sizeOf0
  v0 := Tryz.zeroValue0
  t3 := Tryz.underlying3
  a3 := Tryz.isAgg3
  z3 := Tryz.sizeOf3
  v3 := Tryz.zeroValue3
  t4 := Tryz.underlying4
  a4 := Tryz.isAgg4
  z4 := Tryz.sizeOf4
  v4 := Tryz.zeroValue4
  t5 := Tryz.underlying5
  a5 := Tryz.isAgg5
  z5 := Tryz.sizeOf5
  v5 := Tryz.zeroValue5
  t9 := Tryz.underlying9
  a9 := Tryz.isAgg9
  z9 := Tryz.sizeOf9
  v9 := Tryz.zeroValue9
  t21 := Tryz.underlying21
  a21 := Tryz.isAgg21
  z21 := Tryz.sizeOf21
  v21 := Tryz.zeroValue21
  t46 := Tryz.underlying142
  a46 := Tryz.isAgg142
  z46 := Tryz.sizeOf142
  v46 := Tryz.zeroValue142
  t105 := Tryz.underlying251
  a105 := Tryz.isAgg251
  z105 := Tryz.sizeOf251
  v105 := Tryz.zeroValue251
  t116 := Tryz.underlying242
  a116 := Tryz.isAgg242
  z116 := Tryz.sizeOf242
  t117 := Tryz.underlying243
  a117 := Tryz.isAgg243
  z117 := Tryz.sizeOf243
  v117 := Tryz.zeroValue243
  t119 := Tryz.underlying255
  a119 := Tryz.isAgg255
  z119 := Tryz.sizeOf255
  t124 := Tryz.underlying246
  a124 := Tryz.isAgg246
  z124 := Tryz.sizeOf246
  v124 := Tryz.zeroValue246
  t138 := Tryz.underlying257
  a138 := Tryz.isAgg257
  z138 := Tryz.sizeOf257
  v138 := Tryz.zeroValue257
  t139 := Tryz.underlying258
  a139 := Tryz.isAgg258
  z139 := Tryz.sizeOf258
  v139 := Tryz.zeroValue258
  g3 := by kernel_rfl
  g4 := by kernel_rfl }
end Go.Proofs
namespace Go.Proofs.YtihdpijgngooaaaGreatDoor
open Go Go.RowKit Go.ChangeShapes
theorem errStar : "*" ++ "errors.errorString" = "*errors.errorString" := by decide
theorem errRow (u : TypeId) (h : Tryz.prog.typeName? 3 u = some "*errors.errorString") : u = 262 :=
  typeName_ptr_named (nm := "errors.errorString") (by rw [errStar]; kernel_rfl) (by kernel_rfl) (by decide) u (by rw [errStar]; exact h)
theorem errCells : Tryz.prog.cellsOf 283 = 1 := by kernel_rfl
theorem strCells : Tryz.prog.cellsOf 9 = 1 := by kernel_rfl
structure SentAt (W : World) (g : Nat) (a : Addr) : Prop where
  var : W.cell? ⟨g, 0, none⟩ = some (.iface 262 (.pointer (some a)))
  row : ∃ c t, W.heap[a.block]? = some (.cells c t (0, 0))
  text : ∃ s, W.cell? a = some (.string s)
def sentD (t : List UInt8) : DataW Unit := .iface "*errors.errorString" (.ptr (.agg [.lit (.string t)]))
set_option maxRecDepth 100000 in
theorem sents_of {W : World} : ∀ (l : List (String × Nat × List UInt8)) (ps : List MemPlace), DataW.LaidVars Tryz.prog W (l.map fun x => (x.1, sentD x.2.2)) ps → ps.Nodup →
    (∀ b off, MemPlace.cell b off ∈ ps → (∃ c t, W.heap[b]? = some (.cells c t (0, 0))) ∧ ∀ u v, W.cell? ⟨b, off, none⟩ = some (.iface u v) → Value.okWide Tryz.prog W .any 0 u v) →
    (∀ x ∈ l, Tryz.prog.globalNamed x.1 = some x.2.1 ∧ (Tryz.prog.globals[x.2.1]?).map (·.type) = some 38) →
    ∃ pa : List Addr, pa.length = l.length ∧ (∀ (i : Nat) (x : String × Nat × List UInt8) (a : Addr), l[i]? = some x → pa[i]? = some a → SentAt W x.2.1 a) ∧ pa.Nodup ∧ ∀ a ∈ pa, MemPlace.cell a.block a.off ∈ ps
  | [], ps, _, _, _, _ => ⟨[], rfl, fun i x a h => by simp at h, List.nodup_nil, fun a h => by simp at h⟩
  | (n, k, tx) :: r, ps, h, hnd, hrows, hg => by
    obtain ⟨g, t, cs, fuel, p, q, hg0, ht0, hv0, hd0, hq, rfl⟩ := h
    obtain ⟨hk1, hk2⟩ := hg (n, k, tx) (by simp)
    obtain rfl := Option.some.inj (hk1.symm.trans hg0)
    obtain rfl := Option.some.inj (hk2.symm.trans ht0)
    obtain ⟨l0⟩ := cs
    have ok0 : ∀ u v, l0 = [.iface u v] → Value.okWide Tryz.prog W .any 0 u v := fun u v e => by
      subst e
      exact (hrows k 0 (by simp [MemPlace.row])).2 u v (by simpa using World.var?_cell hk1 hv0 0)
    obtain ⟨a0, s0, rfl, hc0, hs0, hz0, rfl⟩ := errorString_of_trod Tryz.underlying38 errRow Tryz.underlying262 Tryz.underlying283 rfl rfl Tryz.underlying9 errCells strCells hd0 ok0
    have hnd' := hnd
    rw [List.append_assoc] at hnd'
    have hq' : q.Nodup := (List.nodup_append.1 (List.nodup_append.1 hnd').2.1).2.1
    obtain ⟨pa, e1, e2, e3, e4⟩ := sents_of r q hq hq' (fun b off hm => hrows b off (List.mem_append_right _ hm)) (fun x hx => hg x (List.mem_cons_of_mem _ hx))
    have hin : MemPlace.cell a0.block a0.off ∈ MemPlace.row a0 1 := by simp [MemPlace.row]
    refine ⟨a0 :: pa, by simp [e1], ?_, ?_, ?_⟩
    · intro i x a hx ha
      cases i with
      | zero =>
        simp only [List.getElem?_cons_zero, Option.some.injEq] at hx ha
        subst hx ha
        exact ⟨by simpa using World.var?_cell hk1 hv0 0, (hrows a0.block a0.off (by simp [hin])).1, s0, hc0⟩
      | succ i =>
        simp only [List.getElem?_cons_succ] at hx ha
        exact e2 i x a hx ha
    · refine List.nodup_cons.2 ⟨fun hm => ?_, e3⟩
      have h1 := e4 a0 hm
      have h2 := (List.nodup_append.1 (List.nodup_append.1 hnd').2.1).2.2 _ hin _ h1
      exact h2 rfl
    · intro a ha
      rcases List.mem_cons.1 ha with rfl | ha
      · simp [hin]
      · simp [e4 a ha]
theorem sents_met {W : World} (l : List (String × Nat × List UInt8)) (h : laidMet Tryz.prog (l.map fun x => (x.1, sentD x.2.2)) W) (hg : ∀ x ∈ l, Tryz.prog.globalNamed x.1 = some x.2.1 ∧ (Tryz.prog.globals[x.2.1]?).map (·.type) = some 38) :
    ∃ pa : List Addr, pa.length = l.length ∧ (∀ (i : Nat) (x : String × Nat × List UInt8) (a : Addr), l[i]? = some x → pa[i]? = some a → SentAt W x.2.1 a) ∧ pa.Nodup := by
  obtain ⟨ps, h1, h2, h3⟩ := h
  obtain ⟨pa, e1, e2, e3, _⟩ := sents_of l ps h1 h2 h3 hg
  exact ⟨pa, e1, e2, e3⟩
def sRow : Nat → String × Nat × List UInt8
  | 1 => ("fingerpost/api.ErrText", 3, [102, 105, 110, 103, 101, 114, 112, 111, 115, 116, 58, 32, 116, 101, 120, 116])
  | 2 => ("fingerpost/api.ErrBound", 0, [102, 105, 110, 103, 101, 114, 112, 111, 115, 116, 58, 32, 98, 111, 117, 110, 100])
  | 3 => ("fingerpost/api.ErrShape", 2, [102, 105, 110, 103, 101, 114, 112, 111, 115, 116, 58, 32, 115, 104, 97, 112, 101])
  | 4 => ("fingerpost/api.ErrKind", 1, [102, 105, 110, 103, 101, 114, 112, 111, 115, 116, 58, 32, 107, 105, 110, 100])
  | 5 => ("fingerpost/api.ErrName", 4, [102, 105, 110, 103, 101, 114, 112, 111, 115, 116, 58, 32, 110, 97, 109, 101])
  | 6 => ("fingerpost/api.ErrNone", 5, [102, 105, 110, 103, 101, 114, 112, 111, 115, 116, 58, 32, 110, 111, 110, 101])
  | 7 => ("fingerpost/api.ErrExist", 6, [102, 105, 110, 103, 101, 114, 112, 111, 115, 116, 58, 32, 101, 120, 105, 115, 116])
  | 8 => ("fingerpost/api.ErrFull", 7, [102, 105, 110, 103, 101, 114, 112, 111, 115, 116, 58, 32, 102, 117, 108, 108])
  | 9 => ("fingerpost/api.ErrArgs", 8, [102, 105, 110, 103, 101, 114, 112, 111, 115, 116, 58, 32, 97, 114, 103, 115])
  | 10 => ("fingerpost/api.ErrOrder", 9, [102, 105, 110, 103, 101, 114, 112, 111, 115, 116, 58, 32, 111, 114, 100, 101, 114])
  | 11 => ("fingerpost/api.ErrSum", 10, [102, 105, 110, 103, 101, 114, 112, 111, 115, 116, 58, 32, 115, 117, 109])
  | _ => ("", 0, [])
theorem sRow_ok {c : Nat} (h1 : 1 ≤ c) (h2 : c ≤ 11) (h3 : (sRow c).2.1 ≠ 99999) : Tryz.prog.globalNamed (sRow c).1 = some (sRow c).2.1 ∧ (Tryz.prog.globals[(sRow c).2.1]?).map (·.type) = some 38 := by
  rcases (by omega : c = 1 ∨ c = 2 ∨ c = 3 ∨ c = 4 ∨ c = 5 ∨ c = 6 ∨ c = 7 ∨ c = 8 ∨ c = 9 ∨ c = 10 ∨ c = 11) with rfl | rfl | rfl | rfl | rfl | rfl | rfl | rfl | rfl | rfl | rfl <;> first | exact absurd rfl h3 | exact ⟨by kernel_rfl, by kernel_rfl⟩
theorem sRow_g {c : Nat} (h1 : 1 ≤ c) (h2 : c ≤ 11) : (sRow c).2.1 = gE c := by
  rcases (by omega : c = 1 ∨ c = 2 ∨ c = 3 ∨ c = 4 ∨ c = 5 ∨ c = 6 ∨ c = 7 ∨ c = 8 ∨ c = 9 ∨ c = 10 ∨ c = 11) with rfl | rfl | rfl | rfl | rfl | rfl | rfl | rfl | rfl | rfl | rfl <;> rfl
def sentL (codes : List Nat) : List (String × DataW Unit) := codes.map fun c => ((sRow c).1, sentD (sRow c).2.2)
theorem sent_noHandle (t : List UInt8) : (sentD t).handleName? = none := by
  unfold sentD DataW.handleName?
  simp
def evOf (ad : Nat → Addr) (c : Nat) : Value := .iface 262 (.pointer (some (ad c)))
theorem sents_ad {W : World} (codes : List Nat) (hc : ∀ c ∈ codes, 1 ≤ c ∧ c ≤ 11 ∧ (sRow c).2.1 ≠ 99999) (h : laidMet Tryz.prog (sentL codes) W) :
    ∃ ad : Nat → Addr, (∀ c ∈ codes, SentAt W (gE c) (ad c)) ∧ ∀ c ∈ codes, ∀ d ∈ codes, ad c = ad d → c = d := by
  obtain ⟨pa, h1, h2, h3⟩ := sents_met (codes.map sRow) (by simpa [sentL, List.map_map, Function.comp_def] using h) (fun x hx => by
    obtain ⟨c, hm, rfl⟩ := List.mem_map.1 hx
    exact sRow_ok (hc c hm).1 (hc c hm).2.1 (hc c hm).2.2)
  rw [List.length_map] at h1
  have hix : ∀ c ∈ codes, ∃ a, pa[codes.idxOf c]? = some a := fun c hm => by
    have := List.idxOf_lt_length_of_mem hm
    exact ⟨_, List.getElem?_eq_getElem (by omega)⟩
  refine ⟨fun c => (pa[codes.idxOf c]?).getD ⟨0, 0, none⟩, fun c hm => ?_, fun c hm d hd e => ?_⟩
  · obtain ⟨a, ha⟩ := hix c hm
    have hi := List.idxOf_lt_length_of_mem hm
    have := h2 (codes.idxOf c) (sRow c) a (by rw [List.getElem?_map, List.getElem?_eq_getElem hi]; simp) ha
    rw [sRow_g (hc c hm).1 (hc c hm).2.1] at this
    simp only [ha, Option.getD_some]
    exact this
  · obtain ⟨a, ha⟩ := hix c hm
    obtain ⟨b, hb⟩ := hix d hd
    simp only [ha, hb, Option.getD_some] at e
    subst e
    have l1 := List.idxOf_lt_length_of_mem hm
    have l2 := List.idxOf_lt_length_of_mem hd
    have hii : codes.idxOf c = codes.idxOf d := (List.getElem?_inj (by omega) h3).1 (ha.trans hb.symm)
    have g1 : codes[codes.idxOf c]'l1 = c := by simp
    have g2 : codes[codes.idxOf d]'l2 = d := by simp
    rw [← g1, ← g2]
    congr 1
end Go.Proofs.YtihdpijgngooaaaGreatDoor
namespace Go.Proofs.YtihdpijgngooaaaGreatDoor
open Go Go.RowKit Go.Shelf Go.Lib
theorem add0 (b i : Nat) : (⟨b, 0, none⟩ : Addr).add i = ⟨b, i, none⟩ := by
  by_cases h0 : i = 0 <;> simp [Addr.add, h0]
theorem StrsR.blk {w : World} {b : Nat} {c : Array Value} {t : TypeId} {l : List ByteArray} (h : Blk w b c t) (hc : c.toList = l.map .string) (hl : (l.length : Int) ≤ 1000000) : StrsR w w.heap.size (.slice (some ⟨b, 0, none⟩) l.length l.length) l := by
  refine ⟨_, _, rfl, Nat.le_refl _, by omega, fun _ => ⟨_, rfl⟩, fun y hy h0 => ?_⟩
  obtain rfl := Option.some.inj hy
  refine ⟨h.lt, fun i hi s hs => ?_⟩
  rw [add0, h.cell, ← Array.getElem?_toList, hc, List.getElem?_map, hs]
  rfl
theorem IntsR.blk {w : World} {b : Nat} {c : Array Value} {t : TypeId} {l : List Int} (h : Blk w b c t) (hc : c.toList = l.map (.int .i64)) (hl : (l.length : Int) ≤ 1000000): IntsR w w.heap.size (.slice (some ⟨b, 0, none⟩) l.length l.length) l := by
  refine ⟨_, _, rfl, Nat.le_refl _, by omega, fun _ => ⟨_, rfl⟩, fun y hy h0 => ?_⟩
  obtain rfl := Option.some.inj hy
  refine ⟨h.lt, fun i hi s hs => ?_⟩
  rw [add0, h.cell, ← Array.getElem?_toList, hc, List.getElem?_map, hs]
  rfl
def reserved : List ByteArray := [⟨#[118, 97, 114]⟩, ⟨#[102, 110]⟩, ⟨#[110, 101, 119]⟩, ⟨#[99, 97, 108, 108]⟩]
def lettersS : ByteArray := ⟨#[97, 98, 99, 100, 101, 102, 103, 104, 105, 106, 107, 108, 109, 110, 111, 112, 113, 114, 115, 116, 117, 118, 119, 120, 121, 122, 48, 49, 50, 51, 52, 53, 54, 55, 56, 57]⟩
def nameRest (s : ByteArray) : Bool := eqB ⟨(trimS s.data.toList lettersS.data.toList).toArray⟩ ⟨#[]⟩
def first (s : ByteArray) : Nat := if h : 0 < s.size then s[0].toNat else 0
def nameOk (s : ByteArray) : Bool := !memB s reserved && (!s.toList.isEmpty && decide (s.size ≤ 8) && decide (97 ≤ first s) && decide (first s ≤ 122) && nameRest s)
theorem strim_any (s : ByteArray) (w : World) (hs : s.size ≤ 9223372036854775807) : Calls Tryz.prog 160 #[.string s, .string ⟨#[97, 98, 99, 100, 101, 102, 103, 104, 105, 106, 107, 108, 109, 110, 111, 112, 113, 114, 115, 116, 117, 118, 119, 120, 121, 122, 48, 49, 50, 51, 52, 53, 54, 55, 56, 57]⟩] w fun e w' => ∃ r, e = .returned (.string r) ∧ eqB r ⟨#[]⟩ = nameRest s ∧ Ext w w' :=
  (Any.strings_Trim_laid Tryz.lays160 (by kernel_rfl) s lettersS w hs (by decide) (ascii_of_all (by decide))).mono fun _ _ h => ⟨_, h.1, rfl, h.2⟩
set_option maxRecDepth 100000 in
set_option maxHeartbeats 1600000 in
theorem name_any (s : ByteArray) (w : World) (hs : s.size ≤ 9223372036854775807) : Calls Tryz.prog 130 #[.string s] w fun e w' => e = .returned (.bool (nameOk s)) ∧ Ext w w' := by
  obtain ⟨W, hW⟩ : ∃ W, W = w.alloc (.cells #[.string ⟨#[118, 97, 114]⟩, .string ⟨#[102, 110]⟩, .string ⟨#[110, 101, 119]⟩, .string ⟨#[99, 97, 108, 108]⟩] 9) := ⟨_, rfl⟩
  have hx : Ext w W := by rw [hW]; exact (Ext.refl _).alloc _
  have HC : Hid (Calls Tryz.prog 131 #[.slice (some ⟨w.heap.size, 0, none⟩) 4 4, .string s] W fun e w' => e = .returned (.bool (memB s reserved)) ∧ W = w') := hid (by
    refine containss_any (.slice (some ⟨w.heap.size, 0, none⟩) 4 4) reserved s W W.heap.size (StrsR.blk (l := reserved) (c := #[.string ⟨#[118, 97, 114]⟩, .string ⟨#[102, 110]⟩, .string ⟨#[110, 101, 119]⟩, .string ⟨#[99, 97, 108, 108]⟩]) (t := 9) ?_ rfl (by decide))
    rw [hW]; exact Blk.new _ _ _)
  have HT := hid (strim_any s W hs)
  have HW := hid hW
  have Hs := hid hs
  clear hW hs
  go_enter Tryz.func130, Tryz.ntmps130
  go_wp2_with fail
  rw [← HW.out]
  refine HC.out.mono ?_
  intro e w1 hx1
  obtain ⟨rfl, rfl⟩ := hx1
  clear HC
  cases hm : memB s reserved with
  | true =>
    have Hr := hid (show nameOk s = false by unfold nameOk; rw [hm]; rfl)
    go_wp2
    go_ret
    exact ⟨by rw [Hr.out]; rfl, hx⟩
  | false =>
    have Hm := hid hm
    clear hm
    by_cases h0 : s.toList = []
    · have Hr := hid (show nameOk s = false by unfold nameOk; rw [h0]; simp)
      clear HT
      go_wp2
      go_ret
      exact ⟨by rw [Hr.out]; rfl, hx⟩
    have hz : 0 < s.size := by
      rcases Nat.eq_zero_or_pos s.size with h | h
      · exact absurd (by rw [toList_data]; exact List.eq_nil_of_length_eq_zero (by simpa using h)) h0
      · exact h
    have H0 := hid (show (!s.toList.isEmpty) = true by simpa using h0)
    have Hf := hid (show first s = s[0].toNat by unfold first; rw [dif_pos hz])
    by_cases h8 : s.size ≤ 8
    · by_cases h97 : 97 ≤ s[0].toNat
      · by_cases h122 : s[0].toNat ≤ 122
        · have Hd := hid (show nameOk s = nameRest s by unfold nameOk; rw [Hm.out, H0.out, Hf.out, decide_eq_true h8, decide_eq_true h97, decide_eq_true h122]; simp)
          clear Hf Hs Hm
          go_wp2_with fail
          refine HT.out.mono ?_
          intro e w2 hx2
          obtain ⟨r, rfl, hr, hx2⟩ := hx2
          clear HT
          cases hq : nameRest s with
          | true =>
            rw [hq] at hr
            have Hq := hid hq
            clear hq
            unfold eqB at hr
            simp at hr
            go_wp2
            go_ret
            exact ⟨by rw [Hd.out, Hq.out]; exact congrArg (fun b => Ending.returned (Value.bool b)) H0.out, hx.trans hx2⟩
          | false =>
            rw [hq] at hr
            have Hq := hid hq
            clear hq
            unfold eqB at hr
            simp at hr
            go_wp2
            go_ret
            exact ⟨by rw [Hd.out, Hq.out]; exact congrArg (fun b => Ending.returned (Value.bool b)) (by rw [H0.out]; simpa using hr), hx.trans hx2⟩
        · have Hr := hid (show nameOk s = false by unfold nameOk; rw [Hf.out, decide_eq_false h122]; simp)
          clear HT
          go_wp2
          go_ret
          exact ⟨by rw [Hr.out]; rfl, hx⟩
      · have Hr := hid (show nameOk s = false by unfold nameOk; rw [Hf.out, decide_eq_false h97]; simp)
        clear HT
        go_wp2
        go_ret
        exact ⟨by rw [Hr.out]; rfl, hx⟩
    · have Hr := hid (show nameOk s = false by unfold nameOk; rw [decide_eq_false h8]; simp)
      clear HT
      go_wp2
      go_ret
      exact ⟨by rw [Hr.out]; rfl, hx⟩
end Go.Proofs.YtihdpijgngooaaaGreatDoor
namespace Go.Proofs.YtihdpijgngooaaaGreatDoor
open Go Go.RowKit
structure ErrsP (w : World) (ad : Nat → Addr) : Prop where
  at2 : w.cell? ⟨0, 0, none⟩ = some (evOf ad 2)
  at3 : w.cell? ⟨2, 0, none⟩ = some (evOf ad 3)
  at4 : w.cell? ⟨1, 0, none⟩ = some (evOf ad 4)
  at5 : w.cell? ⟨4, 0, none⟩ = some (evOf ad 5)
  at7 : w.cell? ⟨6, 0, none⟩ = some (evOf ad 7)
  at8 : w.cell? ⟨7, 0, none⟩ = some (evOf ad 8)
  at9 : w.cell? ⟨8, 0, none⟩ = some (evOf ad 9)
  ne57 : ad 5 ≠ ad 7
  row5 : ∃ cs t, w.heap[(ad 5).block]? = some (.cells cs t (0, 0))
  row7 : ∃ cs t, w.heap[(ad 7).block]? = some (.cells cs t (0, 0))
theorem ErrsP.ext {w w' : World} {ad : Nat → Addr} (h : ErrsP w ad) (x : Ext w w') : ErrsP w' ad :=
  ⟨x.cellx h.at2, x.cellx h.at3, x.cellx h.at4, x.cellx h.at5, x.cellx h.at7, x.cellx h.at8, x.cellx h.at9, h.ne57, (let ⟨cs, t, e⟩ := h.row5; ⟨cs, t, x.get e⟩), (let ⟨cs, t, e⟩ := h.row7; ⟨cs, t, x.get e⟩)⟩
def anyBad (l : List ByteArray) : Bool := l.any fun s => !nameOk s
def namesErr (l : List ByteArray) : Nat := bif anyBad l then 5 else bif dupS l then 7 else 0
set_option maxRecDepth 100000 in
set_option maxHeartbeats 800000 in
theorem namesc_any (s : ByteArray) (w : World) (hs : s.size ≤ 9223372036854775807) : Calls Tryz.prog 129 #[.string s] w fun e w' => e = .returned (.bool (!nameOk s)) ∧ Ext w w' := by
  have H := hid (name_any s w hs)
  clear hs
  go_enter Tryz.func129, Tryz.ntmps129
  go_wp2_with fail
  refine H.out.mono ?_
  intro e w1 hx
  obtain ⟨rfl, hx⟩ := hx
  clear H
  go_wp2
  go_ret
  exact ⟨rfl, hx⟩
set_option maxRecDepth 100000 in
set_option maxHeartbeats 800000 in
theorem indexfs_any (v : Value) (l : List ByteArray) (w : World) (n0 : Nat) (h : StrsR w n0 v l) (hz : ∀ s ∈ l, s.size ≤ 1000000) : Calls Tryz.prog 159 #[v, .func (.func 129) #[] #[]] w fun e w' => ∃ r : Int, e = .returned (.int .i64 r) ∧ IdxR (anyBad l = true) r ∧ Ext w w' := by
  have HS := hid h
  obtain ⟨a, cap, rfl, h2, h3, h4, _⟩ := h
  have H4 := hid h4
  have Hz := hid hz
  have hml : (l.length : Int) ≤ 9223372036854775807 := by omega
  clear h2 h3 h4 hz
  go_enter Tryz.func159, Tryz.ntmps159
  go_wp2
  go_loopw [8] (fun t8 wr => ∃ k : Nat, t8 = .int .i64 (k : Int) ∧ k ≤ l.length ∧ (∀ j t, j < k → l[j]? = some t → nameOk t = true) ∧ Ext w wr) (fun t8 _ => l.length - (intOf t8).toNat)
  case atStart => exact ⟨0, rfl, Nat.zero_le _, fun j t h => by omega, Ext.refl _⟩
  case round =>
    obtain ⟨k, rfl, hk, hne, hx⟩ := hrel
    have Hne := hid hne
    clear hne
    by_cases hlt : k < l.length
    · obtain ⟨y, rfl⟩ := H4.out (by omega)
      have hxk : l[k]? = some (l[k]'hlt) := List.getElem?_eq_getElem hlt
      obtain ⟨t, ht⟩ : ∃ t, t = l[k]'hlt := ⟨_, rfl⟩
      rw [← ht] at hxk
      have hS := HS.out.old (hx.old n0)
      obtain ⟨a', cap', h1, _, _, _, h5⟩ := hS
      obtain ⟨rfl, rfl⟩ : some y = a' ∧ cap = cap' := by simpa using h1
      have hc := (h5 y rfl (by omega)).2 k hlt t hxk
      have HN := hid (namesc_any t wr (by have := Hz.out t (List.mem_of_getElem? hxk); omega))
      have Hxk := hid hxk
      have Hx := hid hx
      clear hxk ht h1 h5 hx
      go_wp2_with fail
      refine HN.out.mono ?_
      intro e w1 hx1
      obtain ⟨rfl, hx1⟩ := hx1
      have Hx1 := hid (Hx.out.trans hx1)
      clear HN hx1 Hx hc
      cases he : nameOk t with
      | false =>
        have Hin := hid (IdxR.yes (k := k) (show anyBad l = true from List.any_eq_true.2 ⟨t, List.mem_of_getElem? Hxk.out, by simp only [he, Bool.not_false]⟩) (by omega))
        go_wp2
        go_ret
        exact ⟨(k : Int), rfl, Hin.out, Hx1.out⟩
      | true =>
        have Hf := hid he
        clear he
        go_wp2
        go_roundw
        case rel =>
          refine ⟨k + 1, by go_num, by omega, fun j u hj hu => ?_, Hx1.out⟩
          by_cases hjk : j = k
          · subst hjk
            obtain rfl := Option.some.inj (Hxk.out.symm.trans hu)
            exact Hf.out
          · exact Hne.out j u (by omega) hu
        case measure => simp [intOf]; omega
    · obtain rfl : k = l.length := by omega
      have Hx := hid hx
      clear hx
      have Hnot := hid (IdxR.no (show ¬ anyBad l = true from fun hm => by
        obtain ⟨t, ht, e⟩ := List.any_eq_true.1 hm
        obtain ⟨j, hj, e2⟩ := List.mem_iff_getElem.1 ht
        rw [Hne.out j t hj (by rw [List.getElem?_eq_getElem hj, e2])] at e
        cases e))
      go_wp2
      go_ret
      exact ⟨(-1 : Int), rfl, Hnot.out, Hx.out⟩
set_option maxRecDepth 100000 in
set_option maxHeartbeats 800000 in
theorem containsfs_any (v : Value) (l : List ByteArray) (w : World) (n0 : Nat) (h : StrsR w n0 v l) (hz : ∀ s ∈ l, s.size ≤ 1000000) : Calls Tryz.prog 128 #[v, .func (.func 129) #[] #[]] w fun e w' => e = .returned (.bool (anyBad l)) ∧ Ext w w' := by
  have H := hid (indexfs_any v l w n0 h hz)
  obtain ⟨a, cap, rfl, _⟩ := h
  clear hz
  go_enter Tryz.func128, Tryz.ntmps128
  go_wp2_with fail
  refine H.out.mono ?_
  intro e w1 hx
  obtain ⟨r, rfl, hiff, hx⟩ := hx
  have hr := hiff.1
  have Hiff := hid hiff.2
  clear hiff H
  go_wp2
  go_ret
  refine ⟨congrArg (fun n => Ending.returned (Value.bool n)) ?_, hx⟩
  have h1 := Hiff.out
  cases hv : anyBad l with
  | true => rw [hv] at h1; simpa using h1
  | false => rw [hv] at h1; simpa using h1
set_option maxRecDepth 100000 in
set_option maxHeartbeats 1600000 in
theorem names_any (v : Value) (l : List ByteArray) (w : World) (n0 : Nat) (ad : Nat → Addr) (hE : ErrsP w ad) (h : StrsR w n0 v l) (hz : ∀ s ∈ l, s.size ≤ 1000000) : Calls Tryz.prog 103 #[v] w fun e w' => e = .returned (errv (evOf ad) (namesErr l)) ∧ Ext w w' := by
  have HI := hid h
  have H := hid (containsfs_any v l w n0 h hz)
  have HE := hid hE
  obtain ⟨a, cap, rfl, h2, h3, h4, _⟩ := h
  have H4 := hid h4
  have hml : (l.length : Int) ≤ 9223372036854775807 := by omega
  clear h4 hz hE
  go_enter Tryz.func103, Tryz.ntmps103
  go_wp2_with fail
  refine H.out.mono ?_
  intro e w1 hx
  obtain ⟨rfl, hx⟩ := hx
  clear H
  have h5 := (HE.out.ext hx).at5
  have h7 := (HE.out.ext hx).at7
  unfold evOf at h5 h7
  have HS := hid (HI.out.old (hx.old n0))
  cases hb : anyBad l with
  | true =>
    have Hr := hid (show namesErr l = 5 by unfold namesErr; rw [hb]; rfl)
    clear hb
    go_wp2
    go_ret
    exact ⟨by rw [Hr.out]; rfl, hx⟩
  | false =>
  have Hb := hid hb
  have Hx := hid hx
  clear hb hx h5 HI
  go_wp2
  go_loop [10] (fun t10 => ∃ k : Nat, t10 = .int .i64 (k : Int) ∧ k ≤ l.length ∧ ∀ j, j < k → memB (l.getD j ⟨#[]⟩) (l.take j) = false) (fun t10 => l.length - (intOf t10).toNat)
  case atStart => exact ⟨0, rfl, Nat.zero_le _, fun j h => by omega⟩
  case round =>
    obtain ⟨k, rfl, hk, hne⟩ := hrel
    have Hne := hid hne
    clear hne
    by_cases hlt : k < l.length
    · obtain ⟨y, rfl⟩ := H4.out (by omega)
      have hxk : l[k]? = some (l.getD k ⟨#[]⟩) := by simp [List.getD_eq_getElem?_getD, hlt]
      obtain ⟨a', cap', h1, _, _, _, h5⟩ := HS.out
      obtain ⟨rfl, rfl⟩ : some y = a' ∧ cap = cap' := by simpa using h1
      have hc := (h5 y rfl (by omega)).2 k hlt _ hxk
      have HC := hid (containss_any _ _ (l.getD k ⟨#[]⟩) w1 n0 (HS.out.take k hk))
      obtain ⟨t, ht⟩ : ∃ t, t = l.getD k ⟨#[]⟩ := ⟨_, rfl⟩
      rw [← ht] at hc HC
      have Ht := hid ht
      clear ht hxk h1 h5
      go_wp2_with fail
      refine HC.out.mono ?_
      intro e w2 hx2
      obtain ⟨rfl, rfl⟩ := hx2
      clear HC
      cases he : memB t (l.take k) with
      | true =>
        have Hin : Hid (namesErr l = 7) := hid (by
          unfold namesErr
          rw [Hb.out, show dupS l = true from List.any_eq_true.2 ⟨k, List.mem_range.2 hlt, by rw [← Ht.out]; exact he⟩]
          rfl)
        go_wp2
        go_ret
        exact ⟨by rw [Hin.out]; rfl, Hx.out⟩
      | false =>
        have Hf := hid he
        clear he
        go_wp2
        refine ⟨⟨k + 1, by go_num, by omega, fun j hj => ?_⟩, by simp [intOf]; omega⟩
        by_cases hjk : j = k
        · subst hjk; rw [← Ht.out]; exact Hf.out
        · exact Hne.out j (by omega)
    · obtain rfl : k = l.length := by omega
      have Hnot : Hid (namesErr l = 0) := hid (by
        unfold namesErr
        rw [Hb.out, show dupS l = false from List.any_eq_false.2 fun j hj => by rw [Hne.out j (List.mem_range.1 hj)]; simp]
        rfl)
      go_wp2
      go_ret
      exact ⟨by rw [Hnot.out]; rfl, Hx.out⟩
def IdxF (p : Int → Bool) (l : List Int) (r : Int) : Prop := (r = -1 ∧ ∀ x ∈ l, p x = false) ∨ ∃ (i : Nat) (x : Int), r = (i : Int) ∧ i < l.length ∧ l[i]? = some x ∧ p x = true ∧ ∀ j y, j < i → l[j]? = some y → p y = false
set_option maxRecDepth 100000 in
set_option maxHeartbeats 800000 in
theorem indexfi_pv (b : Value) (p : Int → Bool) (v : Value) (l : List Int) (w : World) (n0 : Nat) (h : IntsR w n0 v l) (hF : ∀ n w1, Ext w w1 → Calls Tryz.prog 162 #[.int .i64 n, b] w1 fun e w' => e = .returned (.bool (p n)) ∧ Ext w1 w') :
    Calls Tryz.prog 65 #[v, .func (.func 162) #[] #[b]] w fun e w' => ∃ r : Int, e = .returned (.int .i64 r) ∧ IdxF p l r ∧ Ext w w' := by
  have HS := hid h
  have HF := hid hF
  obtain ⟨a, cap, rfl, h2, h3, h4, _⟩ := h
  have H4 := hid h4
  have hml : (l.length : Int) ≤ 9223372036854775807 := by omega
  clear h2 h3 h4 hF
  go_enter Tryz.func65, Tryz.ntmps65
  go_wp2
  go_loopw [8] (fun t8 wr => ∃ k : Nat, t8 = .int .i64 (k : Int) ∧ k ≤ l.length ∧ (∀ j t, j < k → l[j]? = some t → p t = false) ∧ Ext w wr) (fun t8 _ => l.length - (intOf t8).toNat)
  case atStart => exact ⟨0, rfl, Nat.zero_le _, fun j t h => by omega, Ext.refl _⟩
  case round =>
    obtain ⟨k, rfl, hk, hne, hx⟩ := hrel
    have Hne := hid hne
    clear hne
    by_cases hlt : k < l.length
    · obtain ⟨y, rfl⟩ := H4.out (by omega)
      have hxk : l[k]? = some (l[k]'hlt) := List.getElem?_eq_getElem hlt
      obtain ⟨t, ht⟩ : ∃ t, t = l[k]'hlt := ⟨_, rfl⟩
      rw [← ht] at hxk
      obtain ⟨a', cap', h1, _, _, _, h5⟩ := HS.out.old (hx.old n0)
      obtain ⟨rfl, rfl⟩ : some y = a' ∧ cap = cap' := by simpa using h1
      have hc := (h5 y rfl (by omega)).2 k hlt t hxk
      have HN := hid (HF.out t wr hx)
      have Hxk := hid hxk
      have Hx := hid hx
      clear hxk ht h1 h5 hx
      go_wp2_with fail
      refine HN.out.mono ?_
      intro e w1 hx1
      obtain ⟨rfl, hx1⟩ := hx1
      have Hx1 := hid (Hx.out.trans hx1)
      clear HN hx1 Hx hc
      cases he : p t with
      | true =>
        have Hin := hid (show IdxF p l (k : Int) from .inr ⟨k, t, rfl, hlt, Hxk.out, he, Hne.out⟩)
        go_wp2
        go_ret
        exact ⟨(k : Int), rfl, Hin.out, Hx1.out⟩
      | false =>
        have Hf := hid he
        clear he
        go_wp2
        go_roundw
        case rel =>
          refine ⟨k + 1, by go_num, by omega, fun j u hj hu => ?_, Hx1.out⟩
          by_cases hjk : j = k
          · subst hjk
            obtain rfl := Option.some.inj (Hxk.out.symm.trans hu)
            exact Hf.out
          · exact Hne.out j u (by omega) hu
        case measure => simp [intOf]; omega
    · obtain rfl : k = l.length := by omega
      have Hx := hid hx
      clear hx
      have Hnot := hid (show IdxF p l (-1) from .inl ⟨rfl, fun x hx => by
        obtain ⟨j, hj, e2⟩ := List.mem_iff_getElem.1 hx
        exact Hne.out j x hj (by rw [List.getElem?_eq_getElem hj, e2])⟩)
      go_wp2
      go_ret
      exact ⟨(-1 : Int), rfl, Hnot.out, Hx.out⟩
set_option maxRecDepth 100000 in
set_option maxHeartbeats 800000 in
theorem containsfi_pv (b : Value) (p : Int → Bool) (v : Value) (l : List Int) (w : World) (n0 : Nat) (h : IntsR w n0 v l) (hF : ∀ n w1, Ext w w1 → Calls Tryz.prog 162 #[.int .i64 n, b] w1 fun e w' => e = .returned (.bool (p n)) ∧ Ext w1 w') :
    Calls Tryz.prog 67 #[v, .func (.func 162) #[] #[b]] w fun e w' => e = .returned (.bool (l.any p)) ∧ Ext w w' := by
  have H := hid (indexfi_pv b p v l w n0 h hF)
  obtain ⟨a, cap, rfl, h2, h3, _⟩ := h
  have hml : (l.length : Int) ≤ 9223372036854775807 := by omega
  clear hF
  go_enter Tryz.func67, Tryz.ntmps67
  go_wp2_with fail
  refine H.out.mono ?_
  intro e w1 hx
  obtain ⟨r, rfl, hr, hx⟩ := hx
  clear H
  rcases hr with ⟨rfl, hr⟩ | ⟨i, x, rfl, hi, hxi, hp, _⟩
  · have Hr := hid (show l.any p = false from List.any_eq_false.2 fun x hx => by rw [hr x hx]; simp)
    clear hr
    go_wp2
    go_ret
    exact ⟨by rw [Hr.out]; rfl, hx⟩
  · have Hr := hid (show l.any p = true from List.any_eq_true.2 ⟨x, List.mem_of_getElem? hxi, hp⟩)
    clear hp hxi
    go_wp2
    go_ret
    exact ⟨by rw [Hr.out]; rfl, hx⟩
def pval (a1 a2 a3 : Option Addr) (c1 c2 c3 : Nat) (P : PP) : Value := .agg #[.slice a1 P.vars.length c1, .slice a2 P.funs.length c2, .slice a3 P.stmts.length c3]
def pcells (a1 a2 a3 : Option Addr) (c1 c2 c3 : Nat) (P : PP) : Array Value := #[.slice a1 P.vars.length c1, .slice a2 P.funs.length c2, .slice a3 P.stmts.length c3]
set_option maxRecDepth 100000 in
set_option maxHeartbeats 800000 in
theorem pvarsc_any (g : Nat) (a1 a2 a3 : Option Addr) (c1 c2 c3 : Nat) (P : PP) (n : Int) (w : World) (h : Blk w g (pcells a1 a2 a3 c1 c2 c3 P) 26) :
    Calls Tryz.prog 162 #[.int .i64 n, .pointer (some ⟨g, 0, none⟩)] w fun e w' => e = .returned (.bool (!P.inV n)) ∧ Ext w w' := by
  have h0 := h.av 0 rfl
  have Hr := hid (show (!P.inV n) = (decide (n < 0) || decide ((P.vars.length : Int) ≤ n)) by unfold PP.inV; simp)
  generalize hm : P.vars.length = m at *
  simp only [pcells, hm, qA0, qA1] at h0
  clear h hm
  go_enter Tryz.func162, Tryz.ntmps162
  by_cases hn : n < 0
  · go_wp2
    go_ret
    exact ⟨by rw [Hr.out, decide_eq_true hn]; rfl, Ext.refl _⟩
  · have Hn := hid hn
    by_cases hn2 : (m : Int) ≤ n
    · have Hn2 := hid hn2
      go_wp2
      go_ret
      exact ⟨by rw [Hr.out, decide_eq_false (show ¬ n < 0 by have := Hn.out; omega), decide_eq_true (show (m : Int) ≤ n by have := Hn2.out; omega)]; rfl, Ext.refl _⟩
    · have Hn2 := hid hn2
      go_wp2
      go_ret
      exact ⟨by rw [Hr.out, decide_eq_false (show ¬ n < 0 by have := Hn.out; omega), decide_eq_false (show ¬ (m : Int) ≤ n by have := Hn2.out; omega)]; rfl, Ext.refl _⟩
set_option maxRecDepth 100000 in
set_option maxHeartbeats 800000 in
theorem pvars_any (a1 a2 a3 : Option Addr) (c1 c2 c3 : Nat) (P : PP) (v : Value) (l : List Int) (w : World) (n0 : Nat) (h : IntsR w n0 v l) :
    Calls Tryz.prog 132 #[pval a1 a2 a3 c1 c2 c3 P, v] w fun e w' => e = .returned (.bool (P.allV l)) ∧ Ext w w' := by
  obtain ⟨W, hW⟩ : ∃ W, W = w.alloc (.cells (pcells a1 a2 a3 c1 c2 c3 P) 26) := ⟨_, rfl⟩
  have hx : Ext w W := by rw [hW]; exact (Ext.refl _).alloc _
  have hB : Blk W w.heap.size (pcells a1 a2 a3 c1 c2 c3 P) 26 := by rw [hW]; exact Blk.new _ _ _
  have H := hid (containsfi_pv (.pointer (some ⟨w.heap.size, 0, none⟩)) (fun n => !P.inV n) v l W n0 (h.old (hx.old n0)) (fun n w1 x => pvarsc_any _ a1 a2 a3 c1 c2 c3 P n w1 (hB.ext x)))
  have Hr := hid (show P.allV l = !l.any (fun n => !P.inV n) by unfold PP.allV; rw [List.not_any_eq_all_not]; simp)
  unfold pcells at hW
  have HW := hid hW
  obtain ⟨a, cap, rfl, _⟩ := h
  unfold pval
  generalize P.vars.length = m1 at *
  generalize P.funs.length = m2 at *
  generalize P.stmts.length = m3 at *
  clear hW hB
  go_enter Tryz.func132, Tryz.ntmps132
  go_wp2_with fail
  rw [← HW.out]
  refine H.out.mono ?_
  intro e w1 hx1
  obtain ⟨rfl, hx1⟩ := hx1
  clear H
  go_wp2
  go_ret
  exact ⟨by rw [Hr.out]; rfl, hx.trans hx1⟩
def PS.isK (s : PS) (k : List UInt8) : Bool := s.kind.toList == k
def kFun : List UInt8 := [102, 117, 110]
def kNew : List UInt8 := [110, 101, 119]
def kCall : List UInt8 := [99, 97, 108, 108]
def PP.boundY (P : PP) (s : PS) : Bool := bif s.isK kFun then decide (0 ≤ s.y) && decide (s.y < (P.funs.length : Int)) else bif s.isK kNew then true else P.inV s.y
def PP.bound (P : PP) (s : PS) : Bool := P.inV s.x && P.boundY s && P.allV s.args
def kindsS : List ByteArray := [⟨#[97, 100, 100, 114]⟩, ⟨#[99, 111, 112, 121]⟩, ⟨#[108, 111, 97, 100]⟩, ⟨#[115, 116, 111, 114, 101]⟩, ⟨#[110, 101, 119]⟩, ⟨#[102, 117, 110]⟩, ⟨#[99, 97, 108, 108]⟩]
def PP.stmtErr (P : PP) (s : PS) : Nat := bif !memB s.kind kindsS then 4 else bif !P.bound s then 2 else bif s.isK kCall && decide (3 < s.args.length) then 9 else bif (!s.isK kCall && decide (0 < s.args.length)) || (s.isK kNew && !decide (s.y = 0)) then 3 else 0
def sval (s : PS) (a : Option Addr) (cap : Nat) : Value := .agg #[.string s.kind, .int .i64 s.x, .int .i64 s.y, .slice a s.args.length cap]
def scells (s : PS) (a : Option Addr) (cap : Nat) : Array Value := #[.string s.kind, .int .i64 s.x, .int .i64 s.y, .slice a s.args.length cap]
theorem allV_one (P : PP) (n : Int) : P.allV [n] = P.inV n := by simp [PP.allV]
theorem pvars_one (a1 a2 a3 : Option Addr) (c1 c2 c3 : Nat) (P : PP) (n : Int) (w : World) :
    Calls Tryz.prog 132 #[.agg #[.slice a1 P.vars.length c1, .slice a2 P.funs.length c2, .slice a3 P.stmts.length c3], .slice (some ⟨w.heap.size, 0, none⟩) 1 1] (w.alloc (.cells #[.int .i64 n] 3)) fun e w' => e = .returned (.bool (P.inV n)) ∧ Ext w w' :=
  (pvars_any a1 a2 a3 c1 c2 c3 P _ [n] _ _ (IntsR.blk (l := [n]) (Blk.new w #[.int .i64 n] 3) rfl (by simp))).mono fun e w' ⟨h1, h2⟩ => ⟨by rw [h1, allV_one], ((Ext.refl w).alloc _).trans h2⟩
set_option maxRecDepth 100000 in
set_option maxHeartbeats 3200000 in
theorem pbound_any (a1 a2 a3 : Option Addr) (c1 c2 c3 : Nat) (P : PP) (s : PS) (a : Option Addr) (cap : Nat) (w : World) (n0 : Nat) (h : IntsR w n0 (.slice a s.args.length cap) s.args) :
    Calls Tryz.prog 134 #[pval a1 a2 a3 c1 c2 c3 P, sval s a cap] w fun e w' => e = .returned (.bool (P.bound s)) ∧ Ext w w' := by
  have HI := hid h
  clear h
  obtain ⟨W2, hW2⟩ : ∃ W2, W2 = (w.alloc (.cells (pcells a1 a2 a3 c1 c2 c3 P) 26)).alloc (.cells (scells s a cap) 73) := ⟨_, rfl⟩
  have HW2 : Hid (Ext w W2) := hid (by rw [hW2]; exact ((Ext.refl _).alloc _).alloc _)
  have hsz : W2.heap.size = w.heap.size + 1 + 1 := by rw [hW2, heap_size_alloc, heap_size_alloc]
  have HB1 : Hid (Blk W2 w.heap.size (pcells a1 a2 a3 c1 c2 c3 P) 26) := hid (by rw [hW2]; exact (Blk.new _ _ _).alloc _)
  have HB2 : Hid (Blk W2 (w.heap.size + 1) (scells s a cap) 73) := hid (by
    rw [hW2]
    have := Blk.new (w.alloc (.cells (pcells a1 a2 a3 c1 c2 c3 P) 26)) (scells s a cap) 73
    rwa [heap_size_alloc] at this)
  have H1 := hid (pvars_one a1 a2 a3 c1 c2 c3 P s.y W2)
  rw [hsz] at H1
  unfold pcells scells at hW2
  have HWe := hid hW2
  clear hW2 hsz
  unfold pval sval
  go_enter Tryz.func134, Tryz.ntmps134
  go_wp2_with fail
  rw [← HWe.out]
  refine H1.out.mono ?_
  intro e w3 hx
  obtain ⟨rfl, hx3⟩ := hx
  clear H1
  have d0 := (HB1.out.ext hx3).av 0 rfl
  have d1 := (HB1.out.ext hx3).av 1 rfl
  have d2 := (HB1.out.ext hx3).av 2 rfl
  have k0 := (HB2.out.ext hx3).av 0 rfl
  have k1 := (HB2.out.ext hx3).av 1 rfl
  have k2 := (HB2.out.ext hx3).av 2 rfl
  have k3 := (HB2.out.ext hx3).av 3 rfl
  simp only [pcells, scells, qA0, qA1, qA2] at d0 d1 d2 k0 k1 k2 k3
  have HX := hid (pvars_one a1 a2 a3 c1 c2 c3 P s.x w3)
  cases hf : (s.kind.toList == [102, 117, 110]) with
  | true =>
    have Hb := hid (show P.boundY s = (decide (0 ≤ s.y) && decide (s.y < (P.funs.length : Int))) by unfold PP.boundY PS.isK kFun; rw [hf]; rfl)
    by_cases y0 : 0 ≤ s.y
    · by_cases y1 : s.y < (P.funs.length : Int)
      · have HY := hid (show P.boundY s = true by rw [Hb.out, decide_eq_true y0, decide_eq_true y1]; rfl)
        go_wp2_with fail
        refine HX.out.mono ?_
        intro e w4 hx
        obtain ⟨rfl, hx4⟩ := hx
        have Hx4 := hid (hx3.trans hx4)
        clear HX
        cases hX : P.inV s.x with
        | false =>
          have Hr := hid (show P.bound s = false by unfold PP.bound; rw [hX]; rfl)
          go_wp2
          go_ret
          exact ⟨by rw [Hr.out]; rfl, HW2.out.trans Hx4.out⟩
        | true =>
          have Hr := hid (show P.bound s = P.allV s.args by unfold PP.bound; rw [hX, HY.out]; rfl)
          have HA := hid (pvars_any a1 a2 a3 c1 c2 c3 P _ s.args w4 n0 (HI.out.old ((HW2.out.trans Hx4.out).old n0)))
          unfold pval at HA
          clear d0 d1 d2 k0 k1 k2 k3
          have e0 := (HB1.out.ext Hx4.out).av 0 rfl
          have e1 := (HB1.out.ext Hx4.out).av 1 rfl
          have e2 := (HB1.out.ext Hx4.out).av 2 rfl
          have m0 := (HB2.out.ext Hx4.out).av 0 rfl
          have m1 := (HB2.out.ext Hx4.out).av 1 rfl
          have m2 := (HB2.out.ext Hx4.out).av 2 rfl
          have m3 := (HB2.out.ext Hx4.out).av 3 rfl
          simp only [pcells, scells, qA0, qA1, qA2] at e0 e1 e2 m0 m1 m2 m3
          go_wp2_with fail
          refine HA.out.mono ?_
          intro e w5 hx
          obtain ⟨rfl, hx5⟩ := hx
          clear HA
          go_wp2
          go_ret
          exact ⟨by rw [Hr.out]; rfl, (HW2.out.trans Hx4.out).trans hx5⟩
      · have HY := hid (show P.boundY s = false by rw [Hb.out, decide_eq_false y1]; simp)
        go_wp2_with fail
        refine HX.out.mono ?_
        intro e w4 hx
        obtain ⟨rfl, hx4⟩ := hx
        have Hx4 := hid (hx3.trans hx4)
        clear HX
        cases hX : P.inV s.x with
        | false =>
          have Hr := hid (show P.bound s = false by unfold PP.bound; rw [hX]; rfl)
          go_wp2
          go_ret
          exact ⟨by rw [Hr.out]; rfl, HW2.out.trans Hx4.out⟩
        | true =>
          have Hr := hid (show P.bound s = false by unfold PP.bound; rw [HY.out]; simp)
          go_wp2
          go_ret
          exact ⟨by rw [Hr.out]; rfl, HW2.out.trans Hx4.out⟩
    · have HY := hid (show P.boundY s = false by rw [Hb.out, decide_eq_false y0]; simp)
      go_wp2_with fail
      refine HX.out.mono ?_
      intro e w4 hx
      obtain ⟨rfl, hx4⟩ := hx
      have Hx4 := hid (hx3.trans hx4)
      clear HX
      cases hX : P.inV s.x with
      | false =>
        have Hr := hid (show P.bound s = false by unfold PP.bound; rw [hX]; rfl)
        go_wp2
        go_ret
        exact ⟨by rw [Hr.out]; rfl, HW2.out.trans Hx4.out⟩
      | true =>
        have Hr := hid (show P.bound s = false by unfold PP.bound; rw [HY.out]; simp)
        go_wp2
        go_ret
        exact ⟨by rw [Hr.out]; rfl, HW2.out.trans Hx4.out⟩
  | false =>
    cases hn : (s.kind.toList == [110, 101, 119]) with
    | true =>
      have HY := hid (show P.boundY s = true by unfold PP.boundY PS.isK kFun kNew; rw [hf, hn]; rfl)
      go_wp2_with fail
      refine HX.out.mono ?_
      intro e w4 hx
      obtain ⟨rfl, hx4⟩ := hx
      have Hx4 := hid (hx3.trans hx4)
      clear HX
      cases hX : P.inV s.x with
      | false =>
        have Hr := hid (show P.bound s = false by unfold PP.bound; rw [hX]; rfl)
        go_wp2
        go_ret
        exact ⟨by rw [Hr.out]; rfl, HW2.out.trans Hx4.out⟩
      | true =>
        have Hr := hid (show P.bound s = P.allV s.args by unfold PP.bound; rw [hX, HY.out]; rfl)
        have HA := hid (pvars_any a1 a2 a3 c1 c2 c3 P _ s.args w4 n0 (HI.out.old ((HW2.out.trans Hx4.out).old n0)))
        unfold pval at HA
        clear d0 d1 d2 k0 k1 k2 k3
        have e0 := (HB1.out.ext Hx4.out).av 0 rfl
        have e1 := (HB1.out.ext Hx4.out).av 1 rfl
        have e2 := (HB1.out.ext Hx4.out).av 2 rfl
        have m0 := (HB2.out.ext Hx4.out).av 0 rfl
        have m1 := (HB2.out.ext Hx4.out).av 1 rfl
        have m2 := (HB2.out.ext Hx4.out).av 2 rfl
        have m3 := (HB2.out.ext Hx4.out).av 3 rfl
        simp only [pcells, scells, qA0, qA1, qA2] at e0 e1 e2 m0 m1 m2 m3
        go_wp2_with fail
        refine HA.out.mono ?_
        intro e w5 hx
        obtain ⟨rfl, hx5⟩ := hx
        clear HA
        go_wp2
        go_ret
        exact ⟨by rw [Hr.out]; rfl, (HW2.out.trans Hx4.out).trans hx5⟩
    | false =>
      have Hb := hid (show P.boundY s = P.inV s.y by unfold PP.boundY PS.isK kFun kNew; rw [hf, hn]; rfl)
      cases hy : P.inV s.y with
      | true =>
        have HY := hid (show P.boundY s = true by rw [Hb.out, hy])
        go_wp2_with fail
        refine HX.out.mono ?_
        intro e w4 hx
        obtain ⟨rfl, hx4⟩ := hx
        have Hx4 := hid (hx3.trans hx4)
        clear HX
        cases hX : P.inV s.x with
        | false =>
          have Hr := hid (show P.bound s = false by unfold PP.bound; rw [hX]; rfl)
          go_wp2
          go_ret
          exact ⟨by rw [Hr.out]; rfl, HW2.out.trans Hx4.out⟩
        | true =>
          have Hr := hid (show P.bound s = P.allV s.args by unfold PP.bound; rw [hX, HY.out]; rfl)
          have HA := hid (pvars_any a1 a2 a3 c1 c2 c3 P _ s.args w4 n0 (HI.out.old ((HW2.out.trans Hx4.out).old n0)))
          unfold pval at HA
          clear d0 d1 d2 k0 k1 k2 k3
          have e0 := (HB1.out.ext Hx4.out).av 0 rfl
          have e1 := (HB1.out.ext Hx4.out).av 1 rfl
          have e2 := (HB1.out.ext Hx4.out).av 2 rfl
          have m0 := (HB2.out.ext Hx4.out).av 0 rfl
          have m1 := (HB2.out.ext Hx4.out).av 1 rfl
          have m2 := (HB2.out.ext Hx4.out).av 2 rfl
          have m3 := (HB2.out.ext Hx4.out).av 3 rfl
          simp only [pcells, scells, qA0, qA1, qA2] at e0 e1 e2 m0 m1 m2 m3
          go_wp2_with fail
          refine HA.out.mono ?_
          intro e w5 hx
          obtain ⟨rfl, hx5⟩ := hx
          clear HA
          go_wp2
          go_ret
          exact ⟨by rw [Hr.out]; rfl, (HW2.out.trans Hx4.out).trans hx5⟩
      | false =>
        have HY := hid (show P.boundY s = false by rw [Hb.out, hy])
        go_wp2_with fail
        refine HX.out.mono ?_
        intro e w4 hx
        obtain ⟨rfl, hx4⟩ := hx
        have Hx4 := hid (hx3.trans hx4)
        clear HX
        cases hX : P.inV s.x with
        | false =>
          have Hr := hid (show P.bound s = false by unfold PP.bound; rw [hX]; rfl)
          go_wp2
          go_ret
          exact ⟨by rw [Hr.out]; rfl, HW2.out.trans Hx4.out⟩
        | true =>
          have Hr := hid (show P.bound s = false by unfold PP.bound; rw [HY.out]; simp)
          go_wp2
          go_ret
          exact ⟨by rw [Hr.out]; rfl, HW2.out.trans Hx4.out⟩
set_option maxRecDepth 100000 in
set_option maxHeartbeats 3200000 in
theorem pstmt_any (a1 a2 a3 : Option Addr) (c1 c2 c3 : Nat) (P : PP) (s : PS) (a : Option Addr) (cap : Nat) (w : World) (n0 : Nat) (ad : Nat → Addr) (hE : ErrsP w ad) (h : IntsR w n0 (.slice a s.args.length cap) s.args) :
    Calls Tryz.prog 105 #[pval a1 a2 a3 c1 c2 c3 P, sval s a cap] w fun e w' => e = .returned (errv (evOf ad) (P.stmtErr s)) ∧ Ext w w' := by
  have HI := hid h
  have HE := hid hE
  clear h hE
  obtain ⟨W2, hW2⟩ : ∃ W2, W2 = (w.alloc (.cells (pcells a1 a2 a3 c1 c2 c3 P) 26)).alloc (.cells (scells s a cap) 73) := ⟨_, rfl⟩
  have HW2 : Hid (Ext w W2) := hid (by rw [hW2]; exact ((Ext.refl _).alloc _).alloc _)
  have hsz : W2.heap.size = w.heap.size + 1 + 1 := by rw [hW2, heap_size_alloc, heap_size_alloc]
  have HB1 : Hid (Blk W2 w.heap.size (pcells a1 a2 a3 c1 c2 c3 P) 26) := hid (by rw [hW2]; exact (Blk.new _ _ _).alloc _)
  have HB2 : Hid (Blk W2 (w.heap.size + 1) (scells s a cap) 73) := hid (by
    rw [hW2]
    have := Blk.new (w.alloc (.cells (pcells a1 a2 a3 c1 c2 c3 P) 26)) (scells s a cap) 73
    rwa [heap_size_alloc] at this)
  obtain ⟨W3, hW3⟩ : ∃ W3, W3 = W2.alloc (.cells #[.string ⟨#[97, 100, 100, 114]⟩, .string ⟨#[99, 111, 112, 121]⟩, .string ⟨#[108, 111, 97, 100]⟩, .string ⟨#[115, 116, 111, 114, 101]⟩, .string ⟨#[110, 101, 119]⟩, .string ⟨#[102, 117, 110]⟩, .string ⟨#[99, 97, 108, 108]⟩] 9) := ⟨_, rfl⟩
  have hx3 : Ext W2 W3 := by rw [hW3]; exact (Ext.refl _).alloc _
  have H1 : Hid (Calls Tryz.prog 131 #[.slice (some ⟨W2.heap.size, 0, none⟩) 7 7, .string s.kind] W3 fun e w' => e = .returned (.bool (memB s.kind kindsS)) ∧ W3 = w') := hid (by
    refine containss_any (.slice (some ⟨W2.heap.size, 0, none⟩) 7 7) kindsS s.kind W3 W3.heap.size (StrsR.blk (l := kindsS) (c := #[.string ⟨#[97, 100, 100, 114]⟩, .string ⟨#[99, 111, 112, 121]⟩, .string ⟨#[108, 111, 97, 100]⟩, .string ⟨#[115, 116, 111, 114, 101]⟩, .string ⟨#[110, 101, 119]⟩, .string ⟨#[102, 117, 110]⟩, .string ⟨#[99, 97, 108, 108]⟩]) (t := 9) ?_ rfl (by decide))
    rw [hW3]; exact Blk.new _ _ _)
  rw [hsz] at H1
  unfold pcells scells at hW2
  rw [hW2] at hW3
  have HW3 := hid hW3
  have H2 := hid (pbound_any a1 a2 a3 c1 c2 c3 P s a cap W3 n0 (HI.out.old ((HW2.out.trans hx3).old n0)))
  unfold pval sval at H2
  clear hW2 hsz hW3
  unfold pval sval
  have hx := HW2.out.trans hx3
  have Hx := hid hx
  have g4 := (HE.out.ext hx).at4
  unfold evOf at g4
  have d0 := (HB1.out.ext hx3).av 0 rfl
  have d1 := (HB1.out.ext hx3).av 1 rfl
  have d2 := (HB1.out.ext hx3).av 2 rfl
  have k0 := (HB2.out.ext hx3).av 0 rfl
  have k1 := (HB2.out.ext hx3).av 1 rfl
  have k2 := (HB2.out.ext hx3).av 2 rfl
  have k3 := (HB2.out.ext hx3).av 3 rfl
  simp only [pcells, scells, qA0, qA1, qA2] at d0 d1 d2 k0 k1 k2 k3
  go_enter Tryz.func105, Tryz.ntmps105
  go_wp2_with fail
  rw [← HW3.out]
  refine H1.out.mono ?_
  intro e w3 hx
  obtain ⟨rfl, rfl⟩ := hx
  clear H1
  cases hm : memB s.kind kindsS with
  | false =>
    have Hr := hid (show P.stmtErr s = 4 by unfold PP.stmtErr; rw [hm]; rfl)
    clear hm
    go_wp2
    go_ret
    exact ⟨by rw [Hr.out]; rfl, Hx.out⟩
  | true =>
  have Hm := hid hm
  clear hm
  go_wp2_with fail
  refine H2.out.mono ?_
  intro e w5 hx5
  obtain ⟨rfl, hx5⟩ := hx5
  clear H2 d0 d1 d2 k0 k1 k2 k3 g4
  have Hx5 := hid (Hx.out.trans hx5)
  have g2 := (HE.out.ext Hx5.out).at2
  have g3 := (HE.out.ext Hx5.out).at3
  have g9 := (HE.out.ext Hx5.out).at9
  unfold evOf at g2 g3 g9
  have d0 := (HB1.out.ext (hx3.trans hx5)).av 0 rfl
  have d1 := (HB1.out.ext (hx3.trans hx5)).av 1 rfl
  have d2 := (HB1.out.ext (hx3.trans hx5)).av 2 rfl
  have k0 := (HB2.out.ext (hx3.trans hx5)).av 0 rfl
  have k1 := (HB2.out.ext (hx3.trans hx5)).av 1 rfl
  have k2 := (HB2.out.ext (hx3.trans hx5)).av 2 rfl
  have k3 := (HB2.out.ext (hx3.trans hx5)).av 3 rfl
  simp only [pcells, scells, qA0, qA1, qA2] at d0 d1 d2 k0 k1 k2 k3
  clear hx5
  cases hb : P.bound s with
  | false =>
    have Hr := hid (show P.stmtErr s = 2 by unfold PP.stmtErr; rw [Hm.out, hb]; rfl)
    clear hb
    go_wp2
    go_ret
    exact ⟨by rw [Hr.out]; rfl, Hx5.out⟩
  | true =>
  have HBd := hid hb
  clear hb
  cases hc : (s.kind.toList == [99, 97, 108, 108]) with
  | true =>
    have Hc := hid (show s.isK kCall = true from hc)
    have hn : (s.kind.toList == [110, 101, 119]) = false := by
      rw [eq_of_beq hc]; rfl
    have Hn := hid (show s.isK kNew = false from hn)
    by_cases h3 : 3 < s.args.length
    · have Hr := hid (show P.stmtErr s = 9 by unfold PP.stmtErr; rw [Hm.out]; simp only [HBd.out, Hc.out, Hn.out]; simp [*])
      go_wp2
      go_ret
      exact ⟨by rw [Hr.out]; rfl, Hx5.out⟩
    · have Hr := hid (show P.stmtErr s = 0 by unfold PP.stmtErr; rw [Hm.out]; simp only [HBd.out, Hc.out, Hn.out]; simp [*])
      go_wp2
      go_ret
      exact ⟨by rw [Hr.out]; rfl, Hx5.out⟩
  | false =>
    have Hc := hid (show s.isK kCall = false from hc)
    by_cases h0 : 0 < s.args.length
    · have Hr := hid (show P.stmtErr s = 3 by unfold PP.stmtErr; rw [Hm.out]; simp only [HBd.out, Hc.out]; simp [h0])
      go_wp2
      go_ret
      exact ⟨by rw [Hr.out]; rfl, Hx5.out⟩
    · cases hn : (s.kind.toList == [110, 101, 119]) with
      | true =>
        have Hn := hid (show s.isK kNew = true from hn)
        by_cases hy : s.y = 0
        · have Hr := hid (show P.stmtErr s = 0 by unfold PP.stmtErr; rw [Hm.out]; simp only [HBd.out, Hc.out, Hn.out]; simp [*])
          go_wp2
          go_ret
          exact ⟨by rw [Hr.out]; rfl, Hx5.out⟩
        · have Hr := hid (show P.stmtErr s = 3 by unfold PP.stmtErr; rw [Hm.out]; simp only [HBd.out, Hc.out, Hn.out]; simp [*])
          go_wp2
          go_ret
          exact ⟨by rw [Hr.out]; rfl, Hx5.out⟩
      | false =>
        have Hn := hid (show s.isK kNew = false from hn)
        have Hr := hid (show P.stmtErr s = 0 by unfold PP.stmtErr; rw [Hm.out]; simp only [HBd.out, Hc.out, Hn.out]; simp [*])
        go_wp2
        go_ret
        exact ⟨by rw [Hr.out]; rfl, Hx5.out⟩
theorem add_posU (a : Addr) (j : Nat) (h : j ≠ 0) : a.add j = ⟨a.block, a.off + j, none⟩ := by simp [Addr.add, h]
def bad9 (f : PF) : Bool := decide (3 < f.params.length)
def PP.bad2 (P : PP) (f : PF) : Bool := !P.allV f.params || !P.inV f.ret
def bad7 (f : PF) : Bool := dupI f.params
def PP.funsErr (P : PP) : Nat := bif P.funs.any bad9 then 9 else bif P.funs.any P.bad2 then 2 else bif P.funs.any bad7 then 7 else 0
theorem any_at {α : Type} {l : List α} {p : α → Bool} {k : Nat} {x : α} (hx : l[k]? = some x) (hp : p x = true) : l.any p = true := List.any_eq_true.2 ⟨x, List.mem_of_getElem? hx, hp⟩
theorem any_no {α : Type} {l : List α} {p : α → Bool} (h : ∀ j x, j < l.length → l[j]? = some x → p x = false) : l.any p = false :=
  List.any_eq_false.2 fun x hx => by
    obtain ⟨j, hj⟩ := List.getElem?_of_mem hx
    have h3 : j < l.length := by
      rcases Nat.lt_or_ge j l.length with h | h
      · exact h
      · rw [List.getElem?_eq_none h] at hj; cases hj
    simp [h j x h3 hj]
theorem all_step {α : Type} {l : List α} {p : α → Bool} {k : Nat} {x : α} (hne : ∀ j t, j < k → l[j]? = some t → p t = false) (hx : l[k]? = some x) (hp : p x = false) : ∀ j t, j < k + 1 → l[j]? = some t → p t = false := fun j t hj ht => by
  by_cases hjk : j = k
  · subst hjk
    obtain rfl := Option.some.inj (hx.symm.trans ht)
    exact hp
  · exact hne j t (by omega) ht
theorem FunsR.at {w : World} {n0 : Nat} {a : Option Addr} {n cap : Nat} {l : List PF} (h : FunsR w n0 (.slice a n cap) l) {k : Nat} (hk : k < l.length) : ∃ (y : Addr) (f : PF) (av : Option Addr) (cv : Nat), a = some y ∧ l[k]? = some f ∧ w.cell? (y.add (k * 3)) = some (.string f.name) ∧ w.cell? ⟨(y.add (k * 3)).block, (y.add (k * 3)).off + 1, none⟩ = some (.slice av f.params.length cv) ∧ w.cell? ⟨(y.add (k * 3)).block, (y.add (k * 3)).off + 2, none⟩ = some (.int .i64 f.ret) ∧ IntsR w n0 (.slice av f.params.length cv) f.params := by
  obtain ⟨a', cap', h1, _, _, h4, h5⟩ := h
  obtain ⟨rfl, rfl, rfl⟩ : a = a' ∧ n = l.length ∧ cap = cap' := by simpa using h1
  obtain ⟨y, hy⟩ := h4 (by omega)
  obtain ⟨pv, e0, e1, e2, e3⟩ := (h5 y hy (by omega)).2 k hk (l[k]'hk) (List.getElem?_eq_getElem hk)
  obtain ⟨av, cv, rfl, _⟩ := id e3
  rw [add_posU _ _ (by decide)] at e1 e2
  exact ⟨y, _, av, cv, hy, List.getElem?_eq_getElem hk, e0, e1, e2, e3⟩
theorem StmtsR.at {w : World} {n0 : Nat} {a : Option Addr} {n cap : Nat} {l : List PS} (h : StmtsR w n0 (.slice a n cap) l) {k : Nat} (hk : k < l.length) : ∃ (y : Addr) (s : PS) (av : Option Addr) (cv : Nat), a = some y ∧ l[k]? = some s ∧ w.cell? (y.add (k * 4)) = some (.string s.kind) ∧ w.cell? ⟨(y.add (k * 4)).block, (y.add (k * 4)).off + 1, none⟩ = some (.int .i64 s.x) ∧ w.cell? ⟨(y.add (k * 4)).block, (y.add (k * 4)).off + 2, none⟩ = some (.int .i64 s.y) ∧ w.cell? ⟨(y.add (k * 4)).block, (y.add (k * 4)).off + 3, none⟩ = some (.slice av s.args.length cv) ∧ IntsR w n0 (.slice av s.args.length cv) s.args := by
  obtain ⟨a', cap', h1, _, _, h4, h5⟩ := h
  obtain ⟨rfl, rfl, rfl⟩ : a = a' ∧ n = l.length ∧ cap = cap' := by simpa using h1
  obtain ⟨y, hy⟩ := h4 (by omega)
  obtain ⟨pv, e0, e1, e2, e3, e4⟩ := (h5 y hy (by omega)).2 k hk (l[k]'hk) (List.getElem?_eq_getElem hk)
  obtain ⟨av, cv, rfl, _⟩ := id e4
  rw [add_posU _ _ (by decide)] at e1 e2 e3
  exact ⟨y, _, av, cv, hy, List.getElem?_eq_getElem hk, e0, e1, e2, e3, e4⟩
theorem FunsR.len {w : World} {n0 : Nat} {a : Option Addr} {n cap : Nat} {l : List PF} (h : FunsR w n0 (.slice a n cap) l) : (l.length : Int) ≤ 9223372036854775807 := by
  obtain ⟨_, _, _, h2, h3, _⟩ := h
  omega
theorem StmtsR.len {w : World} {n0 : Nat} {a : Option Addr} {n cap : Nat} {l : List PS} (h : StmtsR w n0 (.slice a n cap) l) : (l.length : Int) ≤ 9223372036854775807 := by
  obtain ⟨_, _, _, h2, h3, _⟩ := h
  omega
set_option maxRecDepth 100000 in
set_option maxHeartbeats 6400000 in
theorem pfuns_any (a1 a2 a3 : Option Addr) (c1 c2 c3 : Nat) (P : PP) (w : World) (n0 : Nat) (ad : Nat → Addr) (hE : ErrsP w ad) (h : FunsR w n0 (.slice a2 P.funs.length c2) P.funs) :
    Calls Tryz.prog 104 #[pval a1 a2 a3 c1 c2 c3 P] w fun e w' => e = .returned (errv (evOf ad) P.funsErr) ∧ Ext w w' := by
  have HF := hid h
  have HE := hid hE
  have hml := h.len
  clear h hE
  obtain ⟨W, hW⟩ : ∃ W, W = w.alloc (.cells (pcells a1 a2 a3 c1 c2 c3 P) 26) := ⟨_, rfl⟩
  have HW : Hid (Ext w W) := hid (by rw [hW]; exact (Ext.refl _).alloc _)
  have HB : Hid (Blk W w.heap.size (pcells a1 a2 a3 c1 c2 c3 P) 26) := hid (by rw [hW]; exact Blk.new _ _ _)
  unfold pval
  unfold pcells at hW
  have HWe := hid hW
  clear hW
  go_enter Tryz.func104, Tryz.ntmps104
  go_wp2
  rw [← HWe.out]
  go_loopw [12] (fun t12 wr => ∃ k : Nat, t12 = .int .i64 (k : Int) ∧ k ≤ P.funs.length ∧ (∀ j f, j < k → P.funs[j]? = some f → bad9 f = false) ∧ Ext W wr) (fun t12 _ => P.funs.length - (intOf t12).toNat)
  case atStart => exact ⟨0, rfl, Nat.zero_le _, fun j t h => by omega, Ext.refl _⟩
  case round =>
    obtain ⟨k, rfl, hk, hne, hx⟩ := hrel
    have Hne := hid hne
    have Hx := hid hx
    clear hne hx
    by_cases hlt : k < P.funs.length
    · obtain ⟨y, f, av, cv, rfl, hfk, e0, e1, e2, _⟩ := (HF.out.old ((HW.out.trans Hx.out).old n0)).at hlt
      have Hfk := hid hfk
      clear hfk
      have g9 := (HE.out.ext ((HW.out.trans Hx.out).alloc (.cells #[.string f.name, .slice av f.params.length cv, .int .i64 f.ret] 75))).at9
      unfold evOf at g9
      by_cases hb : 3 < f.params.length
      · have Hb := hid (show bad9 f = true from decide_eq_true hb)
        have Hr := hid (show P.funsErr = 9 by unfold PP.funsErr; rw [any_at Hfk.out Hb.out]; rfl)
        go_wp2
        go_ret
        exact ⟨by rw [Hr.out]; rfl, HW.out.trans (Hx.out.alloc _)⟩
      · have Hb := hid (show bad9 f = false from decide_eq_false hb)
        go_wp2
        go_roundw
        case rel => exact ⟨k + 1, by go_num, by omega, all_step Hne.out Hfk.out Hb.out, Hx.out.alloc _⟩
        case measure => simp [intOf]; omega
    · obtain rfl : k = P.funs.length := by omega
      have H9 := hid (show P.funs.any bad9 = false from any_no Hne.out)
      clear Hne
      have d0 := (HB.out.ext Hx.out).av 0 rfl
      have d1 := (HB.out.ext Hx.out).av 1 rfl
      have d2 := (HB.out.ext Hx.out).av 2 rfl
      simp only [pcells, qA0, qA1, qA2] at d0 d1 d2
      go_wp2
      clear d0 d1 d2
      generalize wr = wA at *
      have HxA := Hx
      clear Hx
      go_loopw [25] (fun t25 wr => ∃ k : Nat, t25 = .int .i64 (k : Int) ∧ k ≤ P.funs.length ∧ (∀ j f, j < k → P.funs[j]? = some f → P.bad2 f = false) ∧ Ext W wr) (fun t25 _ => P.funs.length - (intOf t25).toNat)
      case atStart => exact ⟨0, rfl, Nat.zero_le _, fun j t h => by omega, HxA.out⟩
      case round =>
        obtain ⟨k, rfl, hk, hne, hx⟩ := hrel
        have Hne := hid hne
        have Hx := hid hx
        clear hne hx HxA
        have d0 := (HB.out.ext Hx.out).av 0 rfl
        have d1 := (HB.out.ext Hx.out).av 1 rfl
        have d2 := (HB.out.ext Hx.out).av 2 rfl
        simp only [pcells, qA0, qA1, qA2] at d0 d1 d2
        by_cases hlt : k < P.funs.length
        · obtain ⟨y, f, av, cv, rfl, hfk, e0, e1, e2, hI⟩ := (HF.out.old ((HW.out.trans Hx.out).old n0)).at hlt
          have Hfk := hid hfk
          obtain ⟨W3, hW3⟩ : ∃ W3, W3 = wr.alloc (.cells #[.string f.name, .slice av f.params.length cv, .int .i64 f.ret] 75) := ⟨_, rfl⟩
          have hx3 : Ext wr W3 := by rw [hW3]; exact (Ext.refl _).alloc _
          have HB3 : Hid (Blk W3 wr.heap.size #[.string f.name, .slice av f.params.length cv, .int .i64 f.ret] 75) := hid (by rw [hW3]; exact Blk.new _ _ _)
          have HV := hid (pvars_any a1 (some y) a3 c1 c2 c3 P _ f.params W3 n0 (hI.old (hx3.old n0)))
          unfold pval at HV
          have Hx3 := hid (Hx.out.trans hx3)
          have HW3 := hid hW3
          have q0 := (HB.out.ext Hx3.out).av 0 rfl
          have q1 := (HB.out.ext Hx3.out).av 1 rfl
          have q2 := (HB.out.ext Hx3.out).av 2 rfl
          simp only [pcells, qA0, qA1, qA2] at q0 q1 q2
          rw [hW3] at q0 q1 q2
          clear hfk hI hW3 hx3
          go_wp2_with fail
          rw [← HW3.out]
          refine HV.out.mono ?_
          intro e w4 hx4
          obtain ⟨rfl, hx4⟩ := hx4
          have Hx4 := hid (Hx3.out.trans hx4)
          have HB4 := hid (HB3.out.ext hx4)
          clear HV hx4 d0 d1 d2 q0 q1 q2
          have d0 := (HB.out.ext Hx4.out).av 0 rfl
          have d1 := (HB.out.ext Hx4.out).av 1 rfl
          have d2 := (HB.out.ext Hx4.out).av 2 rfl
          have m0 := HB4.out.av 0 rfl
          have m1 := HB4.out.av 1 rfl
          have m2 := HB4.out.av 2 rfl
          simp only [pcells, qA0, qA1, qA2] at d0 d1 d2 m0 m1 m2
          have g2 := (HE.out.ext (HW.out.trans Hx4.out)).at2
          unfold evOf at g2
          cases hA : P.allV f.params with
          | false =>
            have Hb := hid (show P.bad2 f = true by unfold PP.bad2; rw [hA]; rfl)
            have Hr := hid (show P.funsErr = 2 by unfold PP.funsErr; rw [H9.out, any_at Hfk.out Hb.out]; rfl)
            go_wp2
            go_ret
            exact ⟨by rw [Hr.out]; rfl, HW.out.trans Hx4.out⟩
          | true =>
            have HA := hid hA
            have HV2 := hid (pvars_one a1 (some y) a3 c1 c2 c3 P f.ret w4)
            clear hA g2
            go_wp2_with fail
            refine HV2.out.mono ?_
            intro e w5 hx5
            obtain ⟨rfl, hx5⟩ := hx5
            have Hx5 := hid (Hx4.out.trans hx5)
            have g2 := (HE.out.ext (HW.out.trans Hx5.out)).at2
            unfold evOf at g2
            clear HV2 hx5 d0 d1 d2 m0 m1 m2
            cases hA2 : P.inV f.ret with
            | false =>
              have Hb := hid (show P.bad2 f = true by unfold PP.bad2; rw [hA2]; simp)
              have Hr := hid (show P.funsErr = 2 by unfold PP.funsErr; rw [H9.out, any_at Hfk.out Hb.out]; rfl)
              go_wp2
              go_ret
              exact ⟨by rw [Hr.out]; rfl, HW.out.trans Hx5.out⟩
            | true =>
              have Hb := hid (show P.bad2 f = false by unfold PP.bad2; rw [HA.out, hA2]; rfl)
              clear hA2 g2
              go_wp2
              go_roundw
              case rel => exact ⟨k + 1, by go_num, by omega, all_step Hne.out Hfk.out Hb.out, Hx5.out⟩
              case measure => simp [intOf]; omega
        · obtain rfl : k = P.funs.length := by omega
          have H2 := hid (show P.funs.any P.bad2 = false from any_no Hne.out)
          clear Hne
          go_wp2
          clear d0 d1 d2
          generalize wr = wA at *
          have HxA := Hx
          clear Hx
          go_loopw [47] (fun t47 wr => ∃ k : Nat, t47 = .int .i64 (k : Int) ∧ k ≤ P.funs.length ∧ (∀ j f, j < k → P.funs[j]? = some f → bad7 f = false) ∧ Ext W wr) (fun t47 _ => P.funs.length - (intOf t47).toNat)
          case atStart => exact ⟨0, rfl, Nat.zero_le _, fun j t h => by omega, HxA.out⟩
          case round =>
            obtain ⟨k, rfl, hk, hne, hx⟩ := hrel
            have Hne := hid hne
            have Hx := hid hx
            clear hne hx HxA
            by_cases hlt : k < P.funs.length
            · obtain ⟨y, f, av, cv, rfl, hfk, e0, e1, e2, hI⟩ := (HF.out.old ((HW.out.trans Hx.out).old n0)).at hlt
              have Hfk := hid hfk
              have HT := hid (twice_any _ f.params (wr.alloc (.cells #[.string f.name, .slice av f.params.length cv, .int .i64 f.ret] 75)) n0 (hI.old (((Ext.refl wr).alloc _).old n0)))
              have g7 := (HE.out.ext ((HW.out.trans Hx.out).alloc (.cells #[.string f.name, .slice av f.params.length cv, .int .i64 f.ret] 75))).at7
              unfold evOf at g7
              clear hfk hI
              go_wp2_with fail
              refine HT.out.mono ?_
              intro e w2 hx2
              obtain ⟨rfl, rfl⟩ := hx2
              clear HT
              cases hb : dupI f.params with
              | true =>
                have Hb := hid (show bad7 f = true from hb)
                clear hb
                have Hr := hid (show P.funsErr = 7 by unfold PP.funsErr; rw [H9.out, H2.out, any_at Hfk.out Hb.out]; rfl)
                go_wp2
                go_ret
                exact ⟨by rw [Hr.out]; rfl, HW.out.trans (Hx.out.alloc _)⟩
              | false =>
                have Hb := hid (show bad7 f = false from hb)
                clear hb
                go_wp2
                go_roundw
                case rel => exact ⟨k + 1, by go_num, by omega, all_step Hne.out Hfk.out Hb.out, Hx.out.alloc _⟩
                case measure => simp [intOf]; omega
            · obtain rfl : k = P.funs.length := by omega
              have H7 := hid (show P.funs.any bad7 = false from any_no Hne.out)
              have Hr := hid (show P.funsErr = 0 by unfold PP.funsErr; rw [H9.out, H2.out, H7.out]; rfl)
              go_wp2
              go_ret
              exact ⟨by rw [Hr.out]; rfl, HW.out.trans Hx.out⟩
def icells (l : List Int) : List Value := l.map fun n => Value.int .i64 n
theorem ints_info : (Tryz.prog.info? 3).map (fun i => (i.zero, i.size, i.bytes)) = some (some (.int .i64 0), 1, 8) := by kernel_rfl
def IRow (base : Nat) (w : World) (v : Value) (l : List Int) : Prop := w.ownsRow base 3 1 v l.length (icells l)
theorem icells_append (l m : List Int) : icells (l ++ m) = icells l ++ icells m := by simp [icells]
theorem icells_one {l : List Int} : ∀ u ∈ icells l, u.oneCell' = true := by
  intro u hu
  simp only [icells, List.mem_map] at hu
  obtain ⟨b, _, rfl⟩ := hu
  rfl
theorem IRow.ext {base : Nat} {w w' : World} {v : Value} {l : List Int} (h : IRow base w v l) (x : Ext w w') : IRow base w' v l := own_ext h x
theorem IRow.keep {base : Nat} {X : Nat → Prop} {w w' : World} {v : Value} {l : List Int} (h : IRow base w v l) (k : Keep X w w') (hx : ∀ b, v.ownBlock = some b → ¬ X b) : IRow base w' v l := by
  obtain ⟨h1, h2⟩ := h
  refine ⟨h1, h2.imp id ?_⟩
  rintro ⟨g, cap, cur, rfl, hb, hg, h3⟩
  exact ⟨g, cap, cur, rfl, hb, Keep.get k hg (hx g rfl), h3⟩
theorem IRow.nil (base : Nat) (w : World) : IRow base w (.slice none 0 0) [] := World.ownsRow_nil _ _ _ _
theorem IRow.lt {base : Nat} {w : World} {v : Value} {l : List Int} (h : IRow base w v l) {b : Nat} (hb : v.ownBlock = some b) : base ≤ b ∧ b < w.heap.size := World.ownsRow.lt h b hb
theorem IRow.form {base : Nat} {w : World} {v : Value} {l : List Int} (h : IRow base w v l) : ∃ a cap, v = .slice a l.length cap := by
  rcases h.2 with ⟨h2, h3⟩ | ⟨g, cap, cur, h2, _⟩
  · exact ⟨none, 0, by rw [h2, h3]⟩
  · exact ⟨_, _, h2⟩
theorem IRow.ints {base : Nat} {w : World} {a : Option Addr} {n cap : Nat} {l : List Int} (h : IRow base w (.slice a n cap) l) (hi : ∀ i, l.getD i 0 ≤ 9223372036854775807) : Ints w a l.length l := by
  refine ⟨rfl, ?_, ?_, hi⟩
  · intro hp
    rcases h.2 with ⟨h2, h3⟩ | ⟨g, cap, cur, h2, _⟩
    · omega
    · simp only [Value.slice.injEq] at h2; exact ⟨_, h2.1⟩
  · intro x hx i hil
    rcases h.2 with ⟨h2, h3⟩ | ⟨g, cap, cur, h2, hb, hg, hnc, _, hcs, htake⟩
    · omega
    · simp only [Value.slice.injEq] at h2
      obtain ⟨rfl, _, _⟩ := h2
      obtain rfl := Option.some.inj hx
      have hc : Blk w g cur 3 := hg
      rw [show (⟨g, 0, none⟩ : Addr).add i = ⟨g, i, none⟩ from by by_cases h0 : i = 0 <;> simp [Addr.add, h0], hc.cell i]
      have h2 : cur[i]? = (icells l)[i]? := by
        rw [← htake, List.getElem?_take, if_pos (by omega)]
        simp
      rw [h2]
      simp only [icells, List.getElem?_map, List.getElem?_eq_getElem hil, Option.map_some, List.getD_eq_getElem?_getD, Option.getD_some]
def nm (s : ByteArray) (k : Nat) : List Int := (List.range k).map fun i => (four s (8 + 4 * i) : Int)
def DecR (s : ByteArray) (ev : Nat → Value) (w : World) : Ending → World → Prop := fun e w' =>
  if (frOf s).code = 0 then ∃ a cap, e = .returned (.tuple #[frv (frOf s) a cap, .nilIface]) ∧ Ints w' a (frOf s).nums.length (frOf s).nums ∧ Ext w w'
  else e = .returned (.tuple #[fr0, ev (frOf s).code]) ∧ Ext w w'
theorem DecR.yes {s : ByteArray} {ev : Nat → Value} {w w' : World} {b0 : UInt8} {fr to seq : Int} {nums : List Int} {n cap : Nat} {a : Option Addr} (hf : frOf s = ⟨b0, fr, to, seq, nums⟩) (hl : nums.length = n) (hc : Fr.code ⟨b0, fr, to, seq, nums⟩ = 0) (hi : Ints w' a n nums) (hx : Ext w w') :
    DecR s ev w (.returned (.tuple #[.agg #[.int .u8 (b0.toNat : Int), .int .i64 fr, .int .i64 to, .int .i64 seq, .slice a n cap], .nilIface])) w' := by
  subst hl
  unfold DecR
  rw [hf, if_pos hc]
  exact ⟨a, cap, rfl, hi, hx⟩
theorem DecR.no {s : ByteArray} {ev : Nat → Value} {w w' : World} {f : Fr} {v : Value} (hf : frOf s = f) (hc : f.code ≠ 0) (hv : v = ev f.code) (hx : Ext w w') : DecR s ev w (.returned (.tuple #[fr0, v])) w' := by
  unfold DecR
  rw [hf, if_neg hc, hv]
  exact ⟨rfl, hx⟩
end Go.Proofs.YtihdpijgngooaaaGreatDoor
