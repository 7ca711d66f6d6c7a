/- Texts of one proof, put together: SE U2 U3. -/
import Derived.Test.YtbagppdibncfdaaGreatDoorHHN01
import Derived.Test.YtbagppdibncfdaaGreatDoorProg
import Derived.Stop.LaidErr
import Derived.Stop.ErrReads
import Derived.Stop.Joined
import Derived.MakeChecks
import Derived.LaidSub
set_option linter.unusedSimpArgs false
set_option linter.unusedVariables false
namespace Go.Proofs.YtbagppdibncfdaaGreatDoor
open Go Go.RowKit Go.ChangeShapes
theorem errStar : "*" ++ "errors.errorString" = "*errors.errorString" := by decide
theorem errRow (u : TypeId) (h : Tryz.prog.typeName? 3 u = some "*errors.errorString") : u = 282 :=
  typeName_ptr_named (nm := "errors.errorString") (by rw [errStar]; kernel_rfl) (by kernel_rfl) (by decide) u (by rw [errStar]; exact h)
theorem errCells : Tryz.prog.cellsOf 284 = 1 := by kernel_rfl
theorem strCells : Tryz.prog.cellsOf 9 = 1 := by kernel_rfl
structure SentAt (W : World) (g : Nat) (a : Addr) : Prop where
  var : W.cell? ⟨g, 0, none⟩ = some (.iface 282 (.pointer (some a)))
  row : ∃ c t, W.heap[a.block]? = some (.cells c t (0, 0))
  text : ∃ s, W.cell? a = some (.string s)
def sentD (t : List UInt8) : DataW Unit := .iface "*errors.errorString" (.ptr (.agg [.lit (.string t)]))
set_option maxRecDepth 100000 in
theorem sents_of {W : World} : ∀ (l : List (String × Nat × List UInt8)) (ps : List MemPlace), DataW.LaidVars Tryz.prog W (l.map fun x => (x.1, sentD x.2.2)) ps → ps.Nodup →
    (∀ b off, MemPlace.cell b off ∈ ps → (∃ c t, W.heap[b]? = some (.cells c t (0, 0))) ∧ ∀ u v, W.cell? ⟨b, off, none⟩ = some (.iface u v) → Value.okWide Tryz.prog W .any 0 u v) →
    (∀ x ∈ l, Tryz.prog.globalNamed x.1 = some x.2.1 ∧ (Tryz.prog.globals[x.2.1]?).map (·.type) = some 35) →
    ∃ pa : List Addr, pa.length = l.length ∧ (∀ (i : Nat) (x : String × Nat × List UInt8) (a : Addr), l[i]? = some x → pa[i]? = some a → SentAt W x.2.1 a) ∧ pa.Nodup ∧ ∀ a ∈ pa, MemPlace.cell a.block a.off ∈ ps
  | [], ps, _, _, _, _ => ⟨[], rfl, fun i x a h => by simp at h, List.nodup_nil, fun a h => by simp at h⟩
  | (n, k, tx) :: r, ps, h, hnd, hrows, hg => by
    obtain ⟨g, t, cs, fuel, p, q, hg0, ht0, hv0, hd0, hq, rfl⟩ := h
    obtain ⟨hk1, hk2⟩ := hg (n, k, tx) (by simp)
    obtain rfl := Option.some.inj (hk1.symm.trans hg0)
    obtain rfl := Option.some.inj (hk2.symm.trans ht0)
    obtain ⟨l0⟩ := cs
    have ok0 : ∀ u v, l0 = [.iface u v] → Value.okWide Tryz.prog W .any 0 u v := fun u v e => by
      subst e
      exact (hrows k 0 (by simp [MemPlace.row])).2 u v (by simpa using World.var?_cell hk1 hv0 0)
    obtain ⟨a0, s0, rfl, hc0, hs0, hz0, rfl⟩ := errorString_of_trod Tryz.underlying35 errRow Tryz.underlying282 Tryz.underlying284 rfl rfl Tryz.underlying9 errCells strCells hd0 ok0
    have hnd' := hnd
    rw [List.append_assoc] at hnd'
    have hq' : q.Nodup := (List.nodup_append.1 (List.nodup_append.1 hnd').2.1).2.1
    obtain ⟨pa, e1, e2, e3, e4⟩ := sents_of r q hq hq' (fun b off hm => hrows b off (List.mem_append_right _ hm)) (fun x hx => hg x (List.mem_cons_of_mem _ hx))
    have hin : MemPlace.cell a0.block a0.off ∈ MemPlace.row a0 1 := by simp [MemPlace.row]
    refine ⟨a0 :: pa, by simp [e1], ?_, ?_, ?_⟩
    · intro i x a hx ha
      cases i with
      | zero =>
        simp only [List.getElem?_cons_zero, Option.some.injEq] at hx ha
        subst hx ha
        exact ⟨by simpa using World.var?_cell hk1 hv0 0, (hrows a0.block a0.off (by simp [hin])).1, s0, hc0⟩
      | succ i =>
        simp only [List.getElem?_cons_succ] at hx ha
        exact e2 i x a hx ha
    · refine List.nodup_cons.2 ⟨fun hm => ?_, e3⟩
      have h1 := e4 a0 hm
      have h2 := (List.nodup_append.1 (List.nodup_append.1 hnd').2.1).2.2 _ hin _ h1
      exact h2 rfl
    · intro a ha
      rcases List.mem_cons.1 ha with rfl | ha
      · simp [hin]
      · simp [e4 a ha]
theorem sents_met {W : World} (l : List (String × Nat × List UInt8)) (h : laidMet Tryz.prog (l.map fun x => (x.1, sentD x.2.2)) W) (hg : ∀ x ∈ l, Tryz.prog.globalNamed x.1 = some x.2.1 ∧ (Tryz.prog.globals[x.2.1]?).map (·.type) = some 35) :
    ∃ pa : List Addr, pa.length = l.length ∧ (∀ (i : Nat) (x : String × Nat × List UInt8) (a : Addr), l[i]? = some x → pa[i]? = some a → SentAt W x.2.1 a) ∧ pa.Nodup := by
  obtain ⟨ps, h1, h2, h3⟩ := h
  obtain ⟨pa, e1, e2, e3, _⟩ := sents_of l ps h1 h2 h3 hg
  exact ⟨pa, e1, e2, e3⟩
def sRow : Nat → String × Nat × List UInt8
  | 1 => ("fingerpost/api.ErrText", 4, [102, 105, 110, 103, 101, 114, 112, 111, 115, 116, 58, 32, 116, 101, 120, 116])
  | 2 => ("fingerpost/api.ErrBound", 3, [102, 105, 110, 103, 101, 114, 112, 111, 115, 116, 58, 32, 98, 111, 117, 110, 100])
  | 3 => ("fingerpost/api.ErrShape", 6, [102, 105, 110, 103, 101, 114, 112, 111, 115, 116, 58, 32, 115, 104, 97, 112, 101])
  | 4 => ("fingerpost/api.ErrKind", 5, [102, 105, 110, 103, 101, 114, 112, 111, 115, 116, 58, 32, 107, 105, 110, 100])
  | 5 => ("fingerpost/api.ErrName", 1, [102, 105, 110, 103, 101, 114, 112, 111, 115, 116, 58, 32, 110, 97, 109, 101])
  | 6 => ("fingerpost/api.ErrNone", 8, [102, 105, 110, 103, 101, 114, 112, 111, 115, 116, 58, 32, 110, 111, 110, 101])
  | 7 => ("fingerpost/api.ErrExist", 2, [102, 105, 110, 103, 101, 114, 112, 111, 115, 116, 58, 32, 101, 120, 105, 115, 116])
  | 8 => ("fingerpost/api.ErrFull", 0, [102, 105, 110, 103, 101, 114, 112, 111, 115, 116, 58, 32, 102, 117, 108, 108])
  | 9 => ("fingerpost/api.ErrArgs", 9, [102, 105, 110, 103, 101, 114, 112, 111, 115, 116, 58, 32, 97, 114, 103, 115])
  | 10 => ("fingerpost/api.ErrOrder", 7, [102, 105, 110, 103, 101, 114, 112, 111, 115, 116, 58, 32, 111, 114, 100, 101, 114])
  | 11 => ("fingerpost/api.ErrSum", 10, [102, 105, 110, 103, 101, 114, 112, 111, 115, 116, 58, 32, 115, 117, 109])
  | _ => ("", 0, [])
theorem sRow_ok {c : Nat} (h1 : 1 ≤ c) (h2 : c ≤ 11) (h3 : (sRow c).2.1 ≠ 99999) : Tryz.prog.globalNamed (sRow c).1 = some (sRow c).2.1 ∧ (Tryz.prog.globals[(sRow c).2.1]?).map (·.type) = some 35 := by
  rcases (by omega : c = 1 ∨ c = 2 ∨ c = 3 ∨ c = 4 ∨ c = 5 ∨ c = 6 ∨ c = 7 ∨ c = 8 ∨ c = 9 ∨ c = 10 ∨ c = 11) with rfl | rfl | rfl | rfl | rfl | rfl | rfl | rfl | rfl | rfl | rfl <;> first | exact absurd rfl h3 | exact ⟨by kernel_rfl, by kernel_rfl⟩
theorem sRow_g {c : Nat} (h1 : 1 ≤ c) (h2 : c ≤ 11) : (sRow c).2.1 = gE c := by
  rcases (by omega : c = 1 ∨ c = 2 ∨ c = 3 ∨ c = 4 ∨ c = 5 ∨ c = 6 ∨ c = 7 ∨ c = 8 ∨ c = 9 ∨ c = 10 ∨ c = 11) with rfl | rfl | rfl | rfl | rfl | rfl | rfl | rfl | rfl | rfl | rfl <;> rfl
def sentL (codes : List Nat) : List (String × DataW Unit) := codes.map fun c => ((sRow c).1, sentD (sRow c).2.2)
theorem sent_noHandle (t : List UInt8) : (sentD t).handleName? = none := by
  unfold sentD DataW.handleName?
  simp
def evOf (ad : Nat → Addr) (c : Nat) : Value := .iface 282 (.pointer (some (ad c)))
theorem sents_ad {W : World} (codes : List Nat) (hc : ∀ c ∈ codes, 1 ≤ c ∧ c ≤ 11 ∧ (sRow c).2.1 ≠ 99999) (h : laidMet Tryz.prog (sentL codes) W) :
    ∃ ad : Nat → Addr, (∀ c ∈ codes, SentAt W (gE c) (ad c)) ∧ ∀ c ∈ codes, ∀ d ∈ codes, ad c = ad d → c = d := by
  obtain ⟨pa, h1, h2, h3⟩ := sents_met (codes.map sRow) (by simpa [sentL, List.map_map, Function.comp_def] using h) (fun x hx => by
    obtain ⟨c, hm, rfl⟩ := List.mem_map.1 hx
    exact sRow_ok (hc c hm).1 (hc c hm).2.1 (hc c hm).2.2)
  rw [List.length_map] at h1
  have hix : ∀ c ∈ codes, ∃ a, pa[codes.idxOf c]? = some a := fun c hm => by
    have := List.idxOf_lt_length_of_mem hm
    exact ⟨_, List.getElem?_eq_getElem (by omega)⟩
  refine ⟨fun c => (pa[codes.idxOf c]?).getD ⟨0, 0, none⟩, fun c hm => ?_, fun c hm d hd e => ?_⟩
  · obtain ⟨a, ha⟩ := hix c hm
    have hi := List.idxOf_lt_length_of_mem hm
    have := h2 (codes.idxOf c) (sRow c) a (by rw [List.getElem?_map, List.getElem?_eq_getElem hi]; simp) ha
    rw [sRow_g (hc c hm).1 (hc c hm).2.1] at this
    simp only [ha, Option.getD_some]
    exact this
  · obtain ⟨a, ha⟩ := hix c hm
    obtain ⟨b, hb⟩ := hix d hd
    simp only [ha, hb, Option.getD_some] at e
    subst e
    have l1 := List.idxOf_lt_length_of_mem hm
    have l2 := List.idxOf_lt_length_of_mem hd
    have hii : codes.idxOf c = codes.idxOf d := (List.getElem?_inj (by omega) h3).1 (ha.trans hb.symm)
    have g1 : codes[codes.idxOf c]'l1 = c := by simp
    have g2 : codes[codes.idxOf d]'l2 = d := by simp
    rw [← g1, ← g2]
    congr 1
end Go.Proofs.YtbagppdibncfdaaGreatDoor
namespace Go.Proofs.YtbagppdibncfdaaGreatDoor
open Go Go.RowKit Go.Shelf Go.Lib
theorem add0 (b i : Nat) : (⟨b, 0, none⟩ : Addr).add i = ⟨b, i, none⟩ := by
  by_cases h0 : i = 0 <;> simp [Addr.add, h0]
theorem StrsR.blk {w : World} {b : Nat} {c : Array Value} {t : TypeId} {l : List ByteArray} (h : Blk w b c t) (hc : c.toList = l.map .string) (hl : (l.length : Int) ≤ 1000000) : StrsR w w.heap.size (.slice (some ⟨b, 0, none⟩) l.length l.length) l := by
  refine ⟨_, _, rfl, Nat.le_refl _, by omega, fun _ => ⟨_, rfl⟩, fun y hy h0 => ?_⟩
  obtain rfl := Option.some.inj hy
  refine ⟨h.lt, fun i hi s hs => ?_⟩
  rw [add0, h.cell, ← Array.getElem?_toList, hc, List.getElem?_map, hs]
  rfl
theorem IntsR.blk {w : World} {b : Nat} {c : Array Value} {t : TypeId} {l : List Int} (h : Blk w b c t) (hc : c.toList = l.map (.int .i64)) (hl : (l.length : Int) ≤ 1000000): IntsR w w.heap.size (.slice (some ⟨b, 0, none⟩) l.length l.length) l := by
  refine ⟨_, _, rfl, Nat.le_refl _, by omega, fun _ => ⟨_, rfl⟩, fun y hy h0 => ?_⟩
  obtain rfl := Option.some.inj hy
  refine ⟨h.lt, fun i hi s hs => ?_⟩
  rw [add0, h.cell, ← Array.getElem?_toList, hc, List.getElem?_map, hs]
  rfl
def reserved : List ByteArray := [⟨#[118, 97, 114]⟩, ⟨#[102, 110]⟩, ⟨#[110, 101, 119]⟩, ⟨#[99, 97, 108, 108]⟩]
def lettersS : ByteArray := ⟨#[97, 98, 99, 100, 101, 102, 103, 104, 105, 106, 107, 108, 109, 110, 111, 112, 113, 114, 115, 116, 117, 118, 119, 120, 121, 122, 48, 49, 50, 51, 52, 53, 54, 55, 56, 57]⟩
def nameRest (s : ByteArray) : Bool := eqB ⟨(trimS s.data.toList lettersS.data.toList).toArray⟩ ⟨#[]⟩
def first (s : ByteArray) : Nat := if h : 0 < s.size then s[0].toNat else 0
def nameOk (s : ByteArray) : Bool := !memB s reserved && (!s.toList.isEmpty && decide (s.size ≤ 8) && decide (97 ≤ first s) && decide (first s ≤ 122) && nameRest s)
theorem strim_any (s : ByteArray) (w : World) (hs : s.size ≤ 9223372036854775807) : Calls Tryz.prog 148 #[.string s, .string ⟨#[97, 98, 99, 100, 101, 102, 103, 104, 105, 106, 107, 108, 109, 110, 111, 112, 113, 114, 115, 116, 117, 118, 119, 120, 121, 122, 48, 49, 50, 51, 52, 53, 54, 55, 56, 57]⟩] w fun e w' => ∃ r, e = .returned (.string r) ∧ eqB r ⟨#[]⟩ = nameRest s ∧ Ext w w' :=
  (Any.strings_Trim_laid Tryz.lays160 (by kernel_rfl) s lettersS w hs (by decide) (ascii_of_all (by decide))).mono fun _ _ h => ⟨_, h.1, rfl, h.2⟩
set_option maxRecDepth 100000 in
set_option maxHeartbeats 1600000 in
theorem name_any (s : ByteArray) (w : World) (hs : s.size ≤ 9223372036854775807) : Calls Tryz.prog 107 #[.string s] w fun e w' => e = .returned (.bool (nameOk s)) ∧ Ext w w' := by
  obtain ⟨W, hW⟩ : ∃ W, W = w.alloc (.cells #[.string ⟨#[118, 97, 114]⟩, .string ⟨#[102, 110]⟩, .string ⟨#[110, 101, 119]⟩, .string ⟨#[99, 97, 108, 108]⟩] 9) := ⟨_, rfl⟩
  have hx : Ext w W := by rw [hW]; exact (Ext.refl _).alloc _
  have HC : Hid (Calls Tryz.prog 108 #[.slice (some ⟨w.heap.size, 0, none⟩) 4 4, .string s] W fun e w' => e = .returned (.bool (memB s reserved)) ∧ W = w') := hid (by
    refine containss_any (.slice (some ⟨w.heap.size, 0, none⟩) 4 4) reserved s W W.heap.size (StrsR.blk (l := reserved) (c := #[.string ⟨#[118, 97, 114]⟩, .string ⟨#[102, 110]⟩, .string ⟨#[110, 101, 119]⟩, .string ⟨#[99, 97, 108, 108]⟩]) (t := 9) ?_ rfl (by decide))
    rw [hW]; exact Blk.new _ _ _)
  have HT := hid (strim_any s W hs)
  have HW := hid hW
  have Hs := hid hs
  clear hW hs
  go_enter Tryz.func107, Tryz.ntmps107
  go_wp2_with fail
  rw [← HW.out]
  refine HC.out.mono ?_
  intro e w1 hx1
  obtain ⟨rfl, rfl⟩ := hx1
  clear HC
  cases hm : memB s reserved with
  | true =>
    have Hr := hid (show nameOk s = false by unfold nameOk; rw [hm]; rfl)
    go_wp2
    go_ret
    exact ⟨by rw [Hr.out]; rfl, hx⟩
  | false =>
    have Hm := hid hm
    clear hm
    by_cases h0 : s.toList = []
    · have Hr := hid (show nameOk s = false by unfold nameOk; rw [h0]; simp)
      clear HT
      go_wp2
      go_ret
      exact ⟨by rw [Hr.out]; rfl, hx⟩
    have hz : 0 < s.size := by
      rcases Nat.eq_zero_or_pos s.size with h | h
      · exact absurd (by rw [toList_data]; exact List.eq_nil_of_length_eq_zero (by simpa using h)) h0
      · exact h
    have H0 := hid (show (!s.toList.isEmpty) = true by simpa using h0)
    have Hf := hid (show first s = s[0].toNat by unfold first; rw [dif_pos hz])
    by_cases h8 : s.size ≤ 8
    · by_cases h97 : 97 ≤ s[0].toNat
      · by_cases h122 : s[0].toNat ≤ 122
        · have Hd := hid (show nameOk s = nameRest s by unfold nameOk; rw [Hm.out, H0.out, Hf.out, decide_eq_true h8, decide_eq_true h97, decide_eq_true h122]; simp)
          clear Hf Hs Hm
          go_wp2_with fail
          refine HT.out.mono ?_
          intro e w2 hx2
          obtain ⟨r, rfl, hr, hx2⟩ := hx2
          clear HT
          cases hq : nameRest s with
          | true =>
            rw [hq] at hr
            have Hq := hid hq
            clear hq
            unfold eqB at hr
            simp at hr
            go_wp2
            go_ret
            exact ⟨by rw [Hd.out, Hq.out]; exact congrArg (fun b => Ending.returned (Value.bool b)) H0.out, hx.trans hx2⟩
          | false =>
            rw [hq] at hr
            have Hq := hid hq
            clear hq
            unfold eqB at hr
            simp at hr
            go_wp2
            go_ret
            exact ⟨by rw [Hd.out, Hq.out]; exact congrArg (fun b => Ending.returned (Value.bool b)) (by rw [H0.out]; simpa using hr), hx.trans hx2⟩
        · have Hr := hid (show nameOk s = false by unfold nameOk; rw [Hf.out, decide_eq_false h122]; simp)
          clear HT
          go_wp2
          go_ret
          exact ⟨by rw [Hr.out]; rfl, hx⟩
      · have Hr := hid (show nameOk s = false by unfold nameOk; rw [Hf.out, decide_eq_false h97]; simp)
        clear HT
        go_wp2
        go_ret
        exact ⟨by rw [Hr.out]; rfl, hx⟩
    · have Hr := hid (show nameOk s = false by unfold nameOk; rw [decide_eq_false h8]; simp)
      clear HT
      go_wp2
      go_ret
      exact ⟨by rw [Hr.out]; rfl, hx⟩
end Go.Proofs.YtbagppdibncfdaaGreatDoor
namespace Go.Proofs.YtbagppdibncfdaaGreatDoor
open Go Go.RowKit
structure ErrsP (w : World) (ad : Nat → Addr) : Prop where
  at2 : w.cell? ⟨3, 0, none⟩ = some (evOf ad 2)
  at3 : w.cell? ⟨6, 0, none⟩ = some (evOf ad 3)
  at4 : w.cell? ⟨5, 0, none⟩ = some (evOf ad 4)
  at5 : w.cell? ⟨1, 0, none⟩ = some (evOf ad 5)
  at7 : w.cell? ⟨2, 0, none⟩ = some (evOf ad 7)
  at8 : w.cell? ⟨0, 0, none⟩ = some (evOf ad 8)
  at9 : w.cell? ⟨9, 0, none⟩ = some (evOf ad 9)
  ne57 : ad 5 ≠ ad 7
  row5 : ∃ cs t, w.heap[(ad 5).block]? = some (.cells cs t (0, 0))
  row7 : ∃ cs t, w.heap[(ad 7).block]? = some (.cells cs t (0, 0))
theorem ErrsP.ext {w w' : World} {ad : Nat → Addr} (h : ErrsP w ad) (x : Ext w w') : ErrsP w' ad :=
  ⟨x.cellx h.at2, x.cellx h.at3, x.cellx h.at4, x.cellx h.at5, x.cellx h.at7, x.cellx h.at8, x.cellx h.at9, h.ne57, (let ⟨cs, t, e⟩ := h.row5; ⟨cs, t, x.get e⟩), (let ⟨cs, t, e⟩ := h.row7; ⟨cs, t, x.get e⟩)⟩
def anyBad (l : List ByteArray) : Bool := l.any fun s => !nameOk s
def namesErr (l : List ByteArray) : Nat := bif anyBad l then 5 else bif dupS l then 7 else 0
set_option maxRecDepth 100000 in
set_option maxHeartbeats 800000 in
theorem namesc_any (s : ByteArray) (w : World) (hs : s.size ≤ 9223372036854775807) : Calls Tryz.prog 106 #[.string s] w fun e w' => e = .returned (.bool (!nameOk s)) ∧ Ext w w' := by
  have H := hid (name_any s w hs)
  clear hs
  go_enter Tryz.func106, Tryz.ntmps106
  go_wp2_with fail
  refine H.out.mono ?_
  intro e w1 hx
  obtain ⟨rfl, hx⟩ := hx
  clear H
  go_wp2
  go_ret
  exact ⟨rfl, hx⟩
set_option maxRecDepth 100000 in
set_option maxHeartbeats 800000 in
theorem indexfs_any (v : Value) (l : List ByteArray) (w : World) (n0 : Nat) (h : StrsR w n0 v l) (hz : ∀ s ∈ l, s.size ≤ 1000000) : Calls Tryz.prog 147 #[v, .func (.func 106) #[] #[]] w fun e w' => ∃ r : Int, e = .returned (.int .i64 r) ∧ IdxR (anyBad l = true) r ∧ Ext w w' := by
  have HS := hid h
  obtain ⟨a, cap, rfl, h2, h3, h4, _⟩ := h
  have H4 := hid h4
  have Hz := hid hz
  have hml : (l.length : Int) ≤ 9223372036854775807 := by omega
  clear h2 h3 h4 hz
  go_enter Tryz.func147, Tryz.ntmps147
  go_wp2
  go_loopw [8] (fun t8 wr => ∃ k : Nat, t8 = .int .i64 (k : Int) ∧ k ≤ l.length ∧ (∀ j t, j < k → l[j]? = some t → nameOk t = true) ∧ Ext w wr) (fun t8 _ => l.length - (intOf t8).toNat)
  case atStart => exact ⟨0, rfl, Nat.zero_le _, fun j t h => by omega, Ext.refl _⟩
  case round =>
    obtain ⟨k, rfl, hk, hne, hx⟩ := hrel
    have Hne := hid hne
    clear hne
    by_cases hlt : k < l.length
    · obtain ⟨y, rfl⟩ := H4.out (by omega)
      have hxk : l[k]? = some (l[k]'hlt) := List.getElem?_eq_getElem hlt
      obtain ⟨t, ht⟩ : ∃ t, t = l[k]'hlt := ⟨_, rfl⟩
      rw [← ht] at hxk
      have hS := HS.out.old (hx.old n0)
      obtain ⟨a', cap', h1, _, _, _, h5⟩ := hS
      obtain ⟨rfl, rfl⟩ : some y = a' ∧ cap = cap' := by simpa using h1
      have hc := (h5 y rfl (by omega)).2 k hlt t hxk
      have HN := hid (namesc_any t wr (by have := Hz.out t (List.mem_of_getElem? hxk); omega))
      have Hxk := hid hxk
      have Hx := hid hx
      clear hxk ht h1 h5 hx
      go_wp2_with fail
      refine HN.out.mono ?_
      intro e w1 hx1
      obtain ⟨rfl, hx1⟩ := hx1
      have Hx1 := hid (Hx.out.trans hx1)
      clear HN hx1 Hx hc
      cases he : nameOk t with
      | false =>
        have Hin := hid (IdxR.yes (k := k) (show anyBad l = true from List.any_eq_true.2 ⟨t, List.mem_of_getElem? Hxk.out, by simp only [he, Bool.not_false]⟩) (by omega))
        go_wp2
        go_ret
        exact ⟨(k : Int), rfl, Hin.out, Hx1.out⟩
      | true =>
        have Hf := hid he
        clear he
        go_wp2
        go_roundw
        case rel =>
          refine ⟨k + 1, by go_num, by omega, fun j u hj hu => ?_, Hx1.out⟩
          by_cases hjk : j = k
          · subst hjk
            obtain rfl := Option.some.inj (Hxk.out.symm.trans hu)
            exact Hf.out
          · exact Hne.out j u (by omega) hu
        case measure => simp [intOf]; omega
    · obtain rfl : k = l.length := by omega
      have Hx := hid hx
      clear hx
      have Hnot := hid (IdxR.no (show ¬ anyBad l = true from fun hm => by
        obtain ⟨t, ht, e⟩ := List.any_eq_true.1 hm
        obtain ⟨j, hj, e2⟩ := List.mem_iff_getElem.1 ht
        rw [Hne.out j t hj (by rw [List.getElem?_eq_getElem hj, e2])] at e
        cases e))
      go_wp2
      go_ret
      exact ⟨(-1 : Int), rfl, Hnot.out, Hx.out⟩
set_option maxRecDepth 100000 in
set_option maxHeartbeats 800000 in
theorem containsfs_any (v : Value) (l : List ByteArray) (w : World) (n0 : Nat) (h : StrsR w n0 v l) (hz : ∀ s ∈ l, s.size ≤ 1000000) : Calls Tryz.prog 105 #[v, .func (.func 106) #[] #[]] w fun e w' => e = .returned (.bool (anyBad l)) ∧ Ext w w' := by
  have H := hid (indexfs_any v l w n0 h hz)
  obtain ⟨a, cap, rfl, _⟩ := h
  clear hz
  go_enter Tryz.func105, Tryz.ntmps105
  go_wp2_with fail
  refine H.out.mono ?_
  intro e w1 hx
  obtain ⟨r, rfl, hiff, hx⟩ := hx
  have hr := hiff.1
  have Hiff := hid hiff.2
  clear hiff H
  go_wp2
  go_ret
  refine ⟨congrArg (fun n => Ending.returned (Value.bool n)) ?_, hx⟩
  have h1 := Hiff.out
  cases hv : anyBad l with
  | true => rw [hv] at h1; simpa using h1
  | false => rw [hv] at h1; simpa using h1
set_option maxRecDepth 100000 in
set_option maxHeartbeats 1600000 in
theorem names_any (v : Value) (l : List ByteArray) (w : World) (n0 : Nat) (ad : Nat → Addr) (hE : ErrsP w ad) (h : StrsR w n0 v l) (hz : ∀ s ∈ l, s.size ≤ 1000000) : Calls Tryz.prog 58 #[v] w fun e w' => e = .returned (errv (evOf ad) (namesErr l)) ∧ Ext w w' := by
  have HI := hid h
  have H := hid (containsfs_any v l w n0 h hz)
  have HE := hid hE
  obtain ⟨a, cap, rfl, h2, h3, h4, _⟩ := h
  have H4 := hid h4
  have hml : (l.length : Int) ≤ 9223372036854775807 := by omega
  clear h4 hz hE
  go_enter Tryz.func58, Tryz.ntmps58
  go_wp2_with fail
  refine H.out.mono ?_
  intro e w1 hx
  obtain ⟨rfl, hx⟩ := hx
  clear H
  have h5 := (HE.out.ext hx).at5
  have h7 := (HE.out.ext hx).at7
  unfold evOf at h5 h7
  have HS := hid (HI.out.old (hx.old n0))
  cases hb : anyBad l with
  | true =>
    have Hr := hid (show namesErr l = 5 by unfold namesErr; rw [hb]; rfl)
    clear hb
    go_wp2
    go_ret
    exact ⟨by rw [Hr.out]; rfl, hx⟩
  | false =>
  have Hb := hid hb
  have Hx := hid hx
  clear hb hx h5 HI
  go_wp2
  go_loop [10] (fun t10 => ∃ k : Nat, t10 = .int .i64 (k : Int) ∧ k ≤ l.length ∧ ∀ j, j < k → memB (l.getD j ⟨#[]⟩) (l.take j) = false) (fun t10 => l.length - (intOf t10).toNat)
  case atStart => exact ⟨0, rfl, Nat.zero_le _, fun j h => by omega⟩
  case round =>
    obtain ⟨k, rfl, hk, hne⟩ := hrel
    have Hne := hid hne
    clear hne
    by_cases hlt : k < l.length
    · obtain ⟨y, rfl⟩ := H4.out (by omega)
      have hxk : l[k]? = some (l.getD k ⟨#[]⟩) := by simp [List.getD_eq_getElem?_getD, hlt]
      obtain ⟨a', cap', h1, _, _, _, h5⟩ := HS.out
      obtain ⟨rfl, rfl⟩ : some y = a' ∧ cap = cap' := by simpa using h1
      have hc := (h5 y rfl (by omega)).2 k hlt _ hxk
      have HC := hid (containss_any _ _ (l.getD k ⟨#[]⟩) w1 n0 (HS.out.take k hk))
      obtain ⟨t, ht⟩ : ∃ t, t = l.getD k ⟨#[]⟩ := ⟨_, rfl⟩
      rw [← ht] at hc HC
      have Ht := hid ht
      clear ht hxk h1 h5
      go_wp2_with fail
      refine HC.out.mono ?_
      intro e w2 hx2
      obtain ⟨rfl, rfl⟩ := hx2
      clear HC
      cases he : memB t (l.take k) with
      | true =>
        have Hin : Hid (namesErr l = 7) := hid (by
          unfold namesErr
          rw [Hb.out, show dupS l = true from List.any_eq_true.2 ⟨k, List.mem_range.2 hlt, by rw [← Ht.out]; exact he⟩]
          rfl)
        go_wp2
        go_ret
        exact ⟨by rw [Hin.out]; rfl, Hx.out⟩
      | false =>
        have Hf := hid he
        clear he
        go_wp2
        refine ⟨⟨k + 1, by go_num, by omega, fun j hj => ?_⟩, by simp [intOf]; omega⟩
        by_cases hjk : j = k
        · subst hjk; rw [← Ht.out]; exact Hf.out
        · exact Hne.out j (by omega)
    · obtain rfl : k = l.length := by omega
      have Hnot : Hid (namesErr l = 0) := hid (by
        unfold namesErr
        rw [Hb.out, show dupS l = false from List.any_eq_false.2 fun j hj => by rw [Hne.out j (List.mem_range.1 hj)]; simp]
        rfl)
      go_wp2
      go_ret
      exact ⟨by rw [Hnot.out]; rfl, Hx.out⟩
end Go.Proofs.YtbagppdibncfdaaGreatDoor
