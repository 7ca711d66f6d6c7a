/- Texts of one proof, put together: Y6 ZQ ZR Y7 Y8 Y9. -/
import Derived.Test.YtdppgcbekhabnaaGreatDoorSD03
import Derived.Test.YtdppgcbekhabnaaGreatDoorSD05
import Derived.Test.YtdppgcbekhabnaaGreatDoorSD09
import Derived.Test.YtdppgcbekhabnaaGreatDoorSD12

/- slices.DeleteFunc over numbers, with a closure that may make blocks; nodes of a set. -/
namespace Go.Proofs.YtdppgcbekhabnaaGreatDoor
set_option linter.unusedSimpArgs false
set_option linter.unusedVariables false
open Go Go.RowKit

theorem icells_set (R : List Int) (i : Nat) (y : Int) : (icells R).set i (.int .i64 y) = icells (R.set i y) := by
  unfold icells; rw [List.map_set]
theorem own_putI {w : World} {base g n cap : Nat} {e : TypeId} {R : List Int} (h : w.ownsRow base e 1 (.slice (some ⟨g, 0, none⟩) n cap) n (icells R)) (i : Nat) (hi : i < R.length) (y : Int) : (w.setCell ⟨g, i, none⟩ (.int .i64 y)).ownsRow base e 1 (.slice (some ⟨g, 0, none⟩) n cap) n (icells (R.set i y)) := by
  rw [← icells_set]
  exact own_set h i (by simpa [icells] using hi) _
theorem own_i {w : World} {base g n cap : Nat} {e : TypeId} {R : List Int} (h : w.ownsRow base e 1 (.slice (some ⟨g, 0, none⟩) n cap) n (icells R)) {i : Nat} {x : Int} (hx : R[i]? = some x) : w.cell? ⟨g, i, none⟩ = some (.int .i64 x) :=
  own_get h i (by unfold icells; rw [List.getElem?_map, hx]; rfl)
theorem filter_next {p : Int → Bool} {l : List Int} {j : Nat} {x : Int} (hx : l[j]? = some x) : (l.take (j + 1)).filter p = (l.take j).filter p ++ (if p x = true then [x] else []) := by
  rw [List.take_add_one, hx]
  simp only [Option.toList, List.filter_append, List.filter_cons, List.filter_nil]

set_option maxRecDepth 100000 in
set_option maxHeartbeats 800000 in
theorem indexfi_nodesc (b : Value) (p : Int → Bool) (v : Value) (l : List Int) (w : World) (n0 : Nat) (h : IntsR w n0 v l) (hF : ∀ n w1, Ext w w1 → Calls Tryz.prog 145 #[.int .i64 n, b] w1 fun e w' => e = .returned (.bool (p n)) ∧ Ext w1 w') :
    Calls Tryz.prog 80 #[v, .func (.func 145) #[] #[b]] w fun e w' => ∃ r : Int, e = .returned (.int .i64 r) ∧ IdxF p l r ∧ Ext w w' := by
  have HS := hid h
  have HF := hid hF
  obtain ⟨a, cap, rfl, h2, h3, h4, _⟩ := h
  have H4 := hid h4
  have hml : (l.length : Int) ≤ 9223372036854775807 := by omega
  clear h2 h3 h4 hF
  go_enter Tryz.func80, Tryz.ntmps80
  go_wp2
  go_loopw [8] (fun t8 wr => ∃ k : Nat, t8 = .int .i64 (k : Int) ∧ k ≤ l.length ∧ (∀ j t, j < k → l[j]? = some t → p t = false) ∧ Ext w wr) (fun t8 _ => l.length - (intOf t8).toNat)
  case atStart => exact ⟨0, rfl, Nat.zero_le _, fun j t h => by omega, Ext.refl _⟩
  case round =>
    obtain ⟨k, rfl, hk, hne, hx⟩ := hrel
    have Hne := hid hne
    clear hne
    by_cases hlt : k < l.length
    · obtain ⟨y, rfl⟩ := H4.out (by omega)
      have hxk : l[k]? = some (l[k]'hlt) := List.getElem?_eq_getElem hlt
      obtain ⟨t, ht⟩ : ∃ t, t = l[k]'hlt := ⟨_, rfl⟩
      rw [← ht] at hxk
      obtain ⟨a', cap', h1, _, _, _, h5⟩ := HS.out.old (hx.old n0)
      obtain ⟨rfl, rfl⟩ : some y = a' ∧ cap = cap' := by simpa using h1
      have hc := (h5 y rfl (by omega)).2 k hlt t hxk
      have HN := hid (HF.out t wr hx)
      have Hxk := hid hxk
      have Hx := hid hx
      clear hxk ht h1 h5 hx
      go_wp2_with fail
      refine HN.out.mono ?_
      intro e w1 hx1
      obtain ⟨rfl, hx1⟩ := hx1
      have Hx1 := hid (Hx.out.trans hx1)
      clear HN hx1 Hx hc
      cases he : p t with
      | true =>
        have Hin := hid (show IdxF p l (k : Int) from .inr ⟨k, t, rfl, hlt, Hxk.out, he, Hne.out⟩)
        go_wp2
        go_ret
        exact ⟨(k : Int), rfl, Hin.out, Hx1.out⟩
      | false =>
        have Hf := hid he
        clear he
        go_wp2
        go_roundw
        case rel =>
          refine ⟨k + 1, by go_num, by omega, fun j u hj hu => ?_, Hx1.out⟩
          by_cases hjk : j = k
          · subst hjk
            obtain rfl := Option.some.inj (Hxk.out.symm.trans hu)
            exact Hf.out
          · exact Hne.out j u (by omega) hu
        case measure => simp [intOf]; omega
    · obtain rfl : k = l.length := by omega
      have Hx := hid hx
      clear hx
      have Hnot := hid (show IdxF p l (-1) from .inl ⟨rfl, fun x hx => by
        obtain ⟨j, hj, e2⟩ := List.mem_iff_getElem.1 hx
        exact Hne.out j x hj (by rw [List.getElem?_eq_getElem hj, e2])⟩)
      go_wp2
      go_ret
      exact ⟨(-1 : Int), rfl, Hnot.out, Hx.out⟩

set_option maxRecDepth 100000 in
set_option maxHeartbeats 3200000 in
theorem idel_nodesc (b : Value) (p : Int → Bool) (lv : Value) (l : List Int) (w0 w : World) (n0 : Nat) (hx0 : Ext w0 w) (hb0 : w0.heap.size ≤ n0) (hr : IRow n0 w lv l) (hF : ∀ n w1, Ext w0 w1 → Calls Tryz.prog 145 #[.int .i64 n, b] w1 fun e w' => e = .returned (.bool (p n)) ∧ Ext w1 w') (hfew : l.length ≤ 100000) :
    Calls Tryz.prog 144 #[lv, .func (.func 145) #[] #[b]] w fun e w' => ∃ lv', e = .returned lv' ∧ IRow n0 w' lv' (l.filter fun x => !p x) ∧ Ext w0 w' := by
  have HI := hid (indexfi_nodesc b p lv l w w.heap.size (IntsR.own hr (Nat.le_refl _)) (fun n w1 x => hF n w1 (hx0.trans x)))
  have HF := hid hF
  obtain ⟨a, c, rfl⟩ := hr.form
  have Hr := hid hr
  have Hx0 := hid hx0
  have Hb0 := hid hb0
  clear hr hF hx0 hb0
  go_enter Tryz.func144, Tryz.ntmps144
  go_wp2_with fail
  refine HI.out.mono ?_
  intro e w1 hx
  obtain ⟨r, rfl, hidx, hx1⟩ := hx
  have Hx1 := hid (Hx0.out.trans hx1)
  have Hr1 := hid (Hr.out.ext hx1)
  clear HI hx1
  rcases hidx with ⟨rfl, hall⟩ | ⟨i0, x0, rfl, hi0, hx0, hd0, hlow⟩
  · have hf : Hid (l.filter (fun x => !p x) = l) := hid (List.filter_eq_self.2 fun x hx => by rw [hall x hx]; rfl)
    clear hall
    go_wp2
    go_ret
    exact ⟨_, rfl, by rw [hf.out]; exact Hr1.out, Hx1.out⟩
  · obtain ⟨gb, cp, he⟩ : ∃ g cap, Value.slice a l.length c = .slice (some ⟨g, 0, none⟩) l.length cap := by
      rcases Hr1.out.case with ⟨_, h⟩ | h
      · rw [h] at hi0; simp at hi0
      · exact h
    simp only [Value.slice.injEq, true_and] at he
    obtain ⟨rfl, rfl⟩ := he
    obtain ⟨_, hbase, hcap, hmx, _⟩ := Hr1.out.cur
    have hstart : l.take i0 = (l.take (i0 + 1)).filter fun x => !p x := by
      rw [filter_next hx0, hd0, List.filter_eq_self.2 fun x hx => ?_]
      · simp
      · obtain ⟨j, hj, e⟩ := List.mem_iff_getElem.1 hx
        rw [List.length_take] at hj
        rw [List.getElem_take] at e
        rw [hlow j x (by omega) (by rw [List.getElem?_eq_getElem (by omega), e])]; rfl
    have Hstart := hid hstart
    have Hbase := hid hbase
    have hmx' : (c : Int) ≤ 9223372036854775807 := by unfold maxLen at hmx; omega
    have hcl : (l.length : Int) ≤ (c : Int) := by omega
    have hi1 : ((i0 : Int) == -1) = false := beq_eq_false_iff_ne.2 (by omega)
    clear hstart hx0 hd0 hlow hbase hcap hmx
    go_wp2
    clear hi1
    go_loopw [5, 6] (fun t5 t6 wr => ∃ (i j : Nat) (R : List Int), t5 = .int .i64 (i : Int) ∧ t6 = .int .i64 (j : Int) ∧ i < j ∧ j ≤ l.length ∧ R.length = l.length ∧ R.take i = (l.take j).filter (fun x => !p x) ∧ R.drop j = l.drop j ∧
      wr.ownsRow n0 3 1 (.slice (some ⟨gb, 0, none⟩) l.length c) l.length (icells R) ∧ Ext w0 wr) (fun _ t6 _ => l.length - (intOf t6).toNat)
    case atStart => exact ⟨i0, i0 + 1, l, rfl, rfl, by omega, by omega, rfl, Hstart.out, rfl, Hr1.out, Hx1.out⟩
    case round =>
      obtain ⟨i, j, R, rfl, rfl, hij, hj, hRl, hT, hD, hrow, hx⟩ := hrel
      have HRl := hid hRl
      have HT := hid hT
      have HD := hid hD
      have Hrow := hid hrow
      have Hx := hid hx
      clear hRl hT hD Hstart hrow hx
      by_cases hlt : j < l.length
      · have hxj : R[j]? = some (l[j]'hlt) := by
          have := congrArg (fun l => l[0]?) HD.out
          simpa [List.getElem?_drop, List.getElem?_eq_getElem hlt] using this
        obtain ⟨x, hxd⟩ : ∃ x, x = l[j]'hlt := ⟨_, rfl⟩
        rw [← hxd] at hxj
        have hxk : l[j]? = some x := by rw [hxd]; exact List.getElem?_eq_getElem hlt
        have c0 := own_i Hrow.out hxj
        have HN := hid (HF.out x wr Hx.out)
        have Hxk := hid hxk
        have hji : (i : Int) < (l.length : Int) := by omega
        clear hxd hxj hxk
        go_wp2_with fail
        refine HN.out.mono ?_
        intro e w2 hx2
        obtain ⟨rfl, hx2⟩ := hx2
        have Hrow2 := hid (own_ext Hrow.out hx2)
        have Hx2 := hid (Hx.out.trans hx2)
        clear HN hx2 c0
        cases hf : p x with
        | true =>
          have Hf : Hid ((fun x => !p x) x = false) := hid (by show (!p x) = false; rw [hf]; rfl)
          clear hf
          go_wp2
          go_roundw
          case rel => exact ⟨i, j + 1, R, rfl, by go_num, by omega, by omega, HRl.out, by rw [filter_next Hxk.out, if_neg (by rw [Hf.out]; simp), HT.out]; simp, by rw [← List.drop_drop, HD.out, List.drop_drop], Hrow2.out, Hx2.out⟩
          case measure => simp [intOf]; omega
        | false =>
          have Hf : Hid ((fun x => !p x) x = true) := hid (by show (!p x) = true; rw [hf]; rfl)
          have hiR : i < R.length := by have := HRl.out; omega
          have y0 := own_i Hrow2.out (List.getElem?_eq_getElem hiR)
          have hfr := own_free Hrow2.out
          have hput := hid (own_putI Hrow2.out i hiR x)
          have hkp2 : Hid (Ext w0 (w2.setCell ⟨gb, i, none⟩ (.int .i64 x))) := hid (Keep.new Hx2.out (Keep.set (X := fun b => b = gb) (Keep.refl _ w2) rfl (.int .i64 x) : Keep (fun b => b = gb) w2 (w2.setCell ⟨gb, i, none⟩ (.int .i64 x))) fun b e => by rw [e]; exact Nat.le_trans Hb0.out Hbase.out)
          generalize hyv : R[i] = y at *
          clear hyv hf
          go_wp2
          go_roundw
          case rel => exact ⟨i + 1, j + 1, R.set i x, by go_num, by go_num, by omega, by omega, by rw [List.length_set]; exact HRl.out, by rw [take_set_succ R i x hiR, filter_next Hxk.out, if_pos Hf.out, HT.out], by rw [List.drop_set_of_lt (by omega), ← List.drop_drop, HD.out, List.drop_drop], hput.out, hkp2.out⟩
          case measure => simp [intOf]; omega
      · obtain rfl : j = l.length := by omega
        have hTf : R.take i = l.filter fun x => !p x := by rw [HT.out, List.take_length]
        have hRi : (l.filter fun x => !p x).length = i := by rw [← hTf, List.length_take, HRl.out]; omega
        obtain ⟨cu, hcu, hb0, hcap, hmx, hcs, htk⟩ := own_blk Hrow.out
        obtain ⟨ti, hi, hz0, hz1, hz2⟩ := info_parts ints_info
        have hsz : i + (l.length - i) * 1 ≤ cu.size := by rw [hcs]; omega
        have hclr := fun ty => run_clear_row (P := Tryz.prog) wr 27 ty 3 ti _ Tryz.underlying27 hi hz0 (by simp [Value.cells, Value.oneCell']) gb i (l.length - i) (c - i) (by omega) cu hcu hsz
        obtain ⟨cu', hcu'⟩ : ∃ cu', cu' = (cu.toList.take i ++ (Builtin.zeroCells (Value.int .i64 0).cells (l.length - i)).toList ++ cu.toList.drop (i + (l.length - i) * (Value.int .i64 0).cells.size)).toArray := ⟨_, rfl⟩
        rw [← hcu'] at hclr
        have hsz' : cu'.size = c * 1 := by
          have h6 : (Value.int .i64 0).cells.size = 1 := rfl
          rw [hcu', List.size_toArray, List.length_append, List.length_append, List.length_take, List.length_drop, Array.length_toList, Array.length_toList, size_zeroCells, h6, hcs]
          omega
        have htk' : cu'.toList.take (i * 1) = icells (l.filter fun x => !p x) := by
          rw [hcu', List.toList_toArray, List.append_assoc, Nat.mul_one, List.take_append_of_le_length (by rw [List.length_take, Array.length_toList]; omega), List.take_take, Nat.min_self, ← hTf]
          have h7 : cu.toList.take l.length = icells R := by simpa using htk
          have h8 := congrArg (fun l => l.take i) h7
          simp only [List.take_take, Nat.min_eq_left (show i ≤ l.length by omega)] at h8
          rw [h8]; unfold icells; rw [List.map_take]
        have hfin := hid (own_of_blk (setRow_blk hcu cu') hb0 (show i ≤ c by omega) hmx hsz' htk')
        have hkf : Hid (Ext w0 _) := hid (Keep.new Hx.out (setRow_keep wr gb cu') fun b e => by rw [e]; exact Nat.le_trans Hb0.out Hbase.out)
        have HRi := hid hRi
        have hci : (i : Int) ≤ (l.length : Int) := by omega
        clear hTf hRi hcu hb0 hcap hmx hcs htk hi hz0 hz1 hz2 hsz hcu' hsz' htk' HRl HT HD
        go_wp2
        go_ret
        exact ⟨.slice (some ⟨gb, 0, none⟩) i c, rfl, by unfold IRow; rw [HRi.out]; exact hfin.out, hkf.out⟩
end Go.Proofs.YtdppgcbekhabnaaGreatDoor



/- A program that lies in blocks that nobody writes. -/
namespace Go.Proofs.YtdppgcbekhabnaaGreatDoor
set_option linter.unusedSimpArgs false
set_option linter.unusedVariables false
open Go Go.RowKit

/-- A slice of so many elements in a block of F; what its elements are. -/
structure ElF (F : Nat → Prop) (v : Value) (n : Nat) (E : Nat → Addr → Prop) : Prop where
  form : ∃ a cap, v = .slice a n cap ∧ n ≤ cap ∧ (cap : Int) ≤ 9223372036854775807 ∧ (0 < n → ∃ y, a = some y) ∧ ∀ y, a = some y → 0 < n → F y.block ∧ ∀ i, i < n → E i y
section
variable {F G X : Nat → Prop} {w w' : World} {n0 n : Nat} {v v1 v2 v3 : Value} {E E' : Nat → Addr → Prop}
theorem ElF.mono (h : ElF F v n E) (hF : ∀ b, F b → G b) (hE : ∀ i y, i < n → F y.block → E i y → E' i y) : ElF G v n E' := by
  obtain ⟨a, cap, h1, h2, h3, h4, h5⟩ := h
  exact ⟨a, cap, h1, h2, h3, h4, fun y hy h0 => ⟨hF _ (h5 y hy h0).1, fun i hi => hE i y hi (h5 y hy h0).1 ((h5 y hy h0).2 i hi)⟩⟩
theorem ElF.toR (h : ElF F v n E) (hF : ∀ b, F b → b < n0) (hE : ∀ i y, i < n → F y.block → E i y → E' i y) : ElR n0 v n E' := by
  obtain ⟨a, cap, h1, h2, h3, h4, h5⟩ := h
  exact ⟨a, cap, h1, h2, h3, h4, fun y hy h0 => ⟨hF _ (h5 y hy h0).1, fun i hi => hE i y hi (h5 y hy h0).1 ((h5 y hy h0).2 i hi)⟩⟩
theorem ElF.ofR (h : ElR n0 v n E) (hF : ∀ b, b < n0 → F b) (hE : ∀ i y, i < n → y.block < n0 → E i y → E' i y) : ElF F v n E' := by
  obtain ⟨a, cap, h1, h2, h3, h4, h5⟩ := h
  exact ⟨a, cap, h1, h2, h3, h4, fun y hy h0 => ⟨hF _ (h5 y hy h0).1, fun i hi => hE i y hi (h5 y hy h0).1 ((h5 y hy h0).2 i hi)⟩⟩
def StrsF (w : World) (F : Nat → Prop) (v : Value) (l : List ByteArray) : Prop := ElF F v l.length fun i y => ∀ s, l[i]? = some s → w.cell? (y.add i) = some (.string s)
def IntsF (w : World) (F : Nat → Prop) (v : Value) (l : List Int) : Prop := ElF F v l.length fun i y => ∀ s, l[i]? = some s → w.cell? (y.add i) = some (.int .i64 s)
def FunsF (w : World) (F : Nat → Prop) (v : Value) (l : List PF) : Prop := ElF F v l.length fun i y => ∀ f, l[i]? = some f → ∃ pv, w.cell? (y.add (i * 3)) = some (.string f.name) ∧ w.cell? ((y.add (i * 3)).add 1) = some pv ∧ w.cell? ((y.add (i * 3)).add 2) = some (.int .i64 f.ret) ∧ IntsF w F pv f.params
def StmtsF (w : World) (F : Nat → Prop) (v : Value) (l : List PS) : Prop := ElF F v l.length fun i y => ∀ s, l[i]? = some s → ∃ av, w.cell? (y.add (i * 4)) = some (.string s.kind) ∧ w.cell? ((y.add (i * 4)).add 1) = some (.int .i64 s.x) ∧ w.cell? ((y.add (i * 4)).add 2) = some (.int .i64 s.y) ∧ w.cell? ((y.add (i * 4)).add 3) = some av ∧ IntsF w F av s.args
structure ProgF (w : World) (F : Nat → Prop) (v1 v2 v3 : Value) (P : PP) : Prop where
  vars : StrsF w F v1 P.vars
  funs : FunsF w F v2 P.funs
  stmts : StmtsF w F v3 P.stmts
theorem StrsF.keep {l : List ByteArray} (h : StrsF w F v l) (k : Keep X w w') (hX : ∀ b, F b → ¬ X b) (hG : ∀ b, F b → G b) : StrsF w' G v l :=
  ElF.mono h hG fun i y _ hy hE s hs => k.cellx (hE s hs) (by rw [add_block]; exact hX _ hy)
theorem IntsF.keep {l : List Int} (h : IntsF w F v l) (k : Keep X w w') (hX : ∀ b, F b → ¬ X b) (hG : ∀ b, F b → G b) : IntsF w' G v l :=
  ElF.mono h hG fun i y _ hy hE s hs => k.cellx (hE s hs) (by rw [add_block]; exact hX _ hy)
theorem FunsF.keep {l : List PF} (h : FunsF w F v l) (k : Keep X w w') (hX : ∀ b, F b → ¬ X b) (hG : ∀ b, F b → G b) : FunsF w' G v l :=
  ElF.mono h hG fun i y _ hy hE s hs => by
    obtain ⟨pv, h1, h2, h3, h4⟩ := hE s hs
    exact ⟨pv, k.cellx h1 (by rw [add_block]; exact hX _ hy), k.cellx h2 (by rw [add_block, add_block]; exact hX _ hy), k.cellx h3 (by rw [add_block, add_block]; exact hX _ hy), h4.keep k hX hG⟩
theorem StmtsF.keep {l : List PS} (h : StmtsF w F v l) (k : Keep X w w') (hX : ∀ b, F b → ¬ X b) (hG : ∀ b, F b → G b) : StmtsF w' G v l :=
  ElF.mono h hG fun i y _ hy hE s hs => by
    obtain ⟨pv, h1, h2, h3, h4, h5⟩ := hE s hs
    exact ⟨pv, k.cellx h1 (by rw [add_block]; exact hX _ hy), k.cellx h2 (by rw [add_block, add_block]; exact hX _ hy), k.cellx h3 (by rw [add_block, add_block]; exact hX _ hy), k.cellx h4 (by rw [add_block, add_block]; exact hX _ hy), h5.keep k hX hG⟩
theorem ProgF.keep {P : PP} (h : ProgF w F v1 v2 v3 P) (k : Keep X w w') (hX : ∀ b, F b → ¬ X b) (hG : ∀ b, F b → G b) : ProgF w' G v1 v2 v3 P := ⟨h.vars.keep k hX hG, h.funs.keep k hX hG, h.stmts.keep k hX hG⟩
theorem IntsF.toR {l : List Int} (h : IntsF w F v l) (hF : ∀ b, F b → b < n0) : IntsR w n0 v l := ElF.toR h hF fun _ _ _ _ h => h
theorem IntsF.ofR {l : List Int} (h : IntsR w n0 v l) (hF : ∀ b, b < n0 → F b) : IntsF w F v l := ElF.ofR h hF fun _ _ _ _ h => h
theorem ProgF.toR {P : PP} (h : ProgF w F v1 v2 v3 P) (hF : ∀ b, F b → b < n0) : ProgR w n0 v1 v2 v3 P :=
  ⟨ElF.toR h.vars hF fun _ _ _ _ h => h,
   ElF.toR h.funs hF fun i y _ _ hE s hs => (let ⟨pv, h1, h2, h3, h4⟩ := hE s hs; ⟨pv, h1, h2, h3, h4.toR hF⟩),
   ElF.toR h.stmts hF fun i y _ _ hE s hs => (let ⟨pv, h1, h2, h3, h4, h5⟩ := hE s hs; ⟨pv, h1, h2, h3, h4, h5.toR hF⟩)⟩
theorem ProgF.ofR {P : PP} (h : ProgR w n0 v1 v2 v3 P) (hF : ∀ b, b < n0 → F b) : ProgF w F v1 v2 v3 P :=
  ⟨ElF.ofR h.vars hF fun _ _ _ _ h => h,
   ElF.ofR h.funs hF fun i y _ _ hE s hs => (let ⟨pv, h1, h2, h3, h4⟩ := hE s hs; ⟨pv, h1, h2, h3, IntsF.ofR h4 hF⟩),
   ElF.ofR h.stmts hF fun i y _ _ hE s hs => (let ⟨pv, h1, h2, h3, h4, h5⟩ := hE s hs; ⟨pv, h1, h2, h3, h4, IntsF.ofR h5 hF⟩)⟩
/-- Where the errors lie. -/
def ErrB (ad : Nat → Addr) (b : Nat) : Prop := b = 6 ∨ b = 7 ∨ b = 4 ∨ b = 2 ∨ b = 3 ∨ b = 1 ∨ b = 8 ∨ b = (ad 5).block ∨ b = (ad 7).block
theorem ErrsP.keep {ad : Nat → Addr} (h : ErrsP w ad) (k : Keep X w w') (hX : ∀ b, ErrB ad b → ¬ X b) : ErrsP w' ad :=
  ⟨k.cellx h.at2 (hX _ (.inl rfl)), k.cellx h.at3 (hX _ (.inr (.inl rfl))), k.cellx h.at4 (hX _ (.inr (.inr (.inl rfl)))), k.cellx h.at5 (hX _ (.inr (.inr (.inr (.inl rfl))))), k.cellx h.at7 (hX _ (.inr (.inr (.inr (.inr (.inl rfl)))))), k.cellx h.at8 (hX _ (.inr (.inr (.inr (.inr (.inr (.inl rfl))))))), k.cellx h.at9 (hX _ (.inr (.inr (.inr (.inr (.inr (.inr (.inl rfl)))))))), h.ne57,
   (let ⟨cs, t, e⟩ := h.row5; ⟨cs, t, k.get e (hX _ (.inr (.inr (.inr (.inr (.inr (.inr (.inr (.inl rfl)))))))))⟩), (let ⟨cs, t, e⟩ := h.row7; ⟨cs, t, k.get e (hX _ (.inr (.inr (.inr (.inr (.inr (.inr (.inr (.inr rfl)))))))))⟩)⟩
theorem ErrsP.lt {ad : Nat → Addr} (h : ErrsP w ad) {b : Nat} (hb : ErrB ad b) : b < w.heap.size := by
  rcases hb with rfl | rfl | rfl | rfl | rfl | rfl | rfl | rfl | rfl
  · exact cell_lt h.at2
  · exact cell_lt h.at3
  · exact cell_lt h.at4
  · exact cell_lt h.at5
  · exact cell_lt h.at7
  · exact cell_lt h.at8
  · exact cell_lt h.at9
  · obtain ⟨cs, t, e⟩ := h.row5; exact (Array.getElem?_eq_some_iff.1 e).1
  · obtain ⟨cs, t, e⟩ := h.row7; exact (Array.getElem?_eq_some_iff.1 e).1
/-- A well program in blocks of F, where nobody writes. -/
structure PWF (w : World) (F : Nat → Prop) (ad : Nat → Addr) (a1 a2 a3 : Option Addr) (c1 c2 c3 : Nat) (P : PP) : Prop where
  lt : ∀ b, F b → b < w.heap.size
  ef : ∀ b, ErrB ad b → F b
  errs : ErrsP w ad
  prog : ProgF w F (.slice a1 P.vars.length c1) (.slice a2 P.funs.length c2) (.slice a3 P.stmts.length c3) P
  z1 : ∀ s ∈ P.vars, s.size ≤ 1000000
  z2 : ∀ s ∈ P.names, s.size ≤ 1000000
  well : P.Well
variable {ad : Nat → Addr} {a1 a2 a3 : Option Addr} {c1 c2 c3 : Nat} {P : PP}
theorem PWF.pw (h : PWF w F ad a1 a2 a3 c1 c2 c3 P) : PW w w.heap.size ad a1 a2 a3 c1 c2 c3 P := ⟨h.errs, h.prog.toR h.lt, h.z1, h.z2, h.well⟩
theorem PWF.keep (h : PWF w F ad a1 a2 a3 c1 c2 c3 P) (k : Keep X w w') (hX : ∀ b, F b → ¬ X b) : PWF w' F ad a1 a2 a3 c1 c2 c3 P :=
  ⟨fun b hb => Nat.lt_of_lt_of_le (h.lt b hb) k.size, h.ef, h.errs.keep k fun b hb => hX b (h.ef b hb), h.prog.keep k hX fun _ h => h, h.z1, h.z2, h.well⟩
theorem PWF.ext (h : PWF w F ad a1 a2 a3 c1 c2 c3 P) (x : Ext w w') : PWF w' F ad a1 a2 a3 c1 c2 c3 P := h.keep (x.keep fun _ => False) fun _ _ h => h
theorem PWF.more (h : PWF w F ad a1 a2 a3 c1 c2 c3 P) (hF : ∀ b, F b → G b) (hG : ∀ b, G b → b < w.heap.size) : PWF w G ad a1 a2 a3 c1 c2 c3 P :=
  ⟨hG, fun b hb => hF b (h.ef b hb), h.errs, h.prog.keep (Keep.refl (fun _ => False) w) (fun _ _ h => h) hF, h.z1, h.z2, h.well⟩
theorem PWF.of (h : PW w n0 ad a1 a2 a3 c1 c2 c3 P) (hn : n0 ≤ w.heap.size) : PWF w (fun b => b < w.heap.size) ad a1 a2 a3 c1 c2 c3 P :=
  ⟨fun _ h => h, fun b hb => h.errs.lt hb, h.errs, ProgF.ofR h.prog fun b hb => Nat.lt_of_lt_of_le hb hn, h.z1, h.z2, h.well⟩
end
end Go.Proofs.YtdppgcbekhabnaaGreatDoor



/- A row of one's own whose head may be cut off: a queue. -/
namespace Go.Proofs.YtdppgcbekhabnaaGreatDoor
set_option linter.unusedSimpArgs false
set_option linter.unusedVariables false
open Go Go.RowKit

/-- A row of one's own, from some place of its block on. -/
def OwnsQ (w : World) (base : Nat) (e : TypeId) (size : Nat) (v : Value) (n : Nat) (xs : List Value) : Prop :=
  xs.length = n * size ∧ ((v = .slice none 0 0 ∧ n = 0) ∨ ∃ g off cap cur, v = .slice (some ⟨g, off, none⟩) n cap ∧ base ≤ g ∧ Blk w g cur e ∧ n ≤ cap ∧ off + cap * size ≤ cur.size ∧ (cur.toList.drop off).take (n * size) = xs)
section
variable {w w' : World} {base : Nat} {e : TypeId} {size n : Nat} {v : Value} {xs : List Value}
theorem OwnsQ.ofRow (h : w.ownsRow base e size v n xs) : OwnsQ w base e size v n xs := by
  refine ⟨h.1, h.2.imp id ?_⟩
  rintro ⟨g, cap, cur, h1, h2, h3, h4, h5, h6, h7⟩
  exact ⟨g, 0, cap, cur, h1, h2, h3, h4, by omega, h7⟩
theorem OwnsQ.nil (w : World) (base : Nat) (e : TypeId) (size : Nat) : OwnsQ w base e size (.slice none 0 0) 0 [] := .ofRow (World.ownsRow_nil _ _ _ _)
theorem OwnsQ.form (h : OwnsQ w base e size v n xs) : ∃ a c, v = .slice a n c := by
  rcases h.2 with ⟨h1, h2⟩ | ⟨g, off, cap, cur, h1, _⟩
  · exact ⟨none, 0, by rw [h1, h2]⟩
  · exact ⟨_, _, h1⟩
theorem OwnsQ.keep {X : Nat → Prop} (h : OwnsQ w base e size v n xs) (k : Keep X w w') (hx : ∀ i, v.ownBlock = some i → ¬ X i) : OwnsQ w' base e size v n xs := by
  refine ⟨h.1, h.2.imp id ?_⟩
  rintro ⟨g, off, cap, cur, rfl, h2, h3, h4⟩
  exact ⟨g, off, cap, cur, rfl, h2, h3.keep k (hx g rfl), h4⟩
theorem OwnsQ.ext (h : OwnsQ w base e size v n xs) (x : Ext w w') : OwnsQ w' base e size v n xs := h.keep (x.keep fun _ => False) fun _ _ h => h
theorem OwnsQ.ty (h : OwnsQ w base e size v n xs) {k : Nat} (hk : v.ownBlock = some k) : base ≤ k ∧ ∃ c, Blk w k c e := by
  rcases h.2 with ⟨rfl, _⟩ | ⟨g, off, cap, cur, rfl, h2, h3, _⟩
  · cases hk
  · obtain rfl := Option.some.inj hk
    exact ⟨h2, cur, h3⟩
theorem OwnsQ.pos (h : OwnsQ w base e size v n xs) (hn : 0 < n) : ∃ g off cap, v = .slice (some ⟨g, off, none⟩) n cap ∧ 0 < cap := by
  rcases h.2 with ⟨_, h2⟩ | ⟨g, off, cap, cur, h1, _, _, h4, _⟩
  · omega
  · exact ⟨g, off, cap, h1, by omega⟩
theorem OwnsQ.get {g off cap : Nat} (h : OwnsQ w base e size (.slice (some ⟨g, off, none⟩) n cap) n xs) (i : Nat) {u : Value} (hu : xs[i]? = some u) : w.cell? ⟨g, off + i, none⟩ = some u := by
  rcases h.2 with ⟨h1, _⟩ | ⟨g', off', cap', cur, h1, h2, h3, h4, h5, h6⟩
  · cases h1
  · simp only [Value.slice.injEq, Option.some.injEq, Addr.mk.injEq, and_true, true_and] at h1
    obtain ⟨⟨rfl, rfl⟩, rfl⟩ := h1
    rw [h3.cell, ← Array.getElem?_toList]
    rw [← h6, List.getElem?_take] at hu
    split at hu
    · rwa [List.getElem?_drop] at hu
    · cases hu
/-- The head is cut off. -/
theorem OwnsQ.tail {g off cap : Nat} (h : OwnsQ w base e size (.slice (some ⟨g, off, none⟩) n cap) n xs) (hn : 0 < n) : OwnsQ w base e size (.slice (some (if cap = 1 then ⟨g, off, none⟩ else ⟨g, off + size, none⟩)) (n - 1) (cap - 1)) (n - 1) (xs.drop size) := by
  rcases h.2 with ⟨h1, _⟩ | ⟨g', off', cap', cur, h1, h2, h3, h4, h5, h6⟩
  · cases h1
  · simp only [Value.slice.injEq, Option.some.injEq, Addr.mk.injEq, and_true, true_and] at h1
    obtain ⟨⟨rfl, rfl⟩, rfl⟩ := h1
    obtain ⟨m, rfl⟩ : ∃ m, n = m + 1 := ⟨n - 1, by omega⟩
    obtain ⟨c, rfl⟩ : ∃ c, cap = c + 1 := ⟨cap - 1, by omega⟩
    have e1 : (m + 1) * size = m * size + size := by rw [Nat.add_mul, Nat.one_mul]
    have e2 : (c + 1) * size = c * size + size := by rw [Nat.add_mul, Nat.one_mul]
    refine ⟨by rw [List.length_drop, h.1, e1]; simp, .inr ?_⟩
    by_cases hc : c = 0
    · subst hc
      obtain rfl : m = 0 := by omega
      refine ⟨g, off, 0, cur, by simp, h2, h3, Nat.le_refl _, by omega, ?_⟩
      have := h.1
      simp at this ⊢
      omega
    · refine ⟨g, off + size, c, cur, by rw [if_neg (by omega)]; simp, h2, h3, by omega, by omega, ?_⟩
      rw [← h6, List.drop_take, List.drop_drop, e1]
      congr 1
      · simp
/-- One more at the end. -/
theorem run_append_q (hbase : base ≤ w.heap.size) (t : TypeId) (z : Value) (bytes : Nat) (ht : Tryz.prog.underlying t = some (.slice e)) (hinf : (Tryz.prog.info? e).map (fun i => (i.zero, i.size, i.bytes)) = some (some z, size, bytes)) (hz1 : z.cells.size = size) (hsz : 0 < size)
    (hb8 : bytes ≤ 64) (ty : TypeId) (hown : OwnsQ w base e size v n xs) (a : Addr) (us : List Value) (hul : us.length = size) (hus : ∀ j u, us[j]? = some u → w.cell? (a.add j) = some u) (h1 : ∀ u ∈ us, u.oneCell' = true) (hl : n ≤ 1000000000) :
    ∃ v' w', (Builtin.append_ #[t, t] ty #[v, .slice (some a) 1 1]).run Tryz.prog w = .ok v' w' ∧ OwnsQ w' base e size v' (n + 1) (xs ++ us) ∧ Keep (fun k => v.ownBlock = some k) w w' ∧ (v'.ownBlock = v.ownBlock ∨ v'.ownBlock = some w.heap.size) := by
  obtain ⟨i, hi, hz, hs, hb⟩ := info_parts hinf
  subst hs
  subst hb
  have hlen : (xs ++ us).length = (n + 1) * i.size := by rw [List.length_append, hown.1, hul, Nat.add_mul, Nat.one_mul]
  have hfit : (n + 1) * i.bytes ≤ 140737488355328 := by
    have : (n + 1) * i.bytes ≤ (n + 1) * 64 := Nat.mul_le_mul_left _ hb8
    omega
  rcases hown.2 with ⟨rfl, rfl⟩ | ⟨g, off, cap, cur, rfl, h2, h3, h4, h5, h6⟩
  · obtain rfl := List.eq_nil_of_length_eq_zero (by simpa using hown.1)
    obtain ⟨v', w', hr, k1, k2, _, k3⟩ := run_append_own_at (P := Tryz.prog) w base t ty e i z i.size i.bytes ht hi hz rfl rfl hz1 hsz (.slice none 0 0) 0 [] (World.ownsRow_nil _ _ _ _) a 1 1 us (by rw [hul]; omega) hus h1 (by simp only [maxLen]; omega) hfit hbase
    exact ⟨v', w', hr, .ofRow k1, grown_keep k2, k3⟩
  · by_cases hroom : n + 1 ≤ cap
    · have hm : n * i.size + us.length ≤ cap * i.size := by
        rw [hul]
        have : (n + 1) * i.size ≤ cap * i.size := Nat.mul_le_mul_right _ hroom
        rw [Nat.add_mul, Nat.one_mul] at this
        exact this
      have hf := run_firstCells_some (P := Tryz.prog) w i.size 1 a 1 1 us (by rw [hul]; omega) hus
      have hst := run_storeCells_at Tryz.prog g (off + n * i.size) e us 0 cur w h3 (by omega) h1
      simp only [Nat.add_zero] at hst
      refine ⟨_, _, by simp [Builtin.append_, run_underlying ht, sizeOf, typeInfo, hi, Builtin.lenOf, hroom, hf, Addr.add_lit, hst]; exact rfl, ⟨hlen, .inr ⟨g, off, cap, _, rfl, h2, setRow_heap w g cur _ e _ h3, hroom, ?_, ?_⟩⟩, (setRow_keep w g _).mono fun k _ hk => by rw [hk]; rfl, .inl rfl⟩
      · simp only [List.size_toArray, List.length_append, List.length_take, List.length_drop, Array.length_toList]
        omega
      · simp only []
        have hA : (cur.toList.take (off + n * i.size)).length = off + n * i.size := by rw [List.length_take, Array.length_toList]; omega
        rw [List.drop_append_of_le_length (by rw [hA]; omega), List.drop_take, show off + n * i.size - off = n * i.size by omega, h6, ← List.append_assoc, ← hlen]
        exact List.take_left
    · have holds : ∀ j u, xs[j]? = some u → w.cell? ((⟨g, off, none⟩ : Addr).add j) = some u := fun j u hu => by
        rw [Addr.add_lit]; exact hown.get j hu
      have hr := run_append_grow (P := Tryz.prog) w t ty e i z ht hi hz ⟨g, off, none⟩ n cap xs hown.1 holds a 1 1 us (by rw [hul]; omega) hus (by omega) (by omega) (growslice_fits (by omega) hfit)
      have hge := grownCap_ge w (n + 1) cap e
      refine ⟨_, _, hr, ⟨hlen, .inr ⟨w.heap.size, 0, _, _, rfl, hbase, heap_alloc_new w.drew _, hge, ?_, ?_⟩⟩, ⟨rfl, rfl, rfl, by simp, fun k hk _ => heap_alloc_old w.drew _ hk⟩, .inr rfl⟩
      · simp only [Array.size_append, List.size_toArray, size_zeroCells, hz1, hown.1, hul, ← Nat.add_mul]
        have : n * i.size + i.size = (n + 1) * i.size := by rw [Nat.add_mul, Nat.one_mul]
        rw [this, ← Nat.add_mul, Nat.zero_add]
        exact Nat.mul_le_mul_right _ (by omega)
      · rw [List.drop_zero]
        simp only [Array.toList_append, List.append_assoc]
        rw [← List.append_assoc, ← hlen]
        exact List.take_left
theorem does_append_q {ops : Array Oper} {o : Oper} {a : Act} {R : Value → World → Prop} (base : Nat) (hbase : base ≤ w.heap.size) (t e : TypeId) (z : Value) (size bytes : Nat) (ht : Tryz.prog.underlying t = some (.slice e)) (hinf : (Tryz.prog.info? e).map (fun i => (i.zero, i.size, i.bytes)) = some (some z, size, bytes)) (hz1 : z.cells.size = size) (hsz : 0 < size)
    (hb8 : bytes ≤ 64) (hg : o.guard = none) (s x : Operand) (ho : o.op = .call { callee := .builtin .append, args := #[s, x], argTypes := #[t, t] })
    (v : Value) (n : Nat) (xs : List Value) (hs : a.eval s = v) (hown : OwnsQ w base e size v n xs) (g : Nat) (us : List Value) (hul : us.length = size) (hu : ∀ u ∈ us, u.oneCell' = true) (hx : a.eval x = .slice (some ⟨g, 0, none⟩) 1 1) (hb : Blk w g us.toArray e) (hl : n ≤ 1000000000)
    (h : ∀ v' w', OwnsQ w' base e size v' (n + 1) (xs ++ us) → Keep (fun k => v.ownBlock = some k) w w' → (∀ b, v'.ownBlock = some b → v.ownBlock = some b ∨ w.heap.size ≤ b) → R v' w') : does Tryz.prog ops o a w R := by
  obtain ⟨v', w', hr, h2, h3, h4⟩ := run_append_q hbase t z bytes ht hinf hz1 hsz hb8 o.type hown ⟨g, 0, none⟩ us hul (fun j q hq => by
    rw [show (⟨g, 0, none⟩ : Addr).add j = ⟨g, j, none⟩ from by by_cases h0 : j = 0 <;> simp [Addr.add, h0], hb.cell j]
    simpa using hq) hu hl
  refine does_of_run hg (run_exec_append s x t ho hs hx hr) (h v' w' h2 h3 fun b hb => ?_)
  rcases h4 with e | e
  · exact .inl (e ▸ hb)
  · rw [e] at hb
    obtain rfl := Option.some.inj hb
    exact .inr (Nat.le_refl _)
end
end Go.Proofs.YtdppgcbekhabnaaGreatDoor



/- Nodes of a set of objects (cons.nodes). -/
namespace Go.Proofs.YtdppgcbekhabnaaGreatDoor
set_option linter.unusedSimpArgs false
set_option linter.unusedVariables false
open Go Go.RowKit

/-- Objects that are no functions. -/
def PP.nodesOf (P : PP) (l : List Int) : List Int := l.filter fun x => !decide ((P.nodesV : Int) ≤ x)
theorem consnodesc_any (g : Nat) (a1 a2 a3 : Option Addr) (c1 c2 c3 : Nat) (P : PP) (n : Int) (w : World) (n0 : Nat) (ad : Nat → Addr) (hB : Blk w g (pcells a1 a2 a3 c1 c2 c3 P) 26) (h : PW w n0 ad a1 a2 a3 c1 c2 c3 P) :
    Calls Tryz.prog 145 #[.int .i64 n, .pointer (some ⟨g, 0, none⟩)] w fun e w' => e = .returned (.bool (decide ((P.nodesV : Int) ≤ n))) ∧ Ext w w' := by
  have HN := hid (prognodes_any a1 a2 a3 c1 c2 c3 P w n0 ad h.errs h.prog h.z1 h.z2 h.well)
  have d0 := hB.av 0 rfl
  have d1 := hB.av 1 rfl
  have d2 := hB.av 2 rfl
  simp only [pcells, List.getElem_toArray, List.getElem_cons_zero, List.getElem_cons_succ] at d0 d1 d2
  unfold pval at HN
  clear hB h
  generalize P.nodesV = N at *
  go_enter Tryz.func145, Tryz.ntmps145
  go_wp2_with fail
  refine HN.out.mono ?_
  intro e w1 hx
  obtain ⟨rfl, hx1⟩ := hx
  have Hx1 := hid hx1
  clear HN hx1 d0 d1 d2
  by_cases hn : (N : Int) ≤ n
  · go_wp2
    go_ret
    exact ⟨by simp [hn], Hx1.out⟩
  · go_wp2
    go_ret
    exact ⟨by simp [hn], Hx1.out⟩
set_option maxRecDepth 100000 in
set_option maxHeartbeats 1600000 in
theorem consnodes_any (a1 a2 a3 : Option Addr) (c1 c2 c3 : Nat) (P : PP) (v : Value) (l : List Int) (w : World) (n0 : Nat) (ad : Nat → Addr) (h : PW w n0 ad a1 a2 a3 c1 c2 c3 P) (hl : IntsR w n0 v l) (hfew : l.length ≤ 100000) :
    Calls Tryz.prog 129 #[pval a1 a2 a3 c1 c2 c3 P, v] w fun e w' => ∃ v', e = .returned v' ∧ IRow w.heap.size w' v' (P.nodesOf l) ∧ Ext w w' := by
  obtain ⟨W, hW⟩ : ∃ W, W = w.alloc (.cells (pcells a1 a2 a3 c1 c2 c3 P) 26) := ⟨_, rfl⟩
  have HX : Hid (Ext w W) := hid (by rw [hW]; exact (Ext.refl _).alloc _)
  have HBx : Hid (Blk W w.heap.size (pcells a1 a2 a3 c1 c2 c3 P) 26) := hid (by rw [hW]; exact Blk.new _ _ _)
  have HWe : Hid (W = w.alloc (.cells #[.slice a1 P.vars.length c1, .slice a2 P.funs.length c2, .slice a3 P.stmts.length c3] 26)) := hid (by rw [hW]; rfl)
  have HPW := hid h
  have HC := hid (clone_big v l W n0 (hl.old (HX.out.old n0)) hfew)
  obtain ⟨av, cv, rfl, _⟩ := hl
  unfold pval
  clear hW h
  go_enter Tryz.func129, Tryz.ntmps129
  go_wp2_with fail
  rw [← HWe.out]
  refine HC.out.mono ?_
  intro e w1 hx
  obtain ⟨v1, rfl, hx1, hr1⟩ := hx
  have HD := hid (idel_nodesc (.pointer (some ⟨w.heap.size, 0, none⟩)) (fun o => decide ((P.nodesV : Int) ≤ o)) v1 l W w1 W.heap.size hx1 (Nat.le_refl _) hr1 (fun n w2 x => consnodesc_any w.heap.size a1 a2 a3 c1 c2 c3 P n w2 n0 ad (HBx.out.ext x) (HPW.out.ext (HX.out.trans x))) hfew)
  obtain ⟨a1', p1', rfl⟩ := hr1.form
  clear HC hx1 hr1
  go_wp2_with fail
  refine HD.out.mono ?_
  intro e w2 hx
  obtain ⟨v2, rfl, hr2, hx2⟩ := hx
  have Hr2 := hid (hr2.base HX.out.size)
  have Hx2 := hid (HX.out.trans hx2)
  clear HD hr2 hx2
  obtain ⟨a2', p2', rfl⟩ := Hr2.out.form
  go_wp2
  go_ret
  exact ⟨_, rfl, Hr2.out, Hx2.out⟩
end Go.Proofs.YtdppgcbekhabnaaGreatDoor



/- Edges of a rule: copies, loads, stores. -/
namespace Go.Proofs.YtdppgcbekhabnaaGreatDoor
set_option linter.unusedSimpArgs false
set_option linter.unusedVariables false
open Go Go.RowKit

def PP.callsOf (P : PP) (r : RV) (o : Int) : List (Int × Int) := if 0 ≤ P.funV o then calledV (P.funs.getD (P.funV o).toNat ⟨⟨#[]⟩, [], 0⟩) r else []
/-- Edges of a rule, when nodes have these objects. -/
def PP.redges (P : PP) (r : RV) (has : List (List Int)) : List (Int × Int) :=
  bif r.kind.toList == kCopy then [(r.a, r.b)] else
  bif r.kind.toList == kLoad then (P.nodesOf (has.getD r.a.toNat [])).map fun o => (o, r.b) else
  bif r.kind.toList == kStore then (P.nodesOf (has.getD r.b.toNat [])).map fun o => (r.a, o) else
  bif r.kind.toList == kCall then (has.getD r.a.toNat []).flatMap (P.callsOf r) else []

set_option maxRecDepth 100000 in
set_option maxHeartbeats 6400000 in
theorem redges_copy (a1 a2 a3 : Option Addr) (c1 c2 c3 : Nat) (P : PP) (r : RV) (av hv : Value) (has : List (List Int)) (w : World) (n0 : Nat) (ad : Nat → Addr) (h : PW w n0 ad a1 a2 a3 c1 c2 c3 P) (ha : IntsR w n0 av r.args) (hh : SetsR w n0 hv has) (hfew : ∀ l ∈ has, l.length ≤ 10000) (hkd : (r.kind.toList == [99, 111, 112, 121]) = true) :
    Calls Tryz.prog 113 #[pval a1 a2 a3 c1 c2 c3 P, r.val av, hv] w fun e w' => ∃ v, e = .returned v ∧ ERow w.heap.size w' v (P.redges r has) ∧ Ext w w' := by
  obtain ⟨aa, ca, rfl, _⟩ := id ha
  obtain ⟨ah, ch, rfl⟩ := hh.form
  have hhl := hh.len
  have hal := ha.len
  obtain ⟨W1, hW1⟩ : ∃ W1, W1 = w.alloc (.cells (pcells a1 a2 a3 c1 c2 c3 P) 26) := ⟨_, rfl⟩
  have hx1 : Ext w W1 := by rw [hW1]; exact (Ext.refl _).alloc _
  obtain ⟨W, hW⟩ : ∃ W, W = W1.alloc (.cells #[.string r.kind, .int .i64 r.a, .int .i64 r.b, .int .i64 r.k, .slice aa r.args.length ca] 86) := ⟨_, rfl⟩
  have hx2 : Ext W1 W := by rw [hW]; exact (Ext.refl _).alloc _
  have s1 : W1.heap.size = w.heap.size + 1 := by rw [hW1, heap_size_alloc]
  have HX := hid (hx1.trans hx2)
  have HB0 : Hid (Blk W w.heap.size (pcells a1 a2 a3 c1 c2 c3 P) 26) := hid (by
    have : Blk W1 w.heap.size (pcells a1 a2 a3 c1 c2 c3 P) 26 := by rw [hW1]; exact Blk.new _ _ _
    exact this.ext hx2)
  have HB1 : Hid (Blk W (w.heap.size + 1) #[.string r.kind, .int .i64 r.a, .int .i64 r.b, .int .i64 r.k, .slice aa r.args.length ca] 86) := hid (by rw [← s1, hW]; exact Blk.new _ _ _)
  have HWe : Hid (W = (w.alloc (.cells #[.slice a1 P.vars.length c1, .slice a2 P.funs.length c2, .slice a3 P.stmts.length c3] 26)).alloc (.cells #[.string r.kind, .int .i64 r.a, .int .i64 r.b, .int .i64 r.k, .slice aa r.args.length ca] 86)) := hid (by rw [hW, hW1]; rfl)
  have HPW := hid h
  have HH := hid hh
  have HA := hid ha
  have Hfew := hid hfew
  unfold RV.val pval
  clear h ha hh hfew hW1 hW hx1 hx2 s1
  have Hr : Hid (P.redges r has = [(r.a, r.b)]) := hid (by unfold PP.redges kCopy; rw [hkd]; rfl)
  go_enter Tryz.func113, Tryz.ntmps113
  go_wp2
  go_ret
  refine ⟨_, rfl, ?_, ?_⟩
  · rw [Hr.out]
    refine ⟨rfl, .inr ⟨w.heap.size + 1 + 1, 1, #[.int .i64 r.a, .int .i64 r.b], rfl, by omega, ?_, Nat.le_refl _, by unfold maxLen; omega, rfl, rfl⟩⟩
    have := Blk.new W #[.int .i64 r.a, .int .i64 r.b] 127
    rw [HWe.out] at this
    simp only [heap_size_alloc] at this
    exact this
  · exact (((Ext.refl w).alloc _).alloc _).alloc _
set_option maxRecDepth 100000 in
set_option maxHeartbeats 6400000 in
theorem redges_load (a1 a2 a3 : Option Addr) (c1 c2 c3 : Nat) (P : PP) (r : RV) (av hv : Value) (has : List (List Int)) (w : World) (n0 : Nat) (ad : Nat → Addr) (h : PW w n0 ad a1 a2 a3 c1 c2 c3 P) (ha : IntsR w n0 av r.args) (hh : SetsR w n0 hv has) (hfew : ∀ l ∈ has, l.length ≤ 10000) (hkd : (r.kind.toList == [108, 111, 97, 100]) = true) (hidx : 0 ≤ r.a ∧ r.a < has.length) :
    Calls Tryz.prog 113 #[pval a1 a2 a3 c1 c2 c3 P, r.val av, hv] w fun e w' => ∃ v, e = .returned v ∧ ERow w.heap.size w' v (P.redges r has) ∧ Ext w w' := by
  obtain ⟨aa, ca, rfl, _⟩ := id ha
  obtain ⟨ah, ch, rfl⟩ := hh.form
  have hhl := hh.len
  have hal := ha.len
  obtain ⟨W1, hW1⟩ : ∃ W1, W1 = w.alloc (.cells (pcells a1 a2 a3 c1 c2 c3 P) 26) := ⟨_, rfl⟩
  have hx1 : Ext w W1 := by rw [hW1]; exact (Ext.refl _).alloc _
  obtain ⟨W, hW⟩ : ∃ W, W = W1.alloc (.cells #[.string r.kind, .int .i64 r.a, .int .i64 r.b, .int .i64 r.k, .slice aa r.args.length ca] 86) := ⟨_, rfl⟩
  have hx2 : Ext W1 W := by rw [hW]; exact (Ext.refl _).alloc _
  have s1 : W1.heap.size = w.heap.size + 1 := by rw [hW1, heap_size_alloc]
  have HX := hid (hx1.trans hx2)
  have HB0 : Hid (Blk W w.heap.size (pcells a1 a2 a3 c1 c2 c3 P) 26) := hid (by
    have : Blk W1 w.heap.size (pcells a1 a2 a3 c1 c2 c3 P) 26 := by rw [hW1]; exact Blk.new _ _ _
    exact this.ext hx2)
  have HB1 : Hid (Blk W (w.heap.size + 1) #[.string r.kind, .int .i64 r.a, .int .i64 r.b, .int .i64 r.k, .slice aa r.args.length ca] 86) := hid (by rw [← s1, hW]; exact Blk.new _ _ _)
  have HWe : Hid (W = (w.alloc (.cells #[.slice a1 P.vars.length c1, .slice a2 P.funs.length c2, .slice a3 P.stmts.length c3] 26)).alloc (.cells #[.string r.kind, .int .i64 r.a, .int .i64 r.b, .int .i64 r.k, .slice aa r.args.length ca] 86)) := hid (by rw [hW, hW1]; rfl)
  have HPW := hid h
  have HH := hid hh
  have HA := hid ha
  have Hfew := hid hfew
  unfold RV.val pval
  clear h ha hh hfew hW1 hW hx1 hx2 s1
  have hk0 : (r.kind.toList == [99, 111, 112, 121]) = false := by rw [eq_of_beq hkd]; rfl
  obtain ⟨K, hK⟩ := Int.eq_ofNat_of_zero_le hidx.1
  have hKl : K < has.length := by omega
  obtain ⟨y, l, bl, cl, hya, hl, hc, hI⟩ := (HH.out.old (HX.out.old n0)).at hKl
  subst hya
  have Hl : Hid (has.getD (r.a).toNat [] = l) := hid (by rw [hK, List.getD_eq_getElem?_getD]; show (has[K]?).getD [] = l; rw [hl]; rfl)
  have hll : l.length ≤ 10000 := Hfew.out l (List.mem_of_getElem? hl)
  have HI := hid hI
  have c0 : ∀ w1, Keep (fun _ => False) W w1 → w1.cell? (y.add K) = some (.slice bl l.length cl) := fun w1 k => k.ext.cellx hc
  obtain ⟨m, hm⟩ : ∃ m, m = P.nodesOf l := ⟨_, rfl⟩
  have hml : m.length ≤ 10000 := by rw [hm]; exact Nat.le_trans (List.length_filter_le _ _) hll
  have Hr : Hid (P.redges r has = m.map fun o => (o, r.b)) := hid (by unfold PP.redges kCopy kLoad; rw [hk0, hkd, Hl.out, hm]; rfl)
  have HN := fun w1 (x : Ext W w1) => hid (consnodes_any a1 a2 a3 c1 c2 c3 P (.slice bl l.length cl) l w1 n0 ad (HPW.out.ext (HX.out.trans x)) (HI.out.old (x.old n0)) (by omega))
  unfold pval at HN
  rw [← hm] at HN
  rw [hK] at HB1 HWe
  have x0 := Ext.refl W
  have d0 := (HB0.out.ext x0).kc (X := fun _ => False) (fun e => e) 0 rfl
  have d1 := (HB0.out.ext x0).kc (X := fun _ => False) (fun e => e) 1 rfl
  have d2 := (HB0.out.ext x0).kc (X := fun _ => False) (fun e => e) 2 rfl
  have m0 := (HB1.out.ext x0).kc (X := fun _ => False) (fun e => e) 0 rfl
  have m1 := (HB1.out.ext x0).kc (X := fun _ => False) (fun e => e) 1 rfl
  have m2 := (HB1.out.ext x0).kc (X := fun _ => False) (fun e => e) 2 rfl
  have m3 := (HB1.out.ext x0).kc (X := fun _ => False) (fun e => e) 3 rfl
  have m4 := (HB1.out.ext x0).kc (X := fun _ => False) (fun e => e) 4 rfl
  simp only [pcells, List.getElem_toArray, List.getElem_cons_zero, List.getElem_cons_succ] at d0 d1 d2 m0 m1 m2 m3 m4
  clear x0 hl hc hI hidx hm
  go_enter Tryz.func113, Tryz.ntmps113
  rw [hK]
  clear hK
  go_wp2
  rw [← HWe.out]
  refine wp_flow (fun _ => False) (by kernel_rfl) (by kernel_rfl) ?_
  apply Flow.d 0 _ rfl (by simp) (by kernel_rfl)
  · intro w1 hk; unfold does; go_simp; (try go_ints); exact DetR.mk
  simp only [List.getElem_toArray, List.getElem_cons_zero, List.getElem_cons_succ, Act.put, List.setIfInBounds_toArray, List.set_cons_zero, List.set_cons_succ]
  apply Flow.d 1 _ rfl (by simp) (by kernel_rfl)
  · intro w1 hk; unfold does; go_simp; (try go_ints); exact DetR.mk
  simp only [List.getElem_toArray, List.getElem_cons_zero, List.getElem_cons_succ, Act.put, List.setIfInBounds_toArray, List.set_cons_zero, List.set_cons_succ]
  apply Flow.d 2 _ rfl (by simp) (by kernel_rfl)
  · intro w1 hk; unfold does; go_simp; (try go_ints); exact DetR.mk
  simp only [List.getElem_toArray, List.getElem_cons_zero, List.getElem_cons_succ, Act.put, List.setIfInBounds_toArray, List.set_cons_zero, List.set_cons_succ]
  apply Flow.d 3 _ rfl (by simp) (by kernel_rfl)
  · intro w1 hk; unfold does; go_simp; (try go_ints); exact DetR.mk
  simp only [List.getElem_toArray, List.getElem_cons_zero, List.getElem_cons_succ, Act.put, List.setIfInBounds_toArray, List.set_cons_zero, List.set_cons_succ]
  apply Flow.d 4 _ rfl (by simp) (by kernel_rfl)
  · intro w1 hk; unfold does; go_simp; (try go_ints); exact DetR.mk
  simp only [List.getElem_toArray, List.getElem_cons_zero, List.getElem_cons_succ, Act.put, List.setIfInBounds_toArray, List.set_cons_zero, List.set_cons_succ]
  apply Flow.d 5 _ rfl (by simp) (by kernel_rfl)
  · intro w1 hk; unfold does; go_simp; (try go_ints); exact DetR.mk
  simp only [List.getElem_toArray, List.getElem_cons_zero, List.getElem_cons_succ, Act.put, List.setIfInBounds_toArray, List.set_cons_zero, List.set_cons_succ]
  apply Flow.d 8 _ rfl (by simp) (by kernel_rfl)
  · intro w1 hk; unfold does; go_simp; (try go_ints); exact DetR.mk
  simp only [List.getElem_toArray, List.getElem_cons_zero, List.getElem_cons_succ, Act.put, List.setIfInBounds_toArray, List.set_cons_zero, List.set_cons_succ]
  refine Flow.one 6 _ rfl (by kernel_rfl) (fun v w' => (∃ a c, v = .slice a m.length c) ∧ IRow W.heap.size w' v m ∧ Ext W w') (fun _ _ _ ⟨h1, h2, h3⟩ y => ⟨h1, h2.ext y, h3.trans y⟩) (fun w1 hC hk => ?_) ?_
  · unfold does
    go_simp
    refine CallR.act ((HN w1 hC).out.mono ?_)
    rintro e w2 ⟨v, rfl, hr, hx⟩
    exact ⟨v, rfl, (hC.trans hx).keep _, hr.form, hr.base hC.size, hC.trans hx⟩
  rintro _ ⟨_, ⟨a9, c9, rfl⟩, _, _⟩
  simp only [List.getElem_toArray, List.getElem_cons_zero, List.getElem_cons_succ, Act.put, List.setIfInBounds_toArray, List.set_cons_zero, List.set_cons_succ]
  apply Flow.d 7 _ rfl (by simp) (by kernel_rfl)
  · intro w1 hk; unfold does; go_simp; (try go_ints); exact DetR.mk
  simp only [List.getElem_toArray, List.getElem_cons_zero, List.getElem_cons_succ, Act.put, List.setIfInBounds_toArray, List.set_cons_zero, List.set_cons_succ]
  refine Flow.fin (by kernel_rfl) fun w3 hC hk3 => ?_
  obtain ⟨_, hrm, hx3⟩ := hC
  have Hrm := hid hrm
  have Hx3 := hid hx3
  clear hrm hx3 hk3 HN c0 d0 d1 d2 m0 m1 m2 m3 m4
  go_wp2
  go_loopw [7, 35] (fun t7 ti wr => ∃ (k : Nat) (E : List (Int × Int)), ti = .int .i64 (k : Int) ∧ k ≤ m.length ∧ E = ((m.take k).map fun o => (o, r.b)) ∧ wr.ownsRow w3.heap.size 127 2 t7 k (E.flatMap eCells) ∧ Ext w3 wr) (fun _ ti _ => m.length - (intOf ti).toNat)
  case atStart => exact ⟨0, [], rfl, Nat.zero_le _, rfl, World.ownsRow_nil _ _ _ _, Ext.refl _⟩
  case round =>
    obtain ⟨k, E, rfl, hk, hE, hr, hx⟩ := hrel
    obtain ⟨a7, c7, rfl⟩ := row_form hr
    have Hr7 := hid hr
    have Hx := hid hx
    have HE := hid hE
    have HrmX := hid (Hrm.out.ext hx)
    clear hr hx hE
    by_cases hlt : k < m.length
    · obtain ⟨g9, cp9, he9⟩ : ∃ g cap, Value.slice a9 m.length c9 = .slice (some ⟨g, 0, none⟩) m.length cap := by
        rcases HrmX.out.case with ⟨_, h⟩ | h
        · rw [h] at hlt; simp at hlt
        · exact h
      simp only [Value.slice.injEq, true_and] at he9
      obtain ⟨rfl, rfl⟩ := he9
      obtain ⟨o, ho⟩ : ∃ o, m[k]? = some o := ⟨_, List.getElem?_eq_getElem hlt⟩
      have hco := own_i HrmX.out ho
      have Hn : Hid (((m.take (k + 1)).map fun o => (o, r.b)) = E ++ [((fun o => (o, r.b)) o)]) := hid (by rw [List.take_add_one, ho, HE.out, List.map_append]; rfl)
      have q2 := (HB1.out.ext (Hx3.out.trans Hx.out)).av 2 rfl
      simp only [List.getElem_toArray, List.getElem_cons_zero, List.getElem_cons_succ] at q2
      have hxa : Hid (Ext w3 (wr.alloc (.cells #[.int .i64 o, .int .i64 r.b] 127))) := hid (Hx.out.alloc _)
      have Hra := hid (own_ext Hr7.out ((Ext.refl wr).alloc (.cells #[.int .i64 o, .int .i64 r.b] 127)))
      clear ho
      go_wp2_with (at_builtin; refine wpList_append_el w3.heap.size hxa.out.size 143 127 (.agg #[.int .i64 0, .int .i64 0]) 2 16 Tryz.underlying143 edge_info rfl (by omega) (by omega) rfl _ _ rfl (.slice a7 k c7) k (E.flatMap eCells) rfl Hra.out wr.heap.size [.int .i64 o, .int .i64 r.b] rfl (by simp [Value.oneCell']) rfl (Blk.new _ _ _) (by omega) ?_; intro v' w' h1 h2 h4; obtain ⟨a', c', rfl⟩ := row_form h1; have h3 := hid (Keep.new hxa.out h2 (fun k hk => (World.ownsRow.lt Hra.out k hk).1)); have h1 := hid h1; clear h2 h4)
      go_roundw
      case rel =>
        refine ⟨k + 1, _, by go_num, by omega, Hn.out.symm, ?_, h3.out⟩
        rw [List.flatMap_append]
        simpa [eCells] using h1.out
      case measure => simp [intOf]; omega
    · obtain rfl : k = m.length := by omega
      have HEn : Hid (P.redges r has = E) := hid (by rw [Hr.out, HE.out, List.take_of_length_le (Nat.le_refl _)])
      have hEl : Hid (E.length = m.length) := hid (by rw [HE.out, List.length_map, List.length_take, Nat.min_self])
      go_wp2
      go_ret
      exact ⟨_, rfl, by unfold ERow; rw [HEn.out, hEl.out]; exact own_low Hr7.out (HX.out.trans Hx3.out).size, HX.out.trans (Hx3.out.trans Hx.out)⟩
set_option maxRecDepth 100000 in
set_option maxHeartbeats 6400000 in
theorem redges_store (a1 a2 a3 : Option Addr) (c1 c2 c3 : Nat) (P : PP) (r : RV) (av hv : Value) (has : List (List Int)) (w : World) (n0 : Nat) (ad : Nat → Addr) (h : PW w n0 ad a1 a2 a3 c1 c2 c3 P) (ha : IntsR w n0 av r.args) (hh : SetsR w n0 hv has) (hfew : ∀ l ∈ has, l.length ≤ 10000) (hkd : (r.kind.toList == [115, 116, 111, 114, 101]) = true) (hidx : 0 ≤ r.b ∧ r.b < has.length) :
    Calls Tryz.prog 113 #[pval a1 a2 a3 c1 c2 c3 P, r.val av, hv] w fun e w' => ∃ v, e = .returned v ∧ ERow w.heap.size w' v (P.redges r has) ∧ Ext w w' := by
  obtain ⟨aa, ca, rfl, _⟩ := id ha
  obtain ⟨ah, ch, rfl⟩ := hh.form
  have hhl := hh.len
  have hal := ha.len
  obtain ⟨W1, hW1⟩ : ∃ W1, W1 = w.alloc (.cells (pcells a1 a2 a3 c1 c2 c3 P) 26) := ⟨_, rfl⟩
  have hx1 : Ext w W1 := by rw [hW1]; exact (Ext.refl _).alloc _
  obtain ⟨W, hW⟩ : ∃ W, W = W1.alloc (.cells #[.string r.kind, .int .i64 r.a, .int .i64 r.b, .int .i64 r.k, .slice aa r.args.length ca] 86) := ⟨_, rfl⟩
  have hx2 : Ext W1 W := by rw [hW]; exact (Ext.refl _).alloc _
  have s1 : W1.heap.size = w.heap.size + 1 := by rw [hW1, heap_size_alloc]
  have HX := hid (hx1.trans hx2)
  have HB0 : Hid (Blk W w.heap.size (pcells a1 a2 a3 c1 c2 c3 P) 26) := hid (by
    have : Blk W1 w.heap.size (pcells a1 a2 a3 c1 c2 c3 P) 26 := by rw [hW1]; exact Blk.new _ _ _
    exact this.ext hx2)
  have HB1 : Hid (Blk W (w.heap.size + 1) #[.string r.kind, .int .i64 r.a, .int .i64 r.b, .int .i64 r.k, .slice aa r.args.length ca] 86) := hid (by rw [← s1, hW]; exact Blk.new _ _ _)
  have HWe : Hid (W = (w.alloc (.cells #[.slice a1 P.vars.length c1, .slice a2 P.funs.length c2, .slice a3 P.stmts.length c3] 26)).alloc (.cells #[.string r.kind, .int .i64 r.a, .int .i64 r.b, .int .i64 r.k, .slice aa r.args.length ca] 86)) := hid (by rw [hW, hW1]; rfl)
  have HPW := hid h
  have HH := hid hh
  have HA := hid ha
  have Hfew := hid hfew
  unfold RV.val pval
  clear h ha hh hfew hW1 hW hx1 hx2 s1
  have hk0 : (r.kind.toList == [99, 111, 112, 121]) = false := by rw [eq_of_beq hkd]; rfl
  have hk1 : (r.kind.toList == [108, 111, 97, 100]) = false := by rw [eq_of_beq hkd]; rfl
  obtain ⟨K, hK⟩ := Int.eq_ofNat_of_zero_le hidx.1
  have hKl : K < has.length := by omega
  obtain ⟨y, l, bl, cl, hya, hl, hc, hI⟩ := (HH.out.old (HX.out.old n0)).at hKl
  subst hya
  have Hl : Hid (has.getD (r.b).toNat [] = l) := hid (by rw [hK, List.getD_eq_getElem?_getD]; show (has[K]?).getD [] = l; rw [hl]; rfl)
  have hll : l.length ≤ 10000 := Hfew.out l (List.mem_of_getElem? hl)
  have HI := hid hI
  have c0 : ∀ w1, Keep (fun _ => False) W w1 → w1.cell? (y.add K) = some (.slice bl l.length cl) := fun w1 k => k.ext.cellx hc
  obtain ⟨m, hm⟩ : ∃ m, m = P.nodesOf l := ⟨_, rfl⟩
  have hml : m.length ≤ 10000 := by rw [hm]; exact Nat.le_trans (List.length_filter_le _ _) hll
  have Hr : Hid (P.redges r has = m.map fun o => (r.a, o)) := hid (by unfold PP.redges kCopy kLoad kStore; rw [hk0, hk1, hkd, Hl.out, hm]; rfl)
  have HN := fun w1 (x : Ext W w1) => hid (consnodes_any a1 a2 a3 c1 c2 c3 P (.slice bl l.length cl) l w1 n0 ad (HPW.out.ext (HX.out.trans x)) (HI.out.old (x.old n0)) (by omega))
  unfold pval at HN
  rw [← hm] at HN
  rw [hK] at HB1 HWe
  have x0 := Ext.refl W
  have d0 := (HB0.out.ext x0).kc (X := fun _ => False) (fun e => e) 0 rfl
  have d1 := (HB0.out.ext x0).kc (X := fun _ => False) (fun e => e) 1 rfl
  have d2 := (HB0.out.ext x0).kc (X := fun _ => False) (fun e => e) 2 rfl
  have m0 := (HB1.out.ext x0).kc (X := fun _ => False) (fun e => e) 0 rfl
  have m1 := (HB1.out.ext x0).kc (X := fun _ => False) (fun e => e) 1 rfl
  have m2 := (HB1.out.ext x0).kc (X := fun _ => False) (fun e => e) 2 rfl
  have m3 := (HB1.out.ext x0).kc (X := fun _ => False) (fun e => e) 3 rfl
  have m4 := (HB1.out.ext x0).kc (X := fun _ => False) (fun e => e) 4 rfl
  simp only [pcells, List.getElem_toArray, List.getElem_cons_zero, List.getElem_cons_succ] at d0 d1 d2 m0 m1 m2 m3 m4
  clear x0 hl hc hI hidx hm
  go_enter Tryz.func113, Tryz.ntmps113
  rw [hK]
  clear hK
  go_wp2
  rw [← HWe.out]
  refine wp_flow (fun _ => False) (by kernel_rfl) (by kernel_rfl) ?_
  apply Flow.d 0 _ rfl (by simp) (by kernel_rfl)
  · intro w1 hk; unfold does; go_simp; (try go_ints); exact DetR.mk
  simp only [List.getElem_toArray, List.getElem_cons_zero, List.getElem_cons_succ, Act.put, List.setIfInBounds_toArray, List.set_cons_zero, List.set_cons_succ]
  apply Flow.d 1 _ rfl (by simp) (by kernel_rfl)
  · intro w1 hk; unfold does; go_simp; (try go_ints); exact DetR.mk
  simp only [List.getElem_toArray, List.getElem_cons_zero, List.getElem_cons_succ, Act.put, List.setIfInBounds_toArray, List.set_cons_zero, List.set_cons_succ]
  apply Flow.d 2 _ rfl (by simp) (by kernel_rfl)
  · intro w1 hk; unfold does; go_simp; (try go_ints); exact DetR.mk
  simp only [List.getElem_toArray, List.getElem_cons_zero, List.getElem_cons_succ, Act.put, List.setIfInBounds_toArray, List.set_cons_zero, List.set_cons_succ]
  apply Flow.d 3 _ rfl (by simp) (by kernel_rfl)
  · intro w1 hk; unfold does; go_simp; (try go_ints); exact DetR.mk
  simp only [List.getElem_toArray, List.getElem_cons_zero, List.getElem_cons_succ, Act.put, List.setIfInBounds_toArray, List.set_cons_zero, List.set_cons_succ]
  apply Flow.d 4 _ rfl (by simp) (by kernel_rfl)
  · intro w1 hk; unfold does; go_simp; (try go_ints); exact DetR.mk
  simp only [List.getElem_toArray, List.getElem_cons_zero, List.getElem_cons_succ, Act.put, List.setIfInBounds_toArray, List.set_cons_zero, List.set_cons_succ]
  apply Flow.d 5 _ rfl (by simp) (by kernel_rfl)
  · intro w1 hk; unfold does; go_simp; (try go_ints); exact DetR.mk
  simp only [List.getElem_toArray, List.getElem_cons_zero, List.getElem_cons_succ, Act.put, List.setIfInBounds_toArray, List.set_cons_zero, List.set_cons_succ]
  apply Flow.d 8 _ rfl (by simp) (by kernel_rfl)
  · intro w1 hk; unfold does; go_simp; (try go_ints); exact DetR.mk
  simp only [List.getElem_toArray, List.getElem_cons_zero, List.getElem_cons_succ, Act.put, List.setIfInBounds_toArray, List.set_cons_zero, List.set_cons_succ]
  refine Flow.one 6 _ rfl (by kernel_rfl) (fun v w' => (∃ a c, v = .slice a m.length c) ∧ IRow W.heap.size w' v m ∧ Ext W w') (fun _ _ _ ⟨h1, h2, h3⟩ y => ⟨h1, h2.ext y, h3.trans y⟩) (fun w1 hC hk => ?_) ?_
  · unfold does
    go_simp
    refine CallR.act ((HN w1 hC).out.mono ?_)
    rintro e w2 ⟨v, rfl, hr, hx⟩
    exact ⟨v, rfl, (hC.trans hx).keep _, hr.form, hr.base hC.size, hC.trans hx⟩
  rintro _ ⟨_, ⟨a9, c9, rfl⟩, _, _⟩
  simp only [List.getElem_toArray, List.getElem_cons_zero, List.getElem_cons_succ, Act.put, List.setIfInBounds_toArray, List.set_cons_zero, List.set_cons_succ]
  apply Flow.d 7 _ rfl (by simp) (by kernel_rfl)
  · intro w1 hk; unfold does; go_simp; (try go_ints); exact DetR.mk
  simp only [List.getElem_toArray, List.getElem_cons_zero, List.getElem_cons_succ, Act.put, List.setIfInBounds_toArray, List.set_cons_zero, List.set_cons_succ]
  refine Flow.fin (by kernel_rfl) fun w3 hC hk3 => ?_
  obtain ⟨_, hrm, hx3⟩ := hC
  have Hrm := hid hrm
  have Hx3 := hid hx3
  clear hrm hx3 hk3 HN c0 d0 d1 d2 m0 m1 m2 m3 m4
  go_wp2
  go_loopw [7, 57] (fun t7 ti wr => ∃ (k : Nat) (E : List (Int × Int)), ti = .int .i64 (k : Int) ∧ k ≤ m.length ∧ E = ((m.take k).map fun o => (r.a, o)) ∧ wr.ownsRow w3.heap.size 127 2 t7 k (E.flatMap eCells) ∧ Ext w3 wr) (fun _ ti _ => m.length - (intOf ti).toNat)
  case atStart => exact ⟨0, [], rfl, Nat.zero_le _, rfl, World.ownsRow_nil _ _ _ _, Ext.refl _⟩
  case round =>
    obtain ⟨k, E, rfl, hk, hE, hr, hx⟩ := hrel
    obtain ⟨a7, c7, rfl⟩ := row_form hr
    have Hr7 := hid hr
    have Hx := hid hx
    have HE := hid hE
    have HrmX := hid (Hrm.out.ext hx)
    clear hr hx hE
    by_cases hlt : k < m.length
    · obtain ⟨g9, cp9, he9⟩ : ∃ g cap, Value.slice a9 m.length c9 = .slice (some ⟨g, 0, none⟩) m.length cap := by
        rcases HrmX.out.case with ⟨_, h⟩ | h
        · rw [h] at hlt; simp at hlt
        · exact h
      simp only [Value.slice.injEq, true_and] at he9
      obtain ⟨rfl, rfl⟩ := he9
      obtain ⟨o, ho⟩ : ∃ o, m[k]? = some o := ⟨_, List.getElem?_eq_getElem hlt⟩
      have hco := own_i HrmX.out ho
      have Hn : Hid (((m.take (k + 1)).map fun o => (r.a, o)) = E ++ [((fun o => (r.a, o)) o)]) := hid (by rw [List.take_add_one, ho, HE.out, List.map_append]; rfl)
      have q2 := (HB1.out.ext (Hx3.out.trans Hx.out)).av 1 rfl
      simp only [List.getElem_toArray, List.getElem_cons_zero, List.getElem_cons_succ] at q2
      have hxa : Hid (Ext w3 (wr.alloc (.cells #[.int .i64 r.a, .int .i64 o] 127))) := hid (Hx.out.alloc _)
      have Hra := hid (own_ext Hr7.out ((Ext.refl wr).alloc (.cells #[.int .i64 r.a, .int .i64 o] 127)))
      clear ho
      go_wp2_with (at_builtin; refine wpList_append_el w3.heap.size hxa.out.size 143 127 (.agg #[.int .i64 0, .int .i64 0]) 2 16 Tryz.underlying143 edge_info rfl (by omega) (by omega) rfl _ _ rfl (.slice a7 k c7) k (E.flatMap eCells) rfl Hra.out wr.heap.size [.int .i64 r.a, .int .i64 o] rfl (by simp [Value.oneCell']) rfl (Blk.new _ _ _) (by omega) ?_; intro v' w' h1 h2 h4; obtain ⟨a', c', rfl⟩ := row_form h1; have h3 := hid (Keep.new hxa.out h2 (fun k hk => (World.ownsRow.lt Hra.out k hk).1)); have h1 := hid h1; clear h2 h4)
      go_roundw
      case rel =>
        refine ⟨k + 1, _, by go_num, by omega, Hn.out.symm, ?_, h3.out⟩
        rw [List.flatMap_append]
        simpa [eCells] using h1.out
      case measure => simp [intOf]; omega
    · obtain rfl : k = m.length := by omega
      have HEn : Hid (P.redges r has = E) := hid (by rw [Hr.out, HE.out, List.take_of_length_le (Nat.le_refl _)])
      have hEl : Hid (E.length = m.length) := hid (by rw [HE.out, List.length_map, List.length_take, Nat.min_self])
      go_wp2
      go_ret
      exact ⟨_, rfl, by unfold ERow; rw [HEn.out, hEl.out]; exact own_low Hr7.out (HX.out.trans Hx3.out).size, HX.out.trans (Hx3.out.trans Hx.out)⟩
end Go.Proofs.YtdppgcbekhabnaaGreatDoor



/- Edges of a rule: calls; any rule. -/
namespace Go.Proofs.YtdppgcbekhabnaaGreatDoor
set_option linter.unusedSimpArgs false
set_option linter.unusedVariables false
open Go Go.RowKit

theorem does_append_src {ops : Array Oper} {o : Oper} {a : Act} {w : World} {R : Value → World → Prop} (base : Nat) (hbase : base ≤ w.heap.size) (t e : TypeId) (z : Value) (size bytes : Nat) (ht : Tryz.prog.underlying t = some (.slice e)) (hinf : (Tryz.prog.info? e).map (fun i => (i.zero, i.size, i.bytes)) = some (some z, size, bytes)) (hz1 : z.cells.size = size) (hsz : 0 < size)
    (hb8 : bytes ≤ 64) (hg : o.guard = none) (s x : Operand) (ho : o.op = .call { callee := .builtin .append, args := #[s, x], argTypes := #[t, t] })
    (v : Value) (n : Nat) (xs : List Value) (hs : a.eval s = v) (hown : w.ownsRow base e size v n xs) (ad : Option Addr) (m c : Nat) (us : List Value) (hx : a.eval x = .slice ad m c) (hsrc : Src w ad m size us) (hl : n + m ≤ 1000000)
    (h : ∀ v' w', w'.ownsRow base e size v' (n + m) (xs ++ us) → Keep (fun k => v.ownBlock = some k) w w' → R v' w') : does Tryz.prog ops o a w R := by
  obtain ⟨v', w', hr, h2, h3, h4⟩ := run_append_src w base hbase t e z size bytes ht hinf hz1 hsz hb8 o.type v n xs hown ad m c us hsrc hl
  exact does_of_run hg (run_exec_append s x t ho hs hx hr) (h v' w' h2 h3)
theorem own_src {w : World} {base : Nat} {e : TypeId} {size n c : Nat} {a : Option Addr} {xs : List Value} (h : w.ownsRow base e size (.slice a n c) n xs) (h1 : ∀ u ∈ xs, u.oneCell' = true) : Src w a n size xs := by
  refine ⟨h.1, fun hn => ?_, fun x hx j u hu => ?_, h1⟩
  · obtain ⟨g, cp, he⟩ := own_some h hn
    simp only [Value.slice.injEq] at he
    exact ⟨_, he.1⟩
  · rcases h.2 with ⟨he, hn⟩ | ⟨g, cp, cur, he, _⟩
    · simp only [Value.slice.injEq] at he
      rw [he.1] at hx; cases hx
    · simp only [Value.slice.injEq] at he
      obtain ⟨rfl, _, rfl⟩ := he
      obtain rfl := Option.some.inj hx
      exact h.cells (g := g) rfl j u hu
theorem eCells_one {E : List (Int × Int)} : ∀ u ∈ E.flatMap eCells, u.oneCell' = true := fun u hu => by
  obtain ⟨e, _, h⟩ := List.mem_flatMap.1 hu
  simp only [eCells, List.mem_cons, List.mem_nil_iff, or_false] at h
  rcases h with rfl | rfl <;> rfl
theorem funV_lt {P : PP} {o : Int} (h : 0 ≤ P.funV o) : P.funV o < P.funs.length := by
  unfold PP.funV at h ⊢
  by_cases hc : 0 ≤ o - P.nodesV ∧ o - P.nodesV < P.funs.length
  · rw [if_pos hc]; exact hc.2
  · rw [if_neg hc] at h; omega
theorem called_few {P : PP} (hw : P.Well) {f : PF} (hf : f ∈ P.funs) (r : RV) : (calledV f r).length ≤ 4 := by
  have := (PP.goodF (PP.funs_ok hw.1) hf).few
  unfold calledV
  split
  · rw [List.length_cons, List.length_zip]; omega
  · simp
set_option maxRecDepth 100000 in
set_option maxHeartbeats 6400000 in
theorem redges_call (a1 a2 a3 : Option Addr) (c1 c2 c3 : Nat) (P : PP) (r : RV) (av hv : Value) (has : List (List Int)) (w : World) (n0 : Nat) (ad : Nat → Addr) (h : PW w n0 ad a1 a2 a3 c1 c2 c3 P) (ha : IntsR w n0 av r.args) (hh : SetsR w n0 hv has) (hfew : ∀ l ∈ has, l.length ≤ 10000) (hkd : (r.kind.toList == [99, 97, 108, 108]) = true) (hidx : 0 ≤ r.a ∧ r.a < has.length) (hin : ∀ l ∈ has, InR l) (hn0 : n0 ≤ w.heap.size) :
    Calls Tryz.prog 113 #[pval a1 a2 a3 c1 c2 c3 P, r.val av, hv] w fun e w' => ∃ v, e = .returned v ∧ ERow w.heap.size w' v (P.redges r has) ∧ Ext w w' := by
  obtain ⟨aa, ca, rfl, _⟩ := id ha
  obtain ⟨ah, ch, rfl⟩ := hh.form
  have hhl := hh.len
  have hal := ha.len
  obtain ⟨W1, hW1⟩ : ∃ W1, W1 = w.alloc (.cells (pcells a1 a2 a3 c1 c2 c3 P) 26) := ⟨_, rfl⟩
  have hx1 : Ext w W1 := by rw [hW1]; exact (Ext.refl _).alloc _
  obtain ⟨W, hW⟩ : ∃ W, W = W1.alloc (.cells #[.string r.kind, .int .i64 r.a, .int .i64 r.b, .int .i64 r.k, .slice aa r.args.length ca] 86) := ⟨_, rfl⟩
  have hx2 : Ext W1 W := by rw [hW]; exact (Ext.refl _).alloc _
  have s1 : W1.heap.size = w.heap.size + 1 := by rw [hW1, heap_size_alloc]
  have HX := hid (hx1.trans hx2)
  have HB0 : Hid (Blk W w.heap.size (pcells a1 a2 a3 c1 c2 c3 P) 26) := hid (by
    have : Blk W1 w.heap.size (pcells a1 a2 a3 c1 c2 c3 P) 26 := by rw [hW1]; exact Blk.new _ _ _
    exact this.ext hx2)
  have HB1 : Hid (Blk W (w.heap.size + 1) #[.string r.kind, .int .i64 r.a, .int .i64 r.b, .int .i64 r.k, .slice aa r.args.length ca] 86) := hid (by rw [← s1, hW]; exact Blk.new _ _ _)
  have HWe : Hid (W = (w.alloc (.cells #[.slice a1 P.vars.length c1, .slice a2 P.funs.length c2, .slice a3 P.stmts.length c3] 26)).alloc (.cells #[.string r.kind, .int .i64 r.a, .int .i64 r.b, .int .i64 r.k, .slice aa r.args.length ca] 86)) := hid (by rw [hW, hW1]; rfl)
  have HPW := hid h
  have HH := hid hh
  have HA := hid ha
  have Hfew := hid hfew
  unfold RV.val pval
  clear h ha hh hfew hW1 hW hx1 hx2 s1
  have hk0 : (r.kind.toList == [99, 111, 112, 121]) = false := by rw [eq_of_beq hkd]; rfl
  have hk1 : (r.kind.toList == [108, 111, 97, 100]) = false := by rw [eq_of_beq hkd]; rfl
  have hk2 : (r.kind.toList == [115, 116, 111, 114, 101]) = false := by rw [eq_of_beq hkd]; rfl
  obtain ⟨K, hK⟩ := Int.eq_ofNat_of_zero_le hidx.1
  have hKl : K < has.length := by omega
  obtain ⟨y, l, bl, cl, hya, hl, hc, hI⟩ := (HH.out.old (HX.out.old n0)).at hKl
  subst hya
  have Hl : Hid (has.getD (r.a).toNat [] = l) := hid (by rw [hK, List.getD_eq_getElem?_getD]; show (has[K]?).getD [] = l; rw [hl]; rfl)
  have hll : l.length ≤ 10000 := Hfew.out l (List.mem_of_getElem? hl)
  have HI := hid hI
  have c0 : ∀ w1, Keep (fun _ => False) W w1 → w1.cell? (y.add K) = some (.slice bl l.length cl) := fun w1 k => k.ext.cellx hc
  have Hin := hid (hin l (List.mem_of_getElem? hl))
  have Hr : Hid (P.redges r has = l.flatMap (P.callsOf r)) := hid (by unfold PP.redges kCopy kLoad kStore kCall; rw [hk0, hk1, hk2, hkd, Hl.out]; rfl)
  have HPF := fun o w1 (x : Ext W w1) (ho : 0 ≤ o ∧ o < 1000) => hid (progfun_any a1 a2 a3 c1 c2 c3 P o w1 n0 ad (HPW.out.ext (HX.out.trans x)) ho)
  have Hn0 : Hid (n0 ≤ W.heap.size) := hid (Nat.le_trans hn0 HX.out.size)
  unfold pval at HPF
  have HWk := hid HWe.out
  rw [hK] at HWk
  rw [HWk.out] at hc
  clear c0 hl hI hidx hin hn0
  go_enter Tryz.func113, Tryz.ntmps113
  rw [hK]
  clear hK
  go_wp2
  rw [← HWk.out]
  clear hc
  go_loopw [7, 77] (fun t7 t77 wr => ∃ (k : Nat) (E : List (Int × Int)), t77 = .int .i64 (k : Int) ∧ k ≤ l.length ∧ E = (l.take k).flatMap (P.callsOf r) ∧ E.length ≤ 4 * k ∧ wr.ownsRow W.heap.size 127 2 t7 E.length (E.flatMap eCells) ∧ Ext W wr) (fun _ t77 _ => l.length - (intOf t77).toNat)
  case atStart => exact ⟨0, [], rfl, Nat.zero_le _, rfl, Nat.zero_le _, World.ownsRow_nil _ _ _ _, Ext.refl _⟩
  case round =>
    obtain ⟨k, E, rfl, hk, hE, hEl, hr, hx⟩ := hrel
    obtain ⟨a7, c7, rfl⟩ := row_form hr
    have Hr7 := hid hr
    have Hx := hid hx
    have HE := hid hE
    clear hr hx hE
    by_cases hlt : k < l.length
    · obtain ⟨yl, o, hyl, ho, hco⟩ := (HI.out.old (Hx.out.old n0)).at hlt
      subst hyl
      have hob := Hin.out o (List.mem_of_getElem? ho)
      have HF := HPF o wr Hx.out hob
      have Hn : Hid ((l.take (k + 1)).flatMap (P.callsOf r) = E ++ P.callsOf r o) := hid (by rw [List.take_add_one, ho, HE.out, List.flatMap_append]; simp)
      obtain ⟨F, hF⟩ : ∃ F, F = P.funV o := ⟨_, rfl⟩
      rw [← hF] at HF
      have HFe := hid hF
      have d0 := (HB0.out.ext Hx.out).av 0 rfl
      have d1 := (HB0.out.ext Hx.out).av 1 rfl
      have d2 := (HB0.out.ext Hx.out).av 2 rfl
      simp only [pcells, List.getElem_toArray, List.getElem_cons_zero, List.getElem_cons_succ] at d0 d1 d2
      clear ho hob hF
      go_wp2_with fail
      refine HF.out.mono ?_
      intro e w1 hx
      obtain ⟨rfl, hx1⟩ := hx
      have Hx1 := hid (Hx.out.trans hx1)
      have Hr1 := hid (own_ext Hr7.out hx1)
      clear HF hx1 hco d0 d1 d2
      by_cases hF0 : 0 ≤ F
      · obtain ⟨N, rfl⟩ := Int.eq_ofNat_of_zero_le hF0
        have hN : N < P.funs.length := by have := funV_lt (P := P) (o := o) (by rw [← HFe.out]; exact hF0); rw [← HFe.out] at this; omega
        obtain ⟨yf, f, afp, cfp, hyf, hfk, e0, e1, e2, hIp⟩ := (HPW.out.prog.ext HX.out).funs.at hN
        subst hyf
        have hfm : f ∈ P.funs := List.mem_of_getElem? hfk
        have hq4 := called_few HPW.out.well hfm r
        have hpf := (PP.goodF (PP.funs_ok HPW.out.well.1) hfm).few
        obtain ⟨q, hq⟩ : ∃ q, q = calledV f r := ⟨_, rfl⟩
        have Hc : Hid (P.callsOf r o = q) := hid (by
          unfold PP.callsOf
          rw [if_pos (by rw [← HFe.out]; omega), ← HFe.out, hq]
          show calledV ((P.funs.getD N _)) r = _
          rw [List.getD_eq_getElem?_getD, hfk]; rfl)
        have HCl := fun wx (x : Ext w1 wx) => hid (conscalled_any f r (.slice afp f.params.length cfp) (.slice aa r.args.length ca) wx n0 (hIp.old ((Hx1.out.trans x).old n0)) (HA.out.old ((HX.out.trans (Hx1.out.trans x)).old n0)) (by omega))
        rw [← hq] at HCl hq4
        unfold RV.val at HCl
        have hnew : ∀ wx, Keep (fun b => W.heap.size ≤ b) w1 wx → Ext W wx := fun wx kk => Keep.new Hx1.out kk fun b hb => hb
        have f0 : ∀ wx, Keep (fun b => W.heap.size ≤ b) w1 wx → wx.cell? (yf.add (N * 3)) = some (.string f.name) := fun wx kk => (hnew wx kk).cellx e0
        have f1 : ∀ wx, Keep (fun b => W.heap.size ≤ b) w1 wx → wx.cell? ⟨(yf.add (N * 3)).block, (yf.add (N * 3)).off + 1, none⟩ = some (.slice afp f.params.length cfp) := fun wx kk => (hnew wx kk).cellx e1
        have f2 : ∀ wx, Keep (fun b => W.heap.size ≤ b) w1 wx → wx.cell? ⟨(yf.add (N * 3)).block, (yf.add (N * 3)).off + 2, none⟩ = some (.int .i64 f.ret) := fun wx kk => (hnew wx kk).cellx e2
        have nb0 : ¬ W.heap.size ≤ w.heap.size := by have := HB0.out.lt; omega
        have nb1 : ¬ W.heap.size ≤ w.heap.size + 1 := by have := HB1.out.lt; omega
        have d1 := (HB0.out.ext Hx1.out).kc (X := fun b => W.heap.size ≤ b) nb0 1 rfl
        have m0 := (HB1.out.ext Hx1.out).kc (X := fun b => W.heap.size ≤ b) nb1 0 rfl
        have m1 := (HB1.out.ext Hx1.out).kc (X := fun b => W.heap.size ≤ b) nb1 1 rfl
        have m2 := (HB1.out.ext Hx1.out).kc (X := fun b => W.heap.size ≤ b) nb1 2 rfl
        have m3 := (HB1.out.ext Hx1.out).kc (X := fun b => W.heap.size ≤ b) nb1 3 rfl
        have m4 := (HB1.out.ext Hx1.out).kc (X := fun b => W.heap.size ≤ b) nb1 4 rfl
        simp only [pcells, List.getElem_toArray, List.getElem_cons_zero, List.getElem_cons_succ] at d1 m0 m1 m2 m3 m4
        clear hfk e0 e1 e2 hIp hfm hq hnew nb0 nb1
        go_wp2
        refine wp_flowT (fun b => W.heap.size ≤ b) (by kernel_rfl) (by kernel_rfl) ?_
        repeat (apply FlowT.d; (intro w1 hk; unfold does; go_simp; (try go_ints); (first | exact DetR.mk | (simp only [↓IntWalk.iteOmega, Oper.doesUpon_value]; exact DetR.mk) | (simp only [↓IntWalk.iteOmega]; go_simp; (try go_ints); exact DetR.mk))); simp only [Act.put, List.setIfInBounds_toArray, List.set_cons_zero, List.set_cons_succ])
        refine FlowT.s (fun v w' => (∃ a c, v = .slice a q.length c) ∧ ERow W.heap.size w' v q ∧ w'.ownsRow W.heap.size 127 2 (.slice a7 E.length c7) E.length (E.flatMap eCells) ∧ Ext W w') 7 rfl (by kernel_rfl) (fun _ _ _ ⟨h1, h2, h3, h4⟩ y => ⟨h1, h2.ext y, own_ext h3 y, h4.trans y⟩) (fun w2 hC hk2 => ?_) ?_
        · unfold does
          go_simp
          refine CallR.act ((HCl w2 hC).out.mono ?_)
          rintro e w3 ⟨v, rfl, hr, hx⟩
          exact ⟨v, rfl, hk2.trans (hx.keep _), row_form hr, hr.low (Hx1.out.trans hC).size, own_ext Hr1.out (hC.trans hx), Hx1.out.trans (hC.trans hx)⟩
        rintro _ ⟨_, ⟨a8, c8, rfl⟩, _, _, _⟩
        simp only [Act.put, List.setIfInBounds_toArray, List.set_cons_zero, List.set_cons_succ]
        refine FlowT.s (fun v w' => (∃ a c, v = .slice a (E.length + q.length) c) ∧ w'.ownsRow W.heap.size 127 2 v (E.length + q.length) ((E ++ q).flatMap eCells) ∧ Ext W w') 8 rfl (by kernel_rfl) (fun _ _ _ ⟨h1, h2, h3⟩ y => ⟨h1, own_ext h2 y, h3.trans y⟩) (fun w2 hC hk2 => ?_) ?_
        · obtain ⟨_, hq8, hr8, hx8⟩ := hC
          refine does_append_src W.heap.size hx8.size 143 127 (.agg #[.int .i64 0, .int .i64 0]) 2 16 Tryz.underlying143 edge_info rfl (by omega) (by omega) rfl _ _ rfl (.slice a7 E.length c7) E.length (E.flatMap eCells) rfl hr8 a8 q.length c8 (q.flatMap eCells) rfl (own_src hq8 eCells_one) (by omega) ?_
          intro v' w' h1 h2
          exact ⟨hk2.trans (h2.mono fun b _ e => (World.ownsRow.lt hr8 b e).1), row_form h1, by rw [List.flatMap_append]; exact h1, Keep.new hx8 h2 (fun b e => (World.ownsRow.lt hr8 b e).1)⟩
        rintro _ ⟨_, ⟨a10, c10, rfl⟩, _, _⟩
        simp only [Act.put, List.setIfInBounds_toArray, List.set_cons_zero, List.set_cons_succ]
        repeat (apply FlowT.d; (intro w1 hk; unfold does; go_simp; (try go_ints); (first | exact DetR.mk | (simp only [↓IntWalk.iteOmega, Oper.doesUpon_value]; exact DetR.mk) | (simp only [↓IntWalk.iteOmega]; go_simp; (try go_ints); exact DetR.mk))); simp only [Act.put, List.setIfInBounds_toArray, List.set_cons_zero, List.set_cons_succ])
        refine FlowT.fin fun w4 hC4 hk4 => ?_
        obtain ⟨_, h5, h6⟩ := hC4
        have H5 := hid h5
        have H6 := hid h6
        clear h5 h6 hk4 HCl f0 f1 f2 d1 m0 m1 m2 m3 m4
        go_wp2
        go_roundw
        case rel => exact ⟨k + 1, E ++ q, by go_num, by omega, by rw [Hn.out, Hc.out], by rw [List.length_append]; omega, by rw [List.length_append]; exact H5.out, H6.out⟩
        case measure => simp [intOf]; omega
      · have Hc : Hid (P.callsOf r o = []) := hid (by unfold PP.callsOf; rw [if_neg (by rw [← HFe.out]; exact hF0)])
        go_wp2
        go_roundw
        case rel => exact ⟨k + 1, E, by go_num, by omega, by rw [Hn.out, Hc.out, List.append_nil], by omega, Hr1.out, Hx1.out⟩
        case measure => simp [intOf]; omega
    · obtain rfl : k = l.length := by omega
      have HEn : Hid (P.redges r has = E) := hid (by rw [Hr.out, HE.out, List.take_of_length_le (Nat.le_refl _)])
      go_wp2
      go_ret
      exact ⟨_, rfl, by unfold ERow; rw [HEn.out]; exact own_low Hr7.out HX.out.size, HX.out.trans Hx.out⟩
end Go.Proofs.YtdppgcbekhabnaaGreatDoor

