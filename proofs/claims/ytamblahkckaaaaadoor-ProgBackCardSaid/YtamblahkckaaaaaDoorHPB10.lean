/- Texts of one proof, put together: ZZZP ZZZQ YB YP YQ YK YR YN Z3. -/
import Derived.Test.YtamblahkckaaaaaDoorHPB01
import Derived.Test.YtamblahkckaaaaaDoorHPB07
import Derived.Test.YtamblahkckaaaaaDoorHPB08
import Derived.Test.YtamblahkckaaaaaDoorHPB09
import Derived.Shelf.Strings.BuilderK
import Derived.Lib.SlicesCompact
import Derived.Sort.Grow
import Derived.Deep.Draws
import Derived.Test.YtamblahkckaaaaaDoorProg
import Derived.Shelf.SlSortCmp.NoneTotal
import Derived.Laws.StructEq
set_option linter.unusedSimpArgs false
set_option linter.unusedVariables false
namespace Go.Proofs.YtamblahkckaaaaaDoor
open Go Go.RowKit
structure StIn (P : PP) (s : PS) : Prop where
  x : 0 ≤ s.x ∧ s.x < P.vars.length
  f : (s.kind.toList == [102, 117, 110]) = true → 0 ≤ s.y ∧ s.y < P.funs.length
  y : (s.kind.toList == [110, 101, 119]) = false → (s.kind.toList == [102, 117, 110]) = false → 0 ≤ s.y ∧ s.y < P.vars.length
  args : ∀ n ∈ s.args, 0 ≤ n ∧ n < P.vars.length
  few : s.args.length ≤ 8
theorem FunsR.fat {w : World} {n0 : Nat} {a : Option Addr} {n cap : Nat} {P : PP} (h : FunsR w n0 (.slice a n cap) P.funs) {k : Nat} (hk : k < P.funs.length) : ∃ y, a = some y ∧ w.cell? (y.add (k * 3)) = some (.string (P.fN (k : Int))) := by
  obtain ⟨y, f, av, cv, h1, h2, h3, _⟩ := h.at hk
  refine ⟨y, h1, ?_⟩
  rw [h3]
  unfold PP.fN
  rw [Int.toNat_natCast, h2]
theorem fN_small {P : PP} (hP : ∀ f ∈ P.funs, f.name.size ≤ 20) (n : Int) : (P.fN n).size ≤ 20 := by
  unfold PP.fN
  cases h : P.funs[n.toNat]? with
  | none => exact Nat.zero_le _
  | some s => exact hP s (List.mem_of_getElem? h)
theorem size_kB (l : List UInt8) : (⟨l.toArray⟩ : ByteArray).size = l.length := by
  show l.toArray.size = l.length
  rw [List.size_toArray]
set_option maxRecDepth 100000 in
set_option maxHeartbeats 3200000 in
theorem progstmt_any (a1 a2 a3 a4 : Option Addr) (c1 c2 c3 c4 : Nat) (P : PP) (s : PS) (w : World) (n0 : Nat) (h : ProgR w n0 (.slice a1 P.vars.length c1) (.slice a2 P.funs.length c2) (.slice a3 P.stmts.length c3) P) (hP : ∀ s ∈ P.vars, s.size ≤ 20) (hF : ∀ f ∈ P.funs, f.name.size ≤ 20) (hv : P.vars.length ≤ 1000) (hfl : P.funs.length ≤ 1000) (hI : IntsR w n0 (.slice a4 s.args.length c4) s.args) (hs : StIn P s) :
    Calls Tryd.prog 22 #[pval a1 a2 a3 c1 c2 c3 P, sval s a4 c4] w fun e w' => ∃ t : ByteArray, e = .returned (.string t) ∧ t.toList = P.stmtT s ∧ Ext w w' := by
  obtain ⟨W, hW⟩ : ∃ W, W = (w.alloc (.cells (pcells a1 a2 a3 c1 c2 c3 P) 26)).alloc (.cells (scells s a4 c4) 39) := ⟨_, rfl⟩
  have hxW : Ext w W := by rw [hW]; exact ((Ext.refl _).alloc _).alloc _
  have hBp : Blk W w.heap.size (pcells a1 a2 a3 c1 c2 c3 P) 26 := by rw [hW]; exact (Blk.new _ _ _).alloc _
  have hBs : Blk W (w.heap.size + 1) (scells s a4 c4) 39 := by
    have := Blk.new (w.alloc (.cells (pcells a1 a2 a3 c1 c2 c3 P) 26)) (scells s a4 c4) 39
    rw [heap_size_alloc] at this
    rw [hW]; exact this
  have p0 := hBp.av 0 rfl
  have p1 := hBp.av 1 rfl
  have p2 := hBp.av 2 rfl
  have s0 := hBs.av 0 rfl
  have s1 := hBs.av 1 rfl
  have s2 := hBs.av 2 rfl
  have s3 := hBs.av 3 rfl
  simp only [pcells, scells, qA0, qA1, qA2] at p0 p1 p2 s0 s1 s2 s3
  obtain ⟨m, hm⟩ : ∃ m : Nat, s.x = m := ⟨s.x.toNat, by have := hs.x; omega⟩
  have hmv : m < P.vars.length := by have := hs.x; omega
  obtain ⟨yx, hyx, hcx⟩ := (h.ext hxW).vars.vat hmv
  obtain rfl : a1 = some yx := hyx
  obtain ⟨x, hx⟩ : ∃ x, x = P.vN (m : Int) := ⟨_, rfl⟩
  have hxz : x.size ≤ 20 := by rw [hx]; exact vN_small hP _
  rw [← hx] at hcx
  have hxT : (P.vN s.x).data.toList = x.toList := by rw [hm, ← hx, Lib.toList_data]
  rw [hm] at s1
  have hin := hs.args
  have HP := hid (h.ext hxW)
  have HI := hid (hI.old (hxW.old n0))
  have HxW := hid hxW
  unfold scells at hW
  unfold pcells at hW
  rw [hm] at hW
  have HW := hid hW
  have Hs := hid hs
  have HF := hid hF
  have Hsm := hid hP
  have Hin := hid hin
  rw [hW] at hcx
  unfold pval sval
  rw [hm]
  have Hm := hid hm
  have HxT := hid hxT
  have few := hs.few
  clear h hBp hBs hx hxT hW hxW p0 p1 p2 s0 s1 s2 s3 hP hF hI hs hin
  cases hk1 : (s.kind.toList == [110, 101, 119]) with
  | true =>
    have Ht : Hid (P.stmtT s = x.toList ++ [32, 61, 32, 110, 101, 119]) := hid (by unfold PP.stmtT; rw [hk1, HxT.out]; rfl)
    clear hm
    go_enter Tryd.func22, Tryd.ntmps22
    go_wp2
    go_ret
    exact ⟨_, rfl, by rw [Ht.out]; simp [toList_append2, Lib.toList_data, hid], ((Ext.refl w).alloc _).alloc _⟩
  | false =>
    cases hk2 : (s.kind.toList == [102, 117, 110]) with
    | true =>
      have hy := Hs.out.f hk2
      obtain ⟨k, hk⟩ : ∃ k : Nat, s.y = k := ⟨s.y.toNat, by omega⟩
      have hkv : k < P.funs.length := by omega
      obtain ⟨yf, hyf, hcf⟩ := HP.out.funs.fat hkv
      obtain rfl : a2 = some yf := hyf
      obtain ⟨f, hf⟩ : ∃ f, f = P.fN (k : Int) := ⟨_, rfl⟩
      have hfz : f.size ≤ 20 := by rw [hf]; exact fN_small HF.out _
      rw [← hf] at hcf
      have Ht : Hid (P.stmtT s = x.toList ++ [32, 61, 32, 102, 110, 32] ++ f.toList) := hid (by unfold PP.stmtT; rw [hk1, hk2, HxT.out, hk, ← hf, Lib.toList_data f]; rfl)
      rw [HW.out, hk] at hcf
      rw [hk] at hcx ⊢
      clear hm hk hf hy
      go_enter Tryd.func22, Tryd.ntmps22
      go_wp2
      go_ret
      exact ⟨_, rfl, by rw [Ht.out]; simp [toList_append2, Lib.toList_data, hid], ((Ext.refl w).alloc _).alloc _⟩
    | false =>
      have hy := Hs.out.y hk1 hk2
      obtain ⟨k, hk⟩ : ∃ k : Nat, s.y = k := ⟨s.y.toNat, by omega⟩
      have hkv : k < P.vars.length := by omega
      obtain ⟨yy, hyy, hcy⟩ := HP.out.vars.vat hkv
      obtain rfl : yx = yy := by simpa using hyy
      obtain ⟨f, hf⟩ : ∃ f, f = P.vN (k : Int) := ⟨_, rfl⟩
      have hfz : f.size ≤ 20 := by rw [hf]; exact vN_small Hsm.out _
      rw [← hf] at hcy
      have HyT : Hid ((P.vN s.y).data.toList = f.toList) := hid (by rw [hk, ← hf, Lib.toList_data])
      rw [HW.out, hk] at hcy
      rw [hk] at hcx HW ⊢
      clear hm hk hf hy hyy
      cases hk3 : (s.kind.toList == [97, 100, 100, 114]) with
      | true =>
        have Ht : Hid (P.stmtT s = x.toList ++ [32, 61, 32, 38] ++ f.toList) := hid (by unfold PP.stmtT; rw [hk1, hk2, hk3, HxT.out, HyT.out]; rfl)
        go_enter Tryd.func22, Tryd.ntmps22
        go_wp2
        go_ret
        exact ⟨_, rfl, by rw [Ht.out]; simp [toList_append2, Lib.toList_data, hid], ((Ext.refl w).alloc _).alloc _⟩
      | false =>
        cases hk4 : (s.kind.toList == [108, 111, 97, 100]) with
        | true =>
          have Ht : Hid (P.stmtT s = x.toList ++ [32, 61, 32, 42] ++ f.toList) := hid (by unfold PP.stmtT; rw [hk1, hk2, hk3, hk4, HxT.out, HyT.out]; rfl)
          go_enter Tryd.func22, Tryd.ntmps22
          go_wp2
          go_ret
          exact ⟨_, rfl, by rw [Ht.out]; simp [toList_append2, Lib.toList_data, hid], ((Ext.refl w).alloc _).alloc _⟩
        | false =>
          cases hk5 : (s.kind.toList == [115, 116, 111, 114, 101]) with
          | true =>
            have Ht : Hid (P.stmtT s = [42] ++ x.toList ++ [32, 61, 32] ++ f.toList) := hid (by unfold PP.stmtT; rw [hk1, hk2, hk3, hk4, hk5, HxT.out, HyT.out]; rfl)
            go_enter Tryd.func22, Tryd.ntmps22
            go_wp2
            go_ret
            exact ⟨_, rfl, by rw [Ht.out]; simp [toList_append2, Lib.toList_data, hid], ((Ext.refl w).alloc _).alloc _⟩
          | false =>
            cases hk6 : (s.kind.toList == [99, 97, 108, 108]) with
            | true =>
              have Ht : Hid (P.stmtT s = x.toList ++ [32, 61, 32, 99, 97, 108, 108, 32] ++ f.toList ++ [40] ++ P.listT s.args ++ [41]) := hid (by unfold PP.stmtT; rw [hk1, hk2, hk3, hk4, hk5, hk6, HxT.out, HyT.out]; rfl)
              have HL := hid (proglist_any (some yx) a2 a3 c1 c2 c3 P _ s.args W n0 HP.out Hsm.out hv HI.out few Hin.out)
              unfold pval at HL
              have hls := listT_small Hsm.out few
              go_enter Tryd.func22, Tryd.ntmps22
              go_wp2_with fail
              rw [← HW.out]
              refine HL.out.mono ?_
              intro e w1 hx
              obtain ⟨t, rfl, ht, hx⟩ := hx
              have HxW2 := hid (HxW.out.trans hx)
              have hts : t.size ≤ 176 := by rw [← bs_list, ← Lib.toList_data, ht]; exact hls
              have Htt := hid ht
              clear HL hx ht hls hcx hcy
              go_wp2
              go_ret
              exact ⟨_, rfl, by rw [Ht.out, ← Htt.out]; simp [toList_append2, Lib.toList_data, hid], HxW2.out⟩
            | false =>
              have Ht : Hid (P.stmtT s = x.toList ++ [32, 61, 32] ++ f.toList) := hid (by unfold PP.stmtT; rw [hk1, hk2, hk3, hk4, hk5, hk6, HxT.out, HyT.out]; rfl)
              go_enter Tryd.func22, Tryd.ntmps22
              go_wp2
              go_ret
              exact ⟨_, rfl, by rw [Ht.out]; simp [toList_append2, Lib.toList_data, hid], ((Ext.refl w).alloc _).alloc _⟩
def BAt (B b : Nat) (l : List UInt8) (w : World) : Prop := Lib.IsBuilderF 56 5 B b (Lib.byteCells l) w
theorem ownF_ext {w w' : World} {base : Nat} {e : TypeId} {size : Nat} {v : Value} {n : Nat} {xs : List Value} (h : w.ownsRowF base e size v n xs) (x : Ext w w') : w'.ownsRowF base e size v n xs := by
  obtain ⟨h1, h2⟩ := h
  refine ⟨h1, h2.imp id ?_⟩
  rintro ⟨g, cap, cur, fz, h3, h4, h5, h6⟩
  exact ⟨g, cap, cur, fz, h3, h4, x.get h5, h6⟩
theorem BAt.ext {B b : Nat} {l : List UInt8} {w w' : World} (h : BAt B b l w) (x : Ext w w') : BAt B b l w' := by
  rcases h with ⟨h1, v, h2, h3, h4⟩ | ⟨h1, v, h2, h3, h4⟩
  · exact .inl ⟨h1, v, x.get h2, ownF_ext h3 x, h4⟩
  · exact .inr ⟨h1, v, x.get h2, ownF_ext h3 x, h4⟩
theorem bcells_app (l : List UInt8) (s : ByteArray) : Lib.byteCells l ++ Lib.strCells s = Lib.byteCells (l ++ s.data.toList) := by
  unfold Lib.byteCells Lib.strCells
  rw [List.map_append]
theorem bwrite_any (B b : Nat) (l : List UInt8) (s : ByteArray) (w : World) (h : BAt B b l w) (hl : l.length + s.size ≤ 1000000) (hB : B ≤ w.heap.size) :
    Calls Tryd.prog 20 #[.pointer (some ⟨b, 0, none⟩), .string s] w fun e w' => e = .returned (.tuple #[.int .i64 s.size, .nilIface]) ∧ BAt B b (l ++ s.data.toList) w' ∧ Old B w w' ∧ ∀ q c t, q ≠ b → t ≠ 5 → Blk w q c t → Blk w' q c t :=
  (Any.Builder_WriteString_k { Tryd.lays156 with } Tryd.Builder_Extra_156 B b (Lib.byteCells l) s w h (by rw [Lib.byteCells_length]; omega) hB).mono fun e w' ⟨he, hb, hk, ho⟩ => by
    rw [bcells_app] at hb
    exact ⟨he, .inr hb, ⟨hk.os, hk.tape, hk.output, hk.size, fun k _ hn => hk.block k (by omega)⟩, fun q c t hq ht hbk => ho q _ hbk (fun e => hq (Option.some.inj e)) fun c2 fz e => ht (by injection e)⟩
theorem bstring_any (B b : Nat) (l : List UInt8) (w : World) (h : BAt B b l w) (hB : B ≤ w.heap.size) :
    Calls Tryd.prog 23 #[.pointer (some ⟨b, 0, none⟩)] w fun e w' => e = .returned (.string ⟨l.toArray⟩) ∧ Old B w w' :=
  (Any.Builder_String_any_k { Tryd.lays156 with } Tryd.Builder_Extra_156 B b l w h hB).mono fun e w' ⟨he, _, hk, _⟩ => ⟨he, ⟨hk.os, hk.tape, hk.output, hk.size, fun k _ hn => hk.block k (by omega)⟩⟩
theorem BAt.new (w : World) : BAt w.heap.size w.heap.size [] (w.alloc (.cells #[.pointer none, .slice none 0 0] 56)) :=
  Lib.IsBuilderF.of (.inl ⟨Nat.le_refl _, .slice none 0 0, Blk.new _ _ _, World.ownsRow_nil _ _ _ _, by simp [Value.ownBlock]⟩)
def PP.setE (P : PP) (l : List Int) : Nat := if chkE l = 0 then (if 0 < l.length ∧ (P.objectsV : Int) ≤ l.getD (l.length - 1) 0 then 2 else 0) else chkE l
theorem setE_zero {P : PP} {l : List Int} (h : P.setE l = 0) : chkE l = 0 ∧ ∀ x ∈ l, x < P.objectsV := by
  unfold PP.setE at h
  by_cases h0 : chkE l = 0
  · rw [if_pos h0] at h
    refine ⟨h0, fun x hx => ?_⟩
    obtain ⟨i, hi, rfl⟩ := List.getElem_of_mem hx
    have hl : 0 < l.length := by omega
    by_cases hb : 0 < l.length ∧ (P.objectsV : Int) ≤ l.getD (l.length - 1) 0
    · rw [if_pos hb] at h; cases h
    · have hlast : l.getD (l.length - 1) 0 < (P.objectsV : Int) := by omega
      rw [List.getD_eq_getElem?_getD, List.getElem?_eq_getElem (by omega)] at hlast
      have hs := (chkE_zero.1 h0).2
      rcases Nat.lt_or_ge i (l.length - 1) with g | g
      · have := List.pairwise_iff_getElem.1 hs i (l.length - 1) hi (by omega) g
        have h2 : (some (l[l.length - 1]'(by omega))).getD 0 = l[l.length - 1]'(by omega) := rfl
        rw [h2] at hlast
        omega
      · have e : i = l.length - 1 := by omega
        subst e
        exact hlast
  · rw [if_neg h0] at h; exact absurd h h0
theorem SetsOk.of {P : PP} {has : List (List Int)} (h1 : has.length = P.nodesV) (h2 : ∀ l ∈ has, P.setE l = 0) : SetsOk P has := ⟨h1, fun l hl => setE_zero (h2 l hl)⟩
end Go.Proofs.YtamblahkckaaaaaDoor
namespace Go.Proofs.YtamblahkckaaaaaDoor
def lexLt (a b : Int × Int) : Prop := a.1 < b.1 ∨ (a.1 = b.1 ∧ a.2 < b.2)
def lexLe (a b : Int × Int) : Prop := lexLt a b ∨ a = b
theorem lexLt.irr (a : Int × Int) : ¬ lexLt a a := by unfold lexLt; omega
theorem lexLt.trans {a b c : Int × Int} (h : lexLt a b) (k : lexLt b c) : lexLt a c := by unfold lexLt at *; omega
theorem lexLe.lt {a b : Int × Int} (h : lexLe a b) (hn : a ≠ b) : lexLt a b := h.elim id fun e => absurd e hn
abbrev SrtP (l : List (Int × Int)) : Prop := l.Pairwise lexLt
theorem srtP_uniq : ∀ {a b : List (Int × Int)}, SrtP a → SrtP b → (∀ x, x ∈ a ↔ x ∈ b) → a = b
  | [], [], _, _, _ => rfl
  | [], y :: b, _, _, h => absurd ((h y).2 (List.mem_cons_self ..)) (List.not_mem_nil)
  | x :: a, [], _, _, h => absurd ((h x).1 (List.mem_cons_self ..)) (List.not_mem_nil)
  | x :: a, y :: b, ha, hb, h => by
    obtain ⟨ha1, ha2⟩ := List.pairwise_cons.1 ha
    obtain ⟨hb1, hb2⟩ := List.pairwise_cons.1 hb
    have hxy : x = y := by
      have h1 : x ∈ y :: b := (h x).1 (List.mem_cons_self ..)
      have h2 : y ∈ x :: a := (h y).2 (List.mem_cons_self ..)
      rcases List.mem_cons.1 h1 with e | e
      · exact e
      · rcases List.mem_cons.1 h2 with f | f
        · exact f.symm
        · exact absurd ((hb1 x e).trans (ha1 y f)) (lexLt.irr _)
    subst hxy
    congr 1
    refine srtP_uniq ha2 hb2 fun z => ⟨fun hz => ?_, fun hz => ?_⟩
    · rcases List.mem_cons.1 ((h z).1 (List.mem_cons_of_mem _ hz)) with e | e
      · have := ha1 z hz; rw [e] at this; exact absurd this (lexLt.irr _)
      · exact e
    · rcases List.mem_cons.1 ((h z).2 (List.mem_cons_of_mem _ hz)) with e | e
      · have := hb1 z hz; rw [e] at this; exact absurd this (lexLt.irr _)
      · exact e
end Go.Proofs.YtamblahkckaaaaaDoor
namespace Go.Proofs.YtamblahkckaaaaaDoor
open Go Go.RowKit
def PP.edges0 (P : PP) (has : List (List Int)) : List (Int × Int) := P.rulesV.flatMap fun r => P.redges r has
theorem redges_nil {P : PP} {r : RV} {has : List (List Int)} (h : r.kind = bBase) : P.redges r has = [] := by
  have e := eq_of_beq bBase_list
  unfold PP.redges kCopy kLoad kStore kCall
  rw [h, e]; rfl
def PP.InN (P : PP) (e : Int × Int) : Prop := 0 ≤ e.1 ∧ e.1 < P.nodesV ∧ 0 ≤ e.2 ∧ e.2 < P.nodesV
theorem nodes_in {P : PP} {has : List (List Int)} (hs : SetsOk P has) (i : Nat) (o : Int) (ho : o ∈ P.nodesOf (has.getD i [])) : 0 ≤ o ∧ o < (P.nodesV : Int) := by
  unfold PP.nodesOf at ho
  obtain ⟨h1, h2⟩ := List.mem_filter.1 ho
  have h3 : o < (P.nodesV : Int) := by simpa using h2
  rw [List.getD_eq_getElem?_getD] at h1
  cases he : has[i]? with
  | none => rw [he] at h1; cases h1
  | some l => rw [he] at h1; exact ⟨(hs.inr l (List.mem_of_getElem? he) o h1).1, h3⟩
theorem called_in {P : PP} (hw : P.Well) {f : PF} (hf : f ∈ P.funs) {r : RV} (hb : 0 ≤ r.b ∧ r.b < P.nodesV) (ha : ∀ a ∈ r.args, 0 ≤ a ∧ a < (P.nodesV : Int)) : ∀ e ∈ calledV f r, P.InN e := by
  intro e he
  have g := PP.goodF (PP.funs_ok hw.1) hf
  have hnv := nodes_vars P
  unfold calledV at he
  split at he
  · rcases List.mem_cons.1 he with rfl | he
    · have := g.ret
      exact ⟨this.1, by show f.ret < _; omega, hb.1, hb.2⟩
    · obtain ⟨a, b⟩ := e
      obtain ⟨h1, h2⟩ := List.of_mem_zip he
      have p1 := ha a h1
      have p2 := g.params b h2
      exact ⟨p1.1, p1.2, p2.1, by show b < _; omega⟩
  · cases he
set_option maxRecDepth 100000 in
theorem redges_in {P : PP} {has : List (List Int)} (hw : P.Well) (hs : SetsOk P has) {k : Nat} (hk : k < P.stmts.length) : ∀ e ∈ P.redges (P.ruleV k (P.stAt k)) has, P.InN e := by
  have h0 := hw.2 k (P.stAt k) hk (stAt_some hk)
  have hg := PP.good h0
  have hnv := nodes_vars P
  obtain ⟨x, hx⟩ : ∃ x, x = P.stAt k := ⟨_, rfl⟩
  rw [← hx] at h0 hg ⊢
  have hgx := hg.gx
  rcases kind_cases h0 with g | g | g | g | g | g | g
  · rw [redges_nil (by unfold PP.ruleV; rw [g]; rfl)]
    intro e he; cases he
  · have e : P.ruleV k x = ⟨x.kind, x.y, x.x, k, []⟩ := by unfold PP.ruleV; rw [isK_ne g (k' := kAddr) rfl, isK_ne g (k' := kNew) rfl, isK_ne g (k' := kFun) rfl, isK_ne g (k' := kCall) rfl]; rfl
    have hy := hg.yv (isK_ne g (k' := kFun) rfl) (isK_ne g (k' := kNew) rfl)
    have h2 : (x.kind.toList == kCopy) = true := g
    rw [e]
    unfold PP.redges
    dsimp only
    rw [h2, cond_true]
    intro e he
    obtain rfl := List.mem_singleton.1 he
    exact ⟨hy.1, by show x.y < _; omega, hgx.1, by show x.x < _; omega⟩
  · have e : P.ruleV k x = ⟨x.kind, x.y, x.x, k, []⟩ := by unfold PP.ruleV; rw [isK_ne g (k' := kAddr) rfl, isK_ne g (k' := kNew) rfl, isK_ne g (k' := kFun) rfl, isK_ne g (k' := kCall) rfl]; rfl
    have h1 : (x.kind.toList == kCopy) = false := isK_ne g (k' := kCopy) rfl
    have h2 : (x.kind.toList == kLoad) = true := g
    rw [e]
    unfold PP.redges
    dsimp only
    rw [h1, h2, cond_true, cond_false]
    intro e he
    obtain ⟨o, ho, rfl⟩ := List.mem_map.1 he
    have := nodes_in hs _ o ho
    exact ⟨this.1, this.2, hgx.1, by show x.x < _; omega⟩
  · have e : P.ruleV k x = ⟨x.kind, x.y, x.x, k, []⟩ := by unfold PP.ruleV; rw [isK_ne g (k' := kAddr) rfl, isK_ne g (k' := kNew) rfl, isK_ne g (k' := kFun) rfl, isK_ne g (k' := kCall) rfl]; rfl
    have hy := hg.yv (isK_ne g (k' := kFun) rfl) (isK_ne g (k' := kNew) rfl)
    have h1 : (x.kind.toList == kCopy) = false := isK_ne g (k' := kCopy) rfl
    have h3 : (x.kind.toList == kLoad) = false := isK_ne g (k' := kLoad) rfl
    have h2 : (x.kind.toList == kStore) = true := g
    rw [e]
    unfold PP.redges
    dsimp only
    rw [h1, h2, h3, cond_true, cond_false, cond_false]
    intro e he
    obtain ⟨o, ho, rfl⟩ := List.mem_map.1 he
    have := nodes_in hs _ o ho
    exact ⟨hy.1, by show x.y < _; omega, this.1, this.2⟩
  · rw [redges_nil (by unfold PP.ruleV; rw [isK_ne g (k' := kAddr) rfl, g]; rfl)]
    intro e he; cases he
  · rw [redges_nil (by unfold PP.ruleV; rw [isK_ne g (k' := kAddr) rfl, isK_ne g (k' := kNew) rfl, g]; rfl)]
    intro e he; cases he
  · have e : P.ruleV k x = ⟨bCall, x.y, x.x, k, x.args⟩ := by unfold PP.ruleV; rw [isK_ne g (k' := kAddr) rfl, isK_ne g (k' := kNew) rfl, isK_ne g (k' := kFun) rfl, g]; rfl
    have hkd := eq_of_beq bCall_list
    rw [e]
    unfold PP.redges kCopy kLoad kStore kCall
    dsimp only
    rw [hkd]
    intro e he
    obtain ⟨o, _, ho⟩ := List.mem_flatMap.1 (show e ∈ (has.getD x.y.toNat []).flatMap (P.callsOf ⟨bCall, x.y, x.x, k, x.args⟩) from he)
    unfold PP.callsOf at ho
    split at ho
    · rename_i hF
      have hlt := funV_lt hF
      have hn : (P.funV o).toNat < P.funs.length := by omega
      rw [List.getD_eq_getElem?_getD, List.getElem?_eq_getElem hn] at ho
      exact called_in hw (List.getElem_mem hn) (r := ⟨bCall, x.y, x.x, k, x.args⟩) ⟨hgx.1, by show x.x < _; omega⟩ (fun a ha => by have := hg.args a ha; omega) e ho
    · cases ho
theorem edges0_in {P : PP} {has : List (List Int)} (hw : P.Well) (hs : SetsOk P has) : ∀ e ∈ P.edges0 has, P.InN e := by
  intro e he
  unfold PP.edges0 PP.rulesV PP.rulesUp at he
  obtain ⟨r, hr, he⟩ := List.mem_flatMap.1 he
  obtain ⟨k, hk, rfl⟩ := List.mem_map.1 hr
  exact redges_in hw hs (List.mem_range.1 hk) e he
theorem nodesV_le (P : PP) (hw : P.Well) : P.nodesV ≤ 120 := by
  have := hw.few
  have := P.nodesV_le2
  omega
structure EdgesAre (P : PP) (has : List (List Int)) (l : List (Int × Int)) : Prop where
  srt : SrtP l
  mem : ∀ e, e ∈ l ↔ e ∈ P.edges0 has ∧ e.1 ≠ e.2
theorem EdgesAre.uniq {P : PP} {has : List (List Int)} {a b : List (Int × Int)} (h : EdgesAre P has a) (k : EdgesAre P has b) : a = b :=
  srtP_uniq h.srt k.srt fun e => (h.mem e).trans (k.mem e).symm
end Go.Proofs.YtamblahkckaaaaaDoor
namespace Go.Proofs.YtamblahkckaaaaaDoor
open Go Go.RowKit Go.Sort
def InE (e : Int × Int) : Prop := 0 ≤ e.1 ∧ e.1 < 1000 ∧ 0 ≤ e.2 ∧ e.2 < 1000
abbrev SE := { e : Int × Int // InE e }
instance : Inhabited SE := ⟨⟨(0, 0), by unfold InE; omega⟩⟩
end Go.Proofs.YtamblahkckaaaaaDoor
namespace Go.Proofs.YtamblahkckaaaaaDoor
open Go Go.RowKit
structure ClosedP (P : PP) (has : List (List Int)) : Prop where
  base : ∀ k, k < P.stmts.length → (P.ruleV k (P.stAt k)).kind.toList = bBase.toList → (P.ruleV k (P.stAt k)).b ∈ has.getD (P.ruleV k (P.stAt k)).a.toNat []
  edge : ∀ e ∈ P.edges0 has, e.1 ≠ e.2 → ∀ n ∈ has.getD e.1.toNat [], n ∈ has.getD e.2.toNat []
def PP.turned (P : PP) : PP := ⟨P.vars, P.funs, P.stmts.reverse⟩
theorem rule_a_in {P : PP} (hw : P.Well) {k : Nat} (hk : k < P.stmts.length) : 0 ≤ (P.ruleV k (P.stAt k)).a ∧ (P.ruleV k (P.stAt k)).a < P.vars.length := by
  have h0 := hw.2 k (P.stAt k) hk (stAt_some hk)
  have hg := PP.good h0
  obtain ⟨x, hx⟩ : ∃ x, x = P.stAt k := ⟨_, rfl⟩
  rw [← hx] at h0 hg ⊢
  unfold PP.ruleV
  cases h1 : x.isK kAddr with
  | true => exact hg.gx
  | false =>
    cases h2 : x.isK kNew with
    | true => exact hg.gx
    | false =>
      cases h3 : x.isK kFun with
      | true => exact hg.gx
      | false =>
        have hy := hg.yv h3 h2
        cases h4 : x.isK kCall with
        | true => exact hy
        | false => exact hy
end Go.Proofs.YtamblahkckaaaaaDoor
