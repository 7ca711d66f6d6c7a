/- Texts of one proof, put together: SP ZZZC SM Flow FlowT Base FM F2 In F3 F4. -/
import Derived.Lib.SlicesCompact
import Derived.Lib.Atoi
import Derived.Lib.AtoiAll
import Derived.Lib.ItoaMem
import Derived.Lib.Join
import Derived.Lib.Bytealg
import Derived.Shelf.Strings.Builder1
import Derived.Shelf.Strings.Builder2
import Derived.Shelf.Strings.OnBuilder
import Derived.Shelf.Strings.Trim
import Derived.Shelf.Small.Utf8
import Derived.Shelf.Small.Strs
import Derived.Shelf.Small.Wraps
import Derived.Shelf.Strings.BuilderF
import Derived.Shelf.Strings.BuilderK
import Derived.Shelf.Utf8.RuneCount
import Derived.Shelf.Strings.Search1
import Derived.Shelf.Strings.Search2
import Derived.Shelf.Strings.Search3
import Derived.Shelf.Strings.Cut
import Derived.Shelf.Strings.Count
import Derived.Shelf.LaysM
import Derived.Shelf.Strings.Shaped
import Derived.Shelf.Strings.Prefix
import Derived.Shelf.Strings.Split
import Derived.Shelf.Unicode.Decode
import Derived.Shelf.Strings.Runes
import Derived.Shelf.Strings.RuneCount
import Derived.Shelf.Strings.AsciiSet
import Derived.Shelf.Strings.Explode
import Derived.Shelf.Unicode.DecodeSlow
import Derived.Shelf.Unicode.DecodeAny
import Derived.Shelf.Unicode.DecodeLast
import Derived.Shelf.Slices.Clone
import Derived.Shelf.SlicesE.Clone
import Derived.Test.YtamblahkckaaaaaDoorProg
import Derived.Orders
import Derived.Below
import Derived.Tactics
import Derived.Tactics2
import Derived.KernelRfl
import Derived.WalkKit
import Derived.WalkSpells
import Derived.WalkLawsBesides
import Derived.Outline
import Derived.Laws.BitsAllLaws
import Derived.Laws.IdiomStrings
import Derived.Laws.Concat
import Derived.OpenShut
set_option linter.unusedSimpArgs false
set_option linter.unusedVariables false
namespace Go.Proofs.YtamblahkckaaaaaDoor
theorem qA0 {α : Type _} {xs : List α} {i : Nat} (h : i < xs.toArray.size) : xs.toArray[i] = xs[i]'(by simpa using h) := List.getElem_toArray h
theorem qA1 {α : Type _} (a : α) (l : List α) (h : 0 < (a :: l).length) : (a :: l)[0] = a := List.getElem_cons_zero a l h
theorem qA2 {α : Type _} (a : α) (l : List α) (i : Nat) (h : i + 1 < (a :: l).length) : (a :: l)[i + 1] = l[i]'(by simpa using h) := List.getElem_cons_succ a l i h
theorem qS0 {α : Type _} (xs : List α) (i : Nat) (a : α) : xs.toArray.setIfInBounds i a = (xs.set i a).toArray := List.setIfInBounds_toArray xs i a
theorem qS1 {α : Type _} (l : List α) (a b : α) : (a :: l).set 0 b = b :: l := List.set_cons_zero ..
theorem qS2 {α : Type _} (l : List α) (i : Nat) (a b : α) : (a :: l).set (i + 1) b = a :: l.set i b := List.set_cons_succ ..
end Go.Proofs.YtamblahkckaaaaaDoor
namespace Go.Proofs.YtamblahkckaaaaaDoor
def InR (l : List Int) : Prop := ∀ x ∈ l, 0 ≤ x ∧ x < 1000
abbrev Srt (l : List Int) : Prop := l.Pairwise (· < ·)
def sset (l : List Int) : List Int := (((List.range 1000).filter fun n : Nat => decide ((n : Int) ∈ l)) : List Nat).map fun n : Nat => (n : Int)
def chkE (l : List Int) : Nat := if l.all (fun x => decide (0 ≤ x ∧ x < 1000)) then (if decide (Srt l) then 0 else 10) else 2
theorem Srt.tail {x : Int} {l : List Int} (h : Srt (x :: l)) : Srt l := (List.pairwise_cons.1 h).2
theorem Srt.head {x : Int} {l : List Int} (h : Srt (x :: l)) : ∀ y ∈ l, x < y := (List.pairwise_cons.1 h).1
theorem srt_uniq : ∀ {a b : List Int}, Srt a → Srt b → (∀ x, x ∈ a ↔ x ∈ b) → a = b
  | [], [], _, _, _ => rfl
  | [], y :: b, _, _, h => absurd ((h y).2 (List.mem_cons_self ..)) (List.not_mem_nil)
  | x :: a, [], _, _, h => absurd ((h x).1 (List.mem_cons_self ..)) (List.not_mem_nil)
  | x :: a, y :: b, ha, hb, h => by
    have hxy : x = y := by
      have h1 : x ∈ y :: b := (h x).1 (List.mem_cons_self ..)
      have h2 : y ∈ x :: a := (h y).2 (List.mem_cons_self ..)
      rcases List.mem_cons.1 h1 with e | e
      · exact e
      · rcases List.mem_cons.1 h2 with f | f
        · exact f.symm
        · have := hb.head x e; have := ha.head y f; omega
    subst hxy
    congr 1
    refine srt_uniq ha.tail hb.tail fun z => ⟨fun hz => ?_, fun hz => ?_⟩
    · rcases List.mem_cons.1 ((h z).1 (List.mem_cons_of_mem _ hz)) with e | e
      · have := ha.head z hz; omega
      · exact e
    · rcases List.mem_cons.1 ((h z).2 (List.mem_cons_of_mem _ hz)) with e | e
      · have := hb.head z hz; omega
      · exact e
theorem sset_srt (l : List Int) : Srt (sset l) := by
  unfold sset Srt
  rw [List.pairwise_map]
  refine List.Pairwise.imp (R := (· < ·)) (fun h => by omega) ?_
  exact List.Pairwise.sublist List.filter_sublist (List.pairwise_lt_range (n := 1000))
theorem mem_sset0 {l : List Int} {x : Int} : x ∈ sset l ↔ x ∈ l ∧ 0 ≤ x ∧ x < 1000 := by
  unfold sset
  rw [List.mem_map]
  constructor
  · rintro ⟨n, hn, rfl⟩
    obtain ⟨h1, h2⟩ := List.mem_filter.1 hn
    have := List.mem_range.1 h1
    exact ⟨of_decide_eq_true h2, by omega, by omega⟩
  · rintro ⟨h, h0, h1⟩
    refine ⟨x.toNat, List.mem_filter.2 ⟨List.mem_range.2 (by omega), ?_⟩, by omega⟩
    rw [Int.toNat_of_nonneg h0]
    exact decide_eq_true h
theorem mem_sset {l : List Int} (hl : InR l) {x : Int} : x ∈ sset l ↔ x ∈ l := ⟨fun h => (mem_sset0.1 h).1, fun h => mem_sset0.2 ⟨h, hl x h⟩⟩
theorem sset_in (l : List Int) : InR (sset l) := fun _ h => (mem_sset0.1 h).2
theorem InR.app {a b : List Int} (ha : InR a) (hb : InR b) : InR (a ++ b) := fun x h => (List.mem_append.1 h).elim (ha x) (hb x)
theorem InR.filter {a : List Int} (ha : InR a) (p : Int → Bool) : InR (a.filter p) := fun x h => ha x (List.mem_filter.1 h).1
theorem Srt.filter {a : List Int} (ha : Srt a) (p : Int → Bool) : Srt (a.filter p) := List.Pairwise.sublist List.filter_sublist ha
theorem sset_self {l : List Int} (h : Srt l) (hl : InR l) : sset l = l := srt_uniq (sset_srt l) h fun _ => mem_sset hl
theorem chkE_zero {l : List Int} : chkE l = 0 ↔ InR l ∧ Srt l := by
  unfold chkE
  by_cases h1 : l.all (fun x => decide (0 ≤ x ∧ x < 1000)) = true
  · rw [if_pos h1]
    have hin : InR l := fun x hx => of_decide_eq_true (List.all_eq_true.1 h1 x hx)
    by_cases h2 : Srt l
    · rw [decide_eq_true h2, if_pos rfl]; exact ⟨fun _ => ⟨hin, h2⟩, fun _ => rfl⟩
    · rw [decide_eq_false h2, if_neg (by decide)]; exact ⟨fun h => absurd h (by decide), fun h => absurd h.2 h2⟩
  · rw [if_neg h1]
    exact ⟨fun h => absurd h (by decide), fun h => absurd (List.all_eq_true.2 fun x hx => decide_eq_true (h.1 x hx)) h1⟩
theorem chkE_sset (l : List Int) : chkE (sset l) = 0 := chkE_zero.2 ⟨sset_in l, sset_srt l⟩
end Go.Proofs.YtamblahkckaaaaaDoor
namespace Go.Proofs.YtamblahkckaaaaaDoor
open Go.Lib
def cutc (c : UInt8) : List UInt8 → List (List UInt8)
  | [] => [[]]
  | b :: r => if b = c then [] :: cutc c r else
    match cutc c r with
    | [] => [[b]]
    | p :: ps => (b :: p) :: ps
theorem index_none {c : UInt8} : ∀ {l : List UInt8}, indexByte l c = -1 → c ∉ l
  | [], _ => by simp
  | b :: r, h => by
    unfold indexByte at h
    by_cases hb : (b == c) = true
    · rw [if_pos hb] at h; exact absurd h (by decide)
    · rw [if_neg hb] at h
      have h2 : indexByte r c = -1 := by
        by_cases h3 : (indexByte r c == -1) = true
        · exact eq_of_beq h3
        · rw [if_neg h3] at h
          have := indexByte_ge r c
          omega
      intro hm
      rcases List.mem_cons.1 hm with e | e
      · exact hb (by rw [e]; exact beq_self_eq_true _)
      · exact index_none h2 e
theorem join_two (x y sep : List UInt8) (r : List (List UInt8)) : join (x :: y :: r) sep = x ++ (sep ++ join (y :: r) sep) := by
  rw [join_cons, join_cons]
  simp [joinTail, List.append_assoc]
def numV (p : List UInt8) : Option Int :=
  match atoiAll p with
  | .ok v => if p.length ≤ 9 ∧ 0 ≤ v ∧ itoa v = p then some v else none
  | _ => none
def numsV : List (List UInt8) → Option (List Int)
  | [] => some []
  | p :: ps => match numV p, numsV ps with
    | some v, some l => some (v :: l)
    | _, _ => none
end Go.Proofs.YtamblahkckaaaaaDoor
namespace Go.Proofs
open Go.Shelf
def Tryd.lays156_ren : Go.Shelf.Ren := ⟨fun | 156 => 38 | 165 => 51 | 166 => 20 | 169 => 23 | 240 => 37 | 241 => 71 | 276 => 50 | 277 => 83 | n => n, fun | 31 => 22 | 9 => 9 | 3 => 3 | 4 => 4 | 0 => 0 | 20 => 20 | 72 => 56 | 76 => 57 | 70 => 53 | 37 => 54 | 75 => 31 | 127 => 78 | 164 => 88 | 5 => 5 | 80 => 61 | n => n, fun | n => n⟩
theorem Tryd.lays156 : Go.Proofs.Lays.n156 Tryd.prog Tryd.lays156_ren := {
  mixed := by kernel_rfl
  f156 := Tryd.func38.trans (congrArg some (by kernel_rfl))
  f165 := Tryd.func51.trans (congrArg some (by kernel_rfl))
  f166 := Tryd.func20.trans (congrArg some (by kernel_rfl))
  f169 := Tryd.func23.trans (congrArg some (by kernel_rfl))
  f240 := Tryd.func37.trans (congrArg some (by kernel_rfl))
  f241 := Tryd.func71.trans (congrArg some (by kernel_rfl))
  f276 := Tryd.func50.trans (congrArg some (by kernel_rfl))
  f277 := Tryd.func83.trans (congrArg some (by kernel_rfl))
  t0 := Tryd.underlying0
  a0 := Tryd.isAgg0
  z0 := Tryd.sizeOf0
  v0 := Tryd.zeroValue0
  t3 := Tryd.underlying3
  a3 := Tryd.isAgg3
  z3 := Tryd.sizeOf3
  v3 := Tryd.zeroValue3
  t4 := Tryd.underlying4
  a4 := Tryd.isAgg4
  z4 := Tryd.sizeOf4
  v4 := Tryd.zeroValue4
  t9 := Tryd.underlying9
  a9 := Tryd.isAgg9
  z9 := Tryd.sizeOf9
  v9 := Tryd.zeroValue9
  t20 := Tryd.underlying20
  a20 := Tryd.isAgg20
  z20 := Tryd.sizeOf20
  v20 := Tryd.zeroValue20
  t31 := Tryd.underlying22
  a31 := Tryd.isAgg22
  z31 := Tryd.sizeOf22
  v31 := Tryd.zeroValue22
  t37 := Tryd.underlying54
  a37 := Tryd.isAgg54
  z37 := Tryd.sizeOf54
  v37 := Tryd.zeroValue54
  t70 := Tryd.underlying53
  a70 := Tryd.isAgg53
  z70 := Tryd.sizeOf53
  v70 := Tryd.zeroValue53
  t72 := Tryd.underlying56
  a72 := Tryd.isAgg56
  z72 := Tryd.sizeOf56
  v72 := Tryd.zeroValue56
  t75 := Tryd.underlying31
  a75 := Tryd.isAgg31
  z75 := Tryd.sizeOf31
  v75 := Tryd.zeroValue31
  t76 := Tryd.underlying57
  a76 := Tryd.isAgg57
  z76 := Tryd.sizeOf57
  v76 := Tryd.zeroValue57
  t127 := Tryd.underlying78
  a127 := Tryd.isAgg78
  z127 := Tryd.sizeOf78
  v127 := Tryd.zeroValue78
  t164 := Tryd.underlying88
  a164 := Tryd.isAgg88
  z164 := Tryd.sizeOf88
  v164 := Tryd.zeroValue88 }
theorem Tryd.Builder_Extra_156 : Builder.Extra Tryd.prog Tryd.lays156_ren := {
  sizeBuilder := by kernel_rfl
  liesBuilder := by kernel_rfl
  t5 := Tryd.underlying5
  a5 := Tryd.isAgg5
  z5 := Tryd.sizeOf5
  v5 := Tryd.zeroValue5
  infoByte := by kernel_rfl
  cellsByte := by kernel_rfl
  sizeByte := by kernel_rfl
  neB5 := by decide }
open Go.RowKit in
theorem Tryd.strings_Join_none (a : Option Addr) (c : Nat) (sep : ByteArray) (w : World) :
    Calls Tryd.prog 38 #[.slice a 0 c, .string sep] w fun e w' => e = .returned (.string ⟨#[]⟩) ∧ w' = w := Any.strings_Join_none Tryd.lays156 Tryd.Builder_Extra_156 a c sep w
open Go.RowKit in
theorem Tryd.strings_Join (bk o c : Nat) (xs : List ByteArray) (sep : ByteArray) (w : World) (hcells : ∀ (j : Nat) x, xs[j]? = some x → w.cell? ⟨bk, o + j, none⟩ = some (.string x)) (hbk : bk < w.heap.size) (hN : xs.length ≤ 140737488355328) (hcap : xs.length ≤ c) (hlen : (Lib.join (xs.map (·.data.toList)) sep.data.toList).length ≤ 140737488355328) :
    Calls Tryd.prog 38 #[.slice (some ⟨bk, o, none⟩) xs.length c, .string sep] w fun e w' => e = .returned (.string ⟨(Lib.join (xs.map (·.data.toList)) sep.data.toList).toArray⟩) ∧ Below w.heap.size w w' := Any.strings_Join Tryd.lays156 Tryd.Builder_Extra_156 bk o c xs sep w hcells hbk hN hcap hlen
def Tryd.lays103_ren : Go.Shelf.Ren := ⟨fun | 103 => 40 | 210 => 53 | 206 => 76 | n => n, fun | 9 => 9 | 4 => 4 | 24 => 79 | 3 => 3 | n => n, fun | n => n⟩
theorem Tryd.lays103 : Go.Proofs.Lays.n103 Tryd.prog Tryd.lays103_ren := {
  mixed := by kernel_rfl
  f103 := Tryd.func40.trans (congrArg some (by kernel_rfl))
  f206 := Tryd.func76.trans (congrArg some (by kernel_rfl))
  f210 := Tryd.func53.trans (congrArg some (by kernel_rfl))
  t3 := Tryd.underlying3
  a3 := Tryd.isAgg3
  z3 := Tryd.sizeOf3
  v3 := Tryd.zeroValue3
  t4 := Tryd.underlying4
  a4 := Tryd.isAgg4
  z4 := Tryd.sizeOf4
  v4 := Tryd.zeroValue4
  t9 := Tryd.underlying9
  a9 := Tryd.isAgg9
  z9 := Tryd.sizeOf9
  v9 := Tryd.zeroValue9
  t24 := Tryd.underlying79
  a24 := Tryd.isAgg79
  z24 := Tryd.sizeOf79
  v24 := Tryd.zeroValue79 }
open Go.RowKit in
theorem Tryd.strings_CutPrefix (s p : ByteArray) (w : World) :
    Calls Tryd.prog 40 #[.string s, .string p] w fun e w' => e = .returned (.tuple #[.string ⟨(Lib.trimPrefix s.data.toList p.data.toList).toArray⟩, .bool (Lib.hasPrefix s.data.toList p.data.toList)]) ∧ w' = w := Any.strings_CutPrefix Tryd.lays103 s p w
end Go.Proofs
namespace Go.Proofs.YtamblahkckaaaaaDoor
open Go Go.RowKit
def Ext (w w' : World) : Prop := Below w.heap.size w w'
theorem Ext.refl (w : World) : Ext w w := Below.refl _ _
theorem Ext.trans {a b c : World} (h : Ext a b) (k : Ext b c) : Ext a c := Below.trans h (Below.mono k h.size)
theorem Ext.size {w w' : World} (h : Ext w w') : w.heap.size ≤ w'.heap.size := Below.size h
theorem Ext.get {w w' : World} (h : Ext w w') {b : Nat} {o : Obj} (hb : w.heap[b]? = some o) : w'.heap[b]? = some o := by
  have hlt : b < w.heap.size := (Array.getElem?_eq_some_iff.1 hb).1
  rw [h.block b hlt]; exact hb
theorem Ext.drawn (w : World) (n : Nat) : Ext w { w with drawn := n } := ⟨rfl, rfl, rfl, Nat.le_refl _, fun _ _ => rfl⟩
theorem Ext.alloc {w w' : World} (h : Ext w w') (o : Obj) : Ext w (w'.alloc o) := Below.alloc h h.size o
structure Keep (X : Nat → Prop) (w w' : World) : Prop where
  os : w'.os = w.os
  tape : w'.tape = w.tape
  output : w'.output = w.output
  size : w.heap.size ≤ w'.heap.size
  block : ∀ k, k < w.heap.size → ¬ X k → w'.heap[k]? = w.heap[k]?
theorem Keep.refl (X : Nat → Prop) (w : World) : Keep X w w := ⟨rfl, rfl, rfl, Nat.le_refl _, fun _ _ _ => rfl⟩
theorem Keep.trans {X : Nat → Prop} {a b c : World} (h : Keep X a b) (k : Keep X b c) : Keep X a c :=
  ⟨k.os.trans h.os, k.tape.trans h.tape, k.output.trans h.output, Nat.le_trans h.size k.size, fun i hi hx => (k.block i (Nat.lt_of_lt_of_le hi h.size) hx).trans (h.block i hi hx)⟩
theorem Ext.keep {w w' : World} (h : Ext w w') (X : Nat → Prop) : Keep X w w' := ⟨h.os, h.tape, h.output, h.size, fun k hk _ => h.block k hk⟩
theorem Keep.mono {X Y : Nat → Prop} {a b : World} (h : Keep X a b) (hx : ∀ k, k < a.heap.size → X k → Y k) : Keep Y a b :=
  ⟨h.os, h.tape, h.output, h.size, fun k hk hy => h.block k hk fun hX => hy (hx k hk hX)⟩
theorem Keep.ext {a b : World} (h : Keep (fun _ => False) a b) : Ext a b := ⟨h.os, h.tape, h.output, h.size, fun k hk => h.block k hk (fun h => h)⟩
theorem Keep.get {X : Nat → Prop} {w w' : World} (h : Keep X w w') {b : Nat} {o : Obj} (hb : w.heap[b]? = some o) (hx : ¬ X b) : w'.heap[b]? = some o := by
  have hlt : b < w.heap.size := (Array.getElem?_eq_some_iff.1 hb).1
  rw [h.block b hlt hx]; exact hb
section
variable {P : Program} {ops : Array Oper}
def Oper.doesUpon (P : Program) (R : Value → World → Prop) : Result Next → Prop
  | .ok (.value v) w' => R v w'
  | .ok .skip w' => R undef w'
  | .ok (.enter f args) w' => Calls P f args w' fun e w'' => ∃ v, e = .returned v ∧ R v w''
  | _ => False
theorem Oper.doesUpon_value (R : Value → World → Prop) (v : Value) (w : World) : Oper.doesUpon P R (.ok (.value v) w) = R v w := rfl
theorem Oper.doesUpon_skip (R : Value → World → Prop) (w : World) : Oper.doesUpon P R (.ok .skip w) = R undef w := rfl
def does (P : Program) (ops : Array Oper) (o : Oper) (a : Act) (w : World) (R : Value → World → Prop) : Prop :=
  if Region.wanted o (yielded ops a.tmps) then Oper.doesUpon P R ((execOp a.eval o).run P w) else R undef w
theorem does_put {o : Oper} {a : Act} {d : Option Tmp} {v : Value} {w : World} {R : Value → World → Prop} (hs : ∀ cs b, o.op ≠ .select cs b) (h : ∀ t, d = some t → t ∉ o.looksAt ops) :
    does P ops o (a.put d v) w R = does P ops o a w R := by
  unfold does
  rw [wanted_put o a d v h, execOp_put o hs a d v h]
theorem wpOp_of_does {i : Nat} {o : Oper} (ho : ops[i]? = some o) {a : Act} {w : World} {R : Value → World → Prop} {K : Act → World → Prop} {Q : Exit → Act → World → Prop}
    (h : does P ops o a w R) (hK : ∀ v w', R v w' → K (a.put o.dst v) w') : wpOp P ops Q i K a w := by
  unfold wpOp
  simp only [ho]
  unfold does at h
  split
  · rename_i hw
    rw [if_pos hw] at h
    refine .inl ?_
    unfold Oper.wp
    generalize (execOp a.eval o).run P w = r at h
    cases r with
    | ok n w' =>
      cases n <;> simp only [Oper.doesUpon] at h <;> simp only [Oper.upon]
      case enter f args => exact h.mono fun e w'' ⟨v, he, hr⟩ => by subst he; exact hK _ _ hr
      all_goals exact hK _ _ h
    | halt x w' => simp only [Oper.doesUpon] at h
  · rename_i hw
    rw [if_neg hw] at h
    exact hK _ _ h
def waitsB (ops : Array Oper) (j i : Nat) : Bool :=
  match ops[j]? with
  | some oj => oj.after.any fun e => Region.binds .any e && e.on == i
  | none => false
def okB (ops : Array Oper) : Bool :=
  (ops.toList.all fun o => match o.op with | .select .. => false | _ => true) &&
  (List.range ops.size).all fun i => (List.range i).all fun j =>
    waitsB ops i j || waitsB ops j i || (match ops[i]?, ops[j]? with | some x, some y => x.apart ops y && y.apart ops x | _, _ => true)
theorem okB_select (h : okB ops = true) {i : Nat} {o : Oper} (ho : ops[i]? = some o) : ∀ cs b, o.op ≠ .select cs b := by
  intro cs b he
  simp only [okB, Bool.and_eq_true, List.all_eq_true] at h
  have := h.1 o (Array.mem_toList_iff.2 (Array.mem_of_getElem? ho))
  rw [he] at this
  cases this
theorem okB_pair (h : okB ops = true) {i j : Nat} {x y : Oper} (hx : ops[i]? = some x) (hy : ops[j]? = some y) (hij : i ≠ j) (h1 : waitsB ops i j = false) (h2 : waitsB ops j i = false) : x.apart ops y = true := by
  simp only [okB, Bool.and_eq_true, List.all_eq_true, List.mem_range, Bool.or_eq_true] at h
  have hi : i < ops.size := (Array.getElem?_eq_some_iff.1 hx).1
  have hj : j < ops.size := (Array.getElem?_eq_some_iff.1 hy).1
  rcases Nat.lt_or_ge j i with hlt | hge
  · rcases h.2 i hi j hlt with (h3 | h3) | h3
    · rw [h3] at h1; cases h1
    · rw [h3] at h2; cases h2
    · simp only [hx, hy, Bool.and_eq_true] at h3; exact h3.1
  · rcases h.2 j hj i (by omega) with (h3 | h3) | h3
    · rw [h3] at h2; cases h2
    · rw [h3] at h1; cases h1
    · simp only [hx, hy, Bool.and_eq_true] at h3; exact h3.2
theorem waits_listed {listed : Array Bool} {i k : Nat} (hr : i ∈ Region.ready .any ops listed) (hw : waitsB ops i k = true) : listed.getD k false = true := by
  obtain ⟨_, o, ho, hall⟩ := mem_ready.1 hr
  unfold waitsB at hw
  rw [ho] at hw
  obtain ⟨e, he, hb⟩ := Array.any_eq_true'.1 hw
  simp only [Bool.and_eq_true, beq_iff_eq] at hb
  have := hall e he hb.1
  rwa [hb.2] at this
def waits2 (ops : Array Oper) (i j : Nat) : Prop := waitsB ops i j = true ∨ ∃ k, waitsB ops i k = true ∧ waitsB ops k j = true
inductive Flow (P : Program) (ops : Array Oper) (w0 : World) (Q : Act → World → Prop) : (Nat → Prop) → List Nat → Array Bool → (World → Prop) → Act → Prop
  | fin {X : Nat → Prop} {L : List Nat} {listed : Array Bool} {C : World → Prop} {a : Act} (hr : Region.ready .any ops listed = []) (h : ∀ w, C w → Keep X w0 w → Q a w) : Flow P ops w0 Q X L listed C a
  | det {X : Nat → Prop} {L : List Nat} {listed : Array Bool} {C : World → Prop} {a : Act} (i : Nat) (o : Oper) (v : Value) (hL : i ∉ L) (ho : ops[i]? = some o) (hr : i ∈ Region.ready .any ops listed)
      (h : ∀ w, Keep X w0 w → does P ops o a w fun v' w' => v' = v ∧ Ext w w') (k : Flow P ops w0 Q X L (listed.setIfInBounds i true) C (a.put o.dst v)) : Flow P ops w0 Q X L listed C a
  | loose {X : Nat → Prop} {L : List Nat} {listed : Array Bool} {C : World → Prop} {a : Act} (i : Nat) (o : Oper) (v : Value) (ho : ops[i]? = some o) (hr : i ∈ Region.ready .any ops listed)
      (h : ∀ w, does P ops o a w fun v' w' => v' = v ∧ Ext w w') (k : Flow P ops w0 Q X (i :: L) (listed.setIfInBounds i true) C (a.put o.dst v)) : Flow P ops w0 Q X L listed C a
  | act {X : Nat → Prop} {L : List Nat} {listed : Array Bool} {C : World → Prop} {a : Act} (O : Nat → Oper) (R : Nat → Value → World → Prop) (hn : Region.ready .any ops listed ≠ []) (ho : ∀ i ∈ Region.ready .any ops listed, ops[i]? = some (O i))
      (h : ∀ i ∈ Region.ready .any ops listed, ∀ w, C w → Keep X w0 w → does P ops (O i) a w fun v w' => Keep X w0 w' ∧ R i v w')
      (k : ∀ i ∈ Region.ready .any ops listed, ∀ v, (∃ w, R i v w) → Flow P ops w0 Q X L (listed.setIfInBounds i true) (fun w => ∃ w1, R i v w1 ∧ Ext w1 w) (a.put (O i).dst v)) : Flow P ops w0 Q X L listed C a
  | turn {X : Nat → Prop} (Y : Nat → Prop) {L : List Nat} {listed : Array Bool} {C : World → Prop} {a : Act} (i : Nat) (o : Oper) (R : Value → World → Prop) (ho : ops[i]? = some o) (hr : Region.ready .any ops listed = [i])
      (hw : ∀ j, listed.getD j false = true → j ∈ L ∨ waits2 ops i j)
      (h : ∀ w, C w → Keep X w0 w → does P ops o a w fun v w' => Keep Y w0 w' ∧ R v w')
      (k : ∀ v, (∃ w, R v w) → Flow P ops w0 Q Y L (listed.setIfInBounds i true) (fun w => ∃ w1, R v w1 ∧ Ext w1 w) (a.put o.dst v)) : Flow P ops w0 Q X L listed C a
  | last {X : Nat → Prop} {L : List Nat} {listed : Array Bool} {C : World → Prop} {a : Act} (i : Nat) (o : Oper) (R : Value → World → Prop) (ho : ops[i]? = some o) (hr : Region.ready .any ops listed = [i]) (hall : ∀ j, j < ops.size → j ≠ i → waits2 ops i j)
      (h : ∀ w, C w → Keep X w0 w → does P ops o a w R) (k : ∀ v w', R v w' → Q (a.put o.dst v) w') : Flow P ops w0 Q X L listed C a
def Gives (P : Program) (ops : Array Oper) (X : Nat → Prop) (w0 : World) (L : List Nat) (i : Nat) (o : Oper) (v : Value) (a : Act) : Prop :=
  (∀ w, Keep X w0 w → does P ops o a w fun v' w' => v' = v ∧ Ext w w') ∧ (i ∈ L → ∀ w, does P ops o a w fun v' w' => v' = v ∧ Ext w w')
def Pend (P : Program) (ops : Array Oper) (X : Nat → Prop) (w0 : World) (L : List Nat) : List (Nat × Value) → Act → Act → Prop
  | [], a, a' => a = a'
  | (i, v) :: l, a, a' => ∃ o, ops[i]? = some o ∧ Gives P ops X w0 L i o v a ∧ Pend P ops X w0 L l (a.put o.dst v) a'
variable {X Y : Nat → Prop} {w0 : World} {L : List Nat}
theorem Gives.put {i : Nat} {o : Oper} {v : Value} {a : Act} {d : Option Tmp} {u : Value} (hs : ∀ cs b, o.op ≠ .select cs b) (h : ∀ t, d = some t → t ∉ o.looksAt ops) :
    Gives P ops X w0 L i o v (a.put d u) ↔ Gives P ops X w0 L i o v a := by
  unfold Gives
  simp only [does_put hs h]
theorem Pend.snoc : ∀ {l : List (Nat × Value)} {a a' : Act} {i : Nat} {v : Value} {o : Oper}, Pend P ops X w0 L l a a' → ops[i]? = some o →
    Gives P ops X w0 L i o v a' → Pend P ops X w0 L (l ++ [(i, v)]) a (a'.put o.dst v)
  | [], a, a', i, v, o, h, ho, hd => by subst h; exact ⟨o, ho, hd, rfl⟩
  | (j, u) :: l, a, a', i, v, o, ⟨oj, hoj, hdj, hp⟩, ho, hd => ⟨oj, hoj, hdj, Pend.snoc hp ho hd⟩
theorem Pend.more (i : Nat) : ∀ {l : List (Nat × Value)} {a a' : Act}, i ∉ l.map (·.1) → Pend P ops X w0 L l a a' → Pend P ops X w0 (i :: L) l a a'
  | [], _, _, _, h => h
  | (j, u) :: l, a, a', hn, ⟨oj, hoj, hdj, hp⟩ => by
    simp only [List.map_cons, List.mem_cons, not_or] at hn
    refine ⟨oj, hoj, ⟨hdj.1, fun hj => ?_⟩, Pend.more i hn.2 hp⟩
    rcases List.mem_cons.1 hj with rfl | hj
    · exact absurd rfl hn.1
    · exact hdj.2 hj
theorem Pend.turn : ∀ {l : List (Nat × Value)} {a a' : Act}, (∀ x ∈ l, x.1 ∈ L) → Pend P ops X w0 L l a a' → Pend P ops Y w0 L l a a'
  | [], _, _, _, h => h
  | _ :: _, _, _, hl, ⟨oj, hoj, hdj, hp⟩ =>
    ⟨oj, hoj, ⟨fun w _ => hdj.2 (hl _ (List.mem_cons_self ..)) w, hdj.2⟩, Pend.turn (fun x hx => hl x (List.mem_cons_of_mem _ hx)) hp⟩
theorem Pend.does_back (hB : okB ops = true) {i : Nat} {o : Oper} (ho : ops[i]? = some o) : ∀ {l : List (Nat × Value)} {a a' : Act}, Pend P ops X w0 L l a a' →
    (∀ x ∈ l, x.1 ≠ i ∧ waitsB ops i x.1 = false ∧ waitsB ops x.1 i = false) → ∀ {w : World} {R : Value → World → Prop}, does P ops o a' w R → does P ops o a w R
  | [], a, a', h, _, w, R, hd => by rw [show a = a' from h]; exact hd
  | (j, u) :: l, a, a', ⟨oj, hoj, hdj, hp⟩, hx, w, R, hd => by
    have h1 := Pend.does_back hB ho hp (fun x hx' => hx x (List.mem_cons_of_mem _ hx')) hd
    have h2 := hx (j, u) (List.mem_cons_self ..)
    rwa [does_put (okB_select hB ho) (Oper.apart_spec (okB_pair hB hoj ho h2.1 h2.2.2 h2.2.1)).1] at h1
theorem Pend.put (hB : okB ops = true) {i : Nat} {o : Oper} (ho : ops[i]? = some o) (v : Value) : ∀ {l : List (Nat × Value)} {a a' : Act}, Pend P ops X w0 L l a a' →
    (∀ x ∈ l, x.1 ≠ i ∧ waitsB ops i x.1 = false ∧ waitsB ops x.1 i = false) → Pend P ops X w0 L l (a.put o.dst v) (a'.put o.dst v)
  | [], a, a', h, _ => by rw [show a = a' from h]; rfl
  | (j, u) :: l, a, a', ⟨oj, hoj, hdj, hp⟩, hx => by
    have h2 := hx (j, u) (List.mem_cons_self ..)
    have hap := Oper.apart_spec (okB_pair hB ho hoj (Ne.symm h2.1) h2.2.1 h2.2.2)
    refine ⟨oj, hoj, (Gives.put (okB_select hB hoj) hap.1).2 hdj, ?_⟩
    rw [Act.put_comm a v u hap.2.1]
    exact Pend.put hB ho v hp (fun x hx' => hx x (List.mem_cons_of_mem _ hx'))
theorem Pend.front (hB : okB ops = true) : ∀ {l1 l2 : List (Nat × Value)} {a a' : Act} {i : Nat} {v : Value}, Pend P ops X w0 L (l1 ++ (i, v) :: l2) a a' →
    (∀ x ∈ l1, x.1 ≠ i ∧ waitsB ops i x.1 = false ∧ waitsB ops x.1 i = false) →
    ∃ o, ops[i]? = some o ∧ Gives P ops X w0 L i o v a ∧ Pend P ops X w0 L (l1 ++ l2) (a.put o.dst v) a'
  | [], l2, a, a', i, v, h, _ => h
  | (j, u) :: l1, l2, a, a', i, v, ⟨oj, hoj, hdj, hp⟩, hx => by
    obtain ⟨o, ho, hd, hp'⟩ := Pend.front hB hp (fun x hx' => hx x (List.mem_cons_of_mem _ hx'))
    have h2 := hx (j, u) (List.mem_cons_self ..)
    have hap := Oper.apart_spec (okB_pair hB hoj ho h2.1 h2.2.2 h2.2.1)
    refine ⟨o, ho, (Gives.put (okB_select hB ho) hap.1).1 hd, oj, hoj, (Gives.put (okB_select hB hoj) hap.2.2).2 hdj, ?_⟩
    rw [Act.put_comm a v u (fun d h1 h3 => hap.2.1 d h3 h1)]; exact hp'
theorem count_set_lt {run : Array Bool} {i : Nat} (h : run.getD i true = false) : (run.setIfInBounds i true).toList.count false + 1 = run.toList.count false := by
  have hi : i < run.size := by
    rcases Nat.lt_or_ge i run.size with h' | h'
    · exact h'
    · simp [Array.getElem?_eq_none h'] at h
  have hv : run.toList[i]'(by simpa using hi) = false := by simpa [hi] using h
  have hpos : 0 < run.toList.count false := List.count_pos_iff.2 (hv ▸ List.getElem_mem _)
  rw [Array.toList_setIfInBounds, List.count_set (by simpa using hi)]
  simp only [hv, beq_self_eq_true, if_true]
  rw [if_neg (by decide)]
  omega
theorem getD_set_iff {run : Array Bool} {i k : Nat} (hi : i < run.size) : (run.setIfInBounds i true).getD k false = true ↔ k = i ∨ run.getD k false = true := by
  by_cases h : k = i
  · subst h; simp [hi]
  · have : (run.setIfInBounds i true).getD k false = run.getD k false := by
      simp [Array.getElem?_setIfInBounds_ne (Ne.symm h)]
    rw [this]; simp [h]
theorem ready_lt {run : Array Bool} {i : Nat} (h : i ∈ Region.ready .any ops run) : i < ops.size ∧ run.getD i true = false := by
  obtain ⟨h1, o, ho, _⟩ := mem_ready.1 h
  exact ⟨(Array.getElem?_eq_some_iff.1 ho).1, h1⟩
theorem getD_tf {run : Array Bool} {i : Nat} (hi : i < run.size) : run.getD i true = run.getD i false := by
  simp [hi]
theorem ready_iff {run : Array Bool} {i : Nat} : i ∈ Region.ready .any ops run ↔ run.getD i true = false ∧ i < ops.size ∧ ∀ k, waitsB ops i k = true → run.getD k false = true := by
  constructor
  · intro h
    exact ⟨(ready_lt h).2, (ready_lt h).1, fun k hk => waits_listed h hk⟩
  · intro ⟨h1, h2, h3⟩
    refine mem_ready.2 ⟨h1, ops[i], by simp [h2], fun e he hb => ?_⟩
    refine h3 e.on ?_
    unfold waitsB
    simp only [Array.getElem?_eq_getElem h2]
    exact Array.any_eq_true'.2 ⟨e, he, by simp [hb]⟩
structure St (ops : Array Oper) (full run : Array Bool) (l : List (Nat × Value)) : Prop where
  fs : full.size = ops.size
  rs : run.size = ops.size
  iff : ∀ k, full.getD k false = true ↔ run.getD k false = true ∨ k ∈ l.map (·.1)
  off : ∀ x ∈ l, run.getD x.1 false = false ∧ x.1 < ops.size
  ord : ∀ l1 x l2, l = l1 ++ x :: l2 → x.1 ∉ l1.map (·.1) ∧ ∀ k, waitsB ops x.1 k = true → run.getD k false = true ∨ k ∈ l1.map (·.1)
  cl : ∀ j, run.getD j false = true → ∀ k, waitsB ops j k = true → run.getD k false = true
theorem St.snoc {full run : Array Bool} {l : List (Nat × Value)} (h : St ops full run l) {i : Nat} (v : Value) (hr : i ∈ Region.ready .any ops full) : St ops (full.setIfInBounds i true) run (l ++ [(i, v)]) := by
  obtain ⟨hi, hlt, hw⟩ := ready_iff.1 hr
  have hif : full.getD i false = false := by rw [← getD_tf (by rw [h.fs]; exact hlt)]; exact hi
  have hni : ¬ (run.getD i false = true ∨ i ∈ l.map (·.1)) := fun hh => by rw [(h.iff i).2 hh] at hif; cases hif
  refine ⟨by simp [h.fs], h.rs, fun k => ?_, fun x hx => ?_, fun l1 x l2 he => ?_, h.cl⟩
  · rw [getD_set_iff (by rw [h.fs]; exact hlt), h.iff k]
    simp only [List.map_append, List.map_cons, List.map_nil, List.mem_append, List.mem_singleton]
    constructor
    · rintro (h1 | h1 | h1)
      · exact .inr (.inr h1)
      · exact .inl h1
      · exact .inr (.inl h1)
    · rintro (h1 | h1 | h1)
      · exact .inr (.inl h1)
      · exact .inr (.inr h1)
      · exact .inl h1
  · rcases List.mem_append.1 hx with hx | hx
    · exact h.off x hx
    · have : x = (i, v) := by simpa using hx
      subst this
      exact ⟨by cases hc : run.getD i false with | false => rfl | true => exact absurd (.inl hc) hni, hlt⟩
  · rcases List.eq_nil_or_concat l2 with rfl | ⟨l3, y, rfl⟩
    · have he' : l ++ [(i, v)] = l1 ++ [x] := he
      obtain ⟨rfl, hx⟩ := List.append_inj' he' rfl
      have : (i, v) = x := by simpa using hx
      subst this
      exact ⟨fun hh => hni (.inr hh), fun k hk => (h.iff k).1 (hw k hk)⟩
    · have he' : l ++ [(i, v)] = (l1 ++ x :: l3) ++ [y] := by simpa using he
      obtain ⟨hl, _⟩ := List.append_inj' he' rfl
      exact h.ord l1 x l3 hl
theorem St.done {full run : Array Bool} {l1 l2 : List (Nat × Value)} {i : Nat} {v : Value} (h : St ops full run (l1 ++ (i, v) :: l2)) (hri : ∀ k, waitsB ops i k = true → run.getD k false = true) : St ops full (run.setIfInBounds i true) (l1 ++ l2) := by
  have hoff := h.off (i, v) (by simp)
  have hlt : i < run.size := by rw [h.rs]; exact hoff.2
  have hn1 := (h.ord l1 (i, v) l2 rfl).1
  have hn2 : i ∉ l2.map (·.1) := by
    intro hm
    obtain ⟨x, hx, hxi⟩ := List.mem_map.1 hm
    obtain ⟨s, t, rfl⟩ := List.append_of_mem hx
    have := (h.ord (l1 ++ (i, v) :: s) x t (by simp)).1
    apply this
    rw [hxi]
    simp
  refine ⟨h.fs, by simp [h.rs], fun k => ?_, fun x hx => ?_, fun s x t he => ?_, fun j hj k hk => (getD_set_iff hlt).2 (.inr ?_)⟩
  · rw [getD_set_iff hlt, h.iff k]
    simp only [List.map_append, List.map_cons, List.mem_append, List.mem_cons]
    constructor
    · rintro (h1 | h1 | h1 | h1)
      · exact .inl (.inr h1)
      · exact .inr (.inl h1)
      · exact .inl (.inl h1)
      · exact .inr (.inr h1)
    · rintro ((h1 | h1) | h1 | h1)
      · exact .inr (.inr (.inl h1))
      · exact .inl h1
      · exact .inr (.inl h1)
      · exact .inr (.inr (.inr h1))
  · have hx' : x ∈ l1 ++ (i, v) :: l2 := by
      rcases List.mem_append.1 hx with hx | hx
      · exact List.mem_append_left _ hx
      · exact List.mem_append_right _ (List.mem_cons_of_mem _ hx)
    have ho := h.off x hx'
    have hne : x.1 ≠ i := by
      intro e
      rcases List.mem_append.1 hx with hx | hx
      · exact hn1 (List.mem_map.2 ⟨x, hx, e⟩)
      · exact hn2 (List.mem_map.2 ⟨x, hx, e⟩)
    refine ⟨?_, ho.2⟩
    cases hc : (run.setIfInBounds i true).getD x.1 false with
    | false => rfl
    | true =>
      rcases (getD_set_iff hlt).1 hc with h1 | h1
      · exact absurd h1 hne
      · rw [ho.1] at h1; cases h1
  · -- where does x stand
    have key : ∀ s' : List (Nat × Value), (∀ y, y ∈ s'.map (·.1) → y = i ∨ y ∈ s.map (·.1)) → (∀ y, y ∈ s.map (·.1) → y ∈ s'.map (·.1)) → (∃ t', l1 ++ (i, v) :: l2 = s' ++ x :: t') →
        x.1 ∉ s.map (·.1) ∧ ∀ k, waitsB ops x.1 k = true → (run.setIfInBounds i true).getD k false = true ∨ k ∈ s.map (·.1) := by
      intro s' hs1 hs2 ⟨t', ht⟩
      obtain ⟨h1, h2⟩ := h.ord s' x t' ht
      refine ⟨fun hm => h1 (hs2 _ hm), fun k hk => ?_⟩
      rcases h2 k hk with h3 | h3
      · exact .inl ((getD_set_iff hlt).2 (.inr h3))
      · rcases hs1 k h3 with rfl | h4
        · exact .inl ((getD_set_iff hlt).2 (.inl rfl))
        · exact .inr h4
    rcases List.append_eq_append_iff.1 he with ⟨u, hu1, hu2⟩ | ⟨u, hu1, hu2⟩
    · -- s = l1 ++ u, l2 = u ++ x :: t
      refine key (l1 ++ (i, v) :: u) ?_ ?_ ⟨t, by rw [hu2]; simp⟩
      · intro y hy
        rw [hu1]
        simp only [List.map_append, List.map_cons, List.mem_append, List.mem_cons] at hy ⊢
        rcases hy with hy | hy | hy
        · exact .inr (.inl hy)
        · exact .inl hy
        · exact .inr (.inr hy)
      · intro y hy
        rw [hu1] at hy
        simp only [List.map_append, List.map_cons, List.mem_append, List.mem_cons] at hy ⊢
        rcases hy with hy | hy
        · exact .inl hy
        · exact .inr (.inr hy)
    · -- l1 = s ++ u, x :: t = u ++ l2
      cases u with
      | nil =>
        simp only [List.append_nil, List.nil_append] at hu1 hu2
        subst hu1
        refine key (l1 ++ [(i, v)]) ?_ ?_ ⟨t, by rw [hu2]; simp⟩
        · intro y hy
          simp only [List.map_append, List.map_cons, List.map_nil, List.mem_append, List.mem_singleton] at hy
          rcases hy with hy | hy
          · exact .inr hy
          · exact .inl hy
        · intro y hy
          simp only [List.map_append, List.mem_append]
          exact .inl hy
      | cons y u =>
        simp only [List.cons_append, List.cons.injEq] at hu2
        obtain ⟨rfl, hu2⟩ := hu2
        exact key s (fun y hy => .inr hy) (fun y hy => hy) ⟨u ++ (i, v) :: l2, by rw [hu1]; simp⟩
  · rcases (getD_set_iff hlt).1 hj with rfl | h1
    · exact hri k hk
    · exact h.cl j h1 k hk
theorem St.acted {full run : Array Bool} {l : List (Nat × Value)} (h : St ops full run l) {i : Nat} (hr : i ∈ Region.ready .any ops full) (hri : ∀ k, waitsB ops i k = true → run.getD k false = true) : St ops (full.setIfInBounds i true) (run.setIfInBounds i true) l := by
  have := (h.snoc (.bool true) hr).done (l1 := l) (l2 := []) hri
  simpa using this
theorem St.free {full run : Array Bool} {l : List (Nat × Value)} (h : St ops full run l) {i : Nat} (hr : i ∈ Region.ready .any ops run) (hn : i ∉ l.map (·.1)) :
    ∀ x ∈ l, x.1 ≠ i ∧ waitsB ops i x.1 = false ∧ waitsB ops x.1 i = false := by
  intro x hx
  obtain ⟨hi, hlt, hw⟩ := ready_iff.1 hr
  refine ⟨fun e => hn (List.mem_map.2 ⟨x, hx, e⟩), ?_, ?_⟩
  · cases hc : waitsB ops i x.1 with
    | false => rfl
    | true => have h1 := hw _ hc; rw [(h.off x hx).1] at h1; cases h1
  · cases hc : waitsB ops x.1 i with
    | false => rfl
    | true =>
      obtain ⟨s, t, rfl⟩ := List.append_of_mem hx
      rcases (h.ord s x t rfl).2 i hc with h1 | h1
      · rw [getD_tf (by rw [h.rs]; exact hlt), h1] at hi; cases hi
      · exact absurd (by simp only [List.map_append, List.mem_append]; exact .inl h1) hn
theorem St.free_mid {full run : Array Bool} {l1 l2 : List (Nat × Value)} {i : Nat} {v : Value} (h : St ops full run (l1 ++ (i, v) :: l2)) (hr : i ∈ Region.ready .any ops run) :
    ∀ x ∈ l1, x.1 ≠ i ∧ waitsB ops i x.1 = false ∧ waitsB ops x.1 i = false := by
  intro x hx
  obtain ⟨hi, hlt, hw⟩ := ready_iff.1 hr
  obtain ⟨s, t, rfl⟩ := List.append_of_mem hx
  have ho := h.ord s x (t ++ (i, v) :: l2) (by simp)
  have hoi := h.ord (s ++ x :: t) (i, v) l2 rfl
  refine ⟨fun e => hoi.1 (List.mem_map.2 ⟨x, by simp, e⟩), ?_, ?_⟩
  · cases hc : waitsB ops i x.1 with
    | false => rfl
    | true => have h1 := hw _ hc; rw [(h.off x (by simp)).1] at h1; cases h1
  · cases hc : waitsB ops x.1 i with
    | false => rfl
    | true =>
      rcases ho.2 i hc with h1 | h1
      · rw [getD_tf (by rw [h.rs]; exact hlt), h1] at hi; cases hi
      · exfalso
        apply hoi.1
        simp only [List.map_append, List.map_cons, List.mem_append, List.mem_cons]
        exact .inl h1
theorem St.ready_full {full run : Array Bool} {l : List (Nat × Value)} (h : St ops full run l) {i : Nat} (hr : i ∈ Region.ready .any ops run) (hn : i ∉ l.map (·.1)) : i ∈ Region.ready .any ops full := by
  obtain ⟨hi, hlt, hw⟩ := ready_iff.1 hr
  refine ready_iff.2 ⟨?_, hlt, fun k hk => (h.iff k).2 (.inl (hw k hk))⟩
  rw [getD_tf (by rw [h.fs]; exact hlt)]
  cases hc : full.getD i false with
  | false => rfl
  | true =>
    rcases (h.iff i).1 hc with h1 | h1
    · rw [getD_tf (by rw [h.rs]; exact hlt), h1] at hi; cases hi
    · exact absurd h1 hn
def UpTo (C : World → Prop) : Prop := ∀ w w', C w → Ext w w' → C w'
theorem St.ready_back {full run : Array Bool} (h : St ops full run []) {i : Nat} (hi : i ∈ Region.ready .any ops full) : i ∈ Region.ready .any ops run := by
  obtain ⟨h1, h2, h3⟩ := ready_iff.1 hi
  refine ready_iff.2 ⟨?_, h2, fun k hk => ?_⟩
  · rw [getD_tf (by rw [h.rs]; exact h2)]
    cases hc : run.getD i false with
    | false => rfl
    | true => have := (h.iff i).2 (.inl hc); rw [getD_tf (by rw [h.fs]; exact h2), this] at h1; cases h1
  · rcases (h.iff k).1 (h3 k hk) with h4 | h4
    · exact h4
    · simp at h4
theorem St.waited {full run : Array Bool} {l : List (Nat × Value)} (h : St ops full run l) {i j : Nat} (hi : i ∈ Region.ready .any ops run) (hw : waits2 ops i j) : run.getD j false = true := by
  have hri := ready_iff.1 hi
  rcases hw with h1 | ⟨k, h1, h2⟩
  · exact hri.2.2 j h1
  · exact h.cl k (hri.2.2 k h1) j h2
theorem flow_any (hB : okB ops = true) {Q : Exit → Act → World → Prop} : ∀ (fuel : Nat) {X : Nat → Prop} {L : List Nat} {full : Array Bool} {C : World → Prop} {aF : Act}, Flow P ops w0 (Q .normal) X L full C aF → UpTo C →
    ∀ (l : List (Nat × Value)) (run : Array Bool) (a : Act) (w : World), St ops full run l → Pend P ops X w0 L l a aF → C w → Keep X w0 w → run.toList.count false ≤ fuel → wpAny P .any ops Q fuel run a w := by
  -- nothing more may come
  have hend : ∀ {X : Nat → Prop} {L : List Nat} {full : Array Bool} {C : World → Prop} {aF : Act}, Flow P ops w0 (Q .normal) X L full C aF → ∀ (l : List (Nat × Value)) (run : Array Bool) (a : Act) (w : World), St ops full run l → Pend P ops X w0 L l a aF → C w → Keep X w0 w →
      Region.ready .any ops run = [] → Q .normal a w := by
    intro X L full C aF hf l run a w hs hp hC hk hr
    cases l with
    | cons x l =>
      exfalso
      have hoff := hs.off x (by simp)
      have : x.1 ∈ Region.ready .any ops run := ready_iff.2 ⟨by rw [getD_tf (by rw [hs.rs]; exact hoff.2)]; exact hoff.1, hoff.2, fun k hk => by
        rcases (hs.ord [] x l rfl).2 k hk with h1 | h1
        · exact h1
        · simp at h1⟩
      rw [hr] at this
      cases this
    | nil =>
      have hp' : a = aF := hp
      subst hp'
      have hno : ∀ i, i ∈ Region.ready .any ops full → False := fun i hi => by
        have := hs.ready_back hi
        rw [hr] at this
        cases this
      cases hf with
      | fin _ h => exact h w hC hk
      | det i o v _ ho hri h k => exact (hno i hri).elim
      | loose i o v ho hri h k => exact (hno i hri).elim
      | act O R hn ho h k =>
        obtain ⟨i, hi⟩ := List.exists_mem_of_ne_nil _ hn
        exact (hno i hi).elim
      | turn Y i o R ho hri hw h k => exact (hno i (by rw [hri]; simp)).elim
      | last i o R ho hri hall h k => exact (hno i (by rw [hri]; simp)).elim
  intro fuel
  induction fuel with
  | zero =>
    intro X L full C aF hf hup l run a w hs hp hC hk hcnt
    have hr : Region.ready .any ops run = [] := by
      refine List.eq_nil_iff_forall_not_mem.2 fun i hi => ?_
      have := count_set_lt (ready_lt hi).2
      omega
    exact ⟨hr, hend hf l run a w hs hp hC hk hr⟩
  | succ fuel ih =>
    intro X L full C aF hf hup l run a w hs hp hC hk hcnt
    refine ⟨hend hf l run a w hs hp hC hk, fun i hi => ?_⟩
    have hcnt' : (run.setIfInBounds i true).toList.count false ≤ fuel := by have := count_set_lt (ready_lt hi).2; omega
    -- one that pends
    have hpend : ∀ {X : Nat → Prop} {L : List Nat} {full : Array Bool} {C : World → Prop} {aF : Act}, Flow P ops w0 (Q .normal) X L full C aF → UpTo C → Keep X w0 w → ∀ (l : List (Nat × Value)), St ops full run l → Pend P ops X w0 L l a aF → C w → i ∈ l.map (·.1) →
        wpOp P ops Q i (wpAny P .any ops Q fuel (run.setIfInBounds i true)) a w := by
      intro X L full C aF hf hup hk l hs hp hC hm
      obtain ⟨x, hx, hxi⟩ := List.mem_map.1 hm
      obtain ⟨l1, l2, rfl⟩ := List.append_of_mem hx
      obtain ⟨j, v⟩ := x
      have : j = i := hxi
      subst this
      obtain ⟨o, ho, hd, hp'⟩ := Pend.front hB hp (hs.free_mid hi)
      refine wpOp_of_does ho (hd.1 w hk) fun v' w' ⟨hv, he⟩ => ?_
      subst hv
      exact ih hf hup (l1 ++ l2) _ _ w' (hs.done (ready_iff.1 hi).2.2) hp' (hup _ _ hC he) (hk.trans (he.keep X)) hcnt'
    suffices H : ∀ {X : Nat → Prop} {L : List Nat} {full : Array Bool} {C : World → Prop} {aF : Act}, Flow P ops w0 (Q .normal) X L full C aF → UpTo C → Keep X w0 w → ∀ (l : List (Nat × Value)), St ops full run l → Pend P ops X w0 L l a aF → C w →
        wpOp P ops Q i (wpAny P .any ops Q fuel (run.setIfInBounds i true)) a w from H hf hup hk l hs hp hC
    intro X L full C aF hf
    induction hf with
    | fin hr h =>
      rename_i X L full C aF
      intro hup hk l hs hp hC
      by_cases hm : i ∈ l.map (·.1)
      · exact hpend (Flow.fin hr h) hup hk l hs hp hC hm
      · have := hs.ready_full hi hm; rw [hr] at this; cases this
    | det j o v hjl ho hr h k ihk =>
      rename_i X L full C aF
      intro hup hk l hs hp hC
      by_cases hm : i ∈ l.map (·.1)
      · exact hpend (Flow.det j o v hjl ho hr h k) hup hk l hs hp hC hm
      · exact ihk hup hk (l ++ [(j, v)]) (hs.snoc v hr) (hp.snoc ho ⟨h, fun hj => absurd hj hjl⟩) hC
    | loose j o v ho hr h k ihk =>
      rename_i X L full C aF
      intro hup hk l hs hp hC
      by_cases hm : i ∈ l.map (·.1)
      · exact hpend (Flow.loose j o v ho hr h k) hup hk l hs hp hC hm
      · have hjn : j ∉ l.map (·.1) := by
          intro hj
          have h1 := (hs.iff j).2 (.inr hj)
          have h2 := (ready_lt hr).2
          rw [getD_tf (by rw [hs.fs]; exact (ready_lt hr).1), h1] at h2
          cases h2
        exact ihk hup hk (l ++ [(j, v)]) (hs.snoc v hr) ((Pend.more j hjn hp).snoc ho ⟨fun w _ => h w, fun _ => h⟩) hC
    | act O R hn ho h k ihk =>
      rename_i X L full C aF
      intro hup hk l hs hp hC
      by_cases hm : i ∈ l.map (·.1)
      · exact hpend (Flow.act O R hn ho h k) hup hk l hs hp hC hm
      · have hrf := hs.ready_full hi hm
        have hfree := hs.free hi hm
        have hd := Pend.does_back hB (ho i hrf) hp hfree (h i hrf w hC hk)
        refine wpOp_of_does (ho i hrf) hd fun v w' ⟨hk', hR⟩ => ?_
        refine ih (k i hrf v ⟨w', hR⟩) ?_ l _ _ w' (hs.acted hrf (ready_iff.1 hi).2.2) (Pend.put hB (ho i hrf) v hp hfree) ⟨w', hR, Ext.refl _⟩ hk' hcnt'
        rintro w1 w2 ⟨w3, h3, h4⟩ h5
        exact ⟨w3, h3, h4.trans h5⟩
    | turn Y j o R ho hr hw h k ihk =>
      rename_i X L full C aF
      intro hup hk l hs hp hC
      by_cases hm : i ∈ l.map (·.1)
      · exact hpend (Flow.turn Y j o R ho hr hw h k) hup hk l hs hp hC hm
      · have hrf := hs.ready_full hi hm
        have hij : i = j := by rw [hr] at hrf; simpa using hrf
        subst hij
        have hfree := hs.free hi hm
        have hd := Pend.does_back hB ho hp hfree (h w hC hk)
        have hloose : ∀ x ∈ l, x.1 ∈ L := by
          intro x hx
          have hoff := hs.off x hx
          rcases hw x.1 ((hs.iff x.1).2 (.inr (List.mem_map.2 ⟨x, hx, rfl⟩))) with h1 | h1
          · exact h1
          · have := hs.waited hi h1; rw [hoff.1] at this; cases this
        refine wpOp_of_does ho hd fun v w' ⟨hk', hR⟩ => ?_
        refine ih (k v ⟨w', hR⟩) ?_ l _ _ w' (hs.acted hrf (ready_iff.1 hi).2.2) (Pend.put hB ho v (Pend.turn hloose hp) hfree) ⟨w', hR, Ext.refl _⟩ hk' hcnt'
        rintro w1 w2 ⟨w3, h3, h4⟩ h5
        exact ⟨w3, h3, h4.trans h5⟩
    | last j o R ho hr hall h k =>
      rename_i X L full C aF
      intro hup hk l hs hp hC
      by_cases hm : i ∈ l.map (·.1)
      · exact hpend (Flow.last j o R ho hr hall h k) hup hk l hs hp hC hm
      · have hrf := hs.ready_full hi hm
        rw [hr] at hrf
        obtain rfl : i = j := by simpa using hrf
        have hri := ready_iff.1 hi
        have hall' : ∀ j, j < ops.size → j ≠ i → run.getD j false = true := fun j hj hne => hs.waited hi (hall j hj hne)
        have hl : l = [] := by
          cases l with
          | nil => rfl
          | cons x l =>
            exfalso
            have hoff := hs.off x (by simp)
            have h1 := hall' x.1 hoff.2 fun e => hm (by simp [e])
            rw [hoff.1] at h1
            cases h1
        subst hl
        have hp' : a = aF := hp
        subst hp'
        refine wpOp_of_does ho (h w hC hk) fun v w' hR => ?_
        have hrn : Region.ready .any ops (run.setIfInBounds i true) = [] := by
          refine List.eq_nil_iff_forall_not_mem.2 fun j hj => ?_
          obtain ⟨h1, h2, _⟩ := ready_iff.1 hj
          have h3 : (run.setIfInBounds i true).getD j false = true := by
            rw [getD_set_iff (by rw [hs.rs]; exact hri.2.1)]
            by_cases e : j = i
            · exact .inl e
            · exact .inr (hall' j h2 e)
          rw [getD_tf (by simpa [hs.rs] using h2), h3] at h1
          cases h1
        have hq := k v w' hR
        cases fuel with
        | zero => exact ⟨hrn, hq⟩
        | succ f => exact ⟨fun _ => hq, fun j hj => by rw [hrn] at hj; cases hj⟩
theorem wp_flow {id : Nat} {Q : Exit → Act → World → Prop} {a : Act} {w : World} (X : Nat → Prop) (hm : P.follows .mixedOrders = true) (hB : okB ops = true)
    (h : Flow P ops w (Q .normal) X [] (Array.replicate ops.size false) (fun w' => Ext w w') a) : (Code.region id ops true).wp P Q a w := by
  refine wp_region_any hm ?_
  have hx : Ext w { w with drawn := w.drawn + 1 } := Ext.drawn _ _
  refine flow_any hB ops.size h (fun _ _ h1 h2 => Ext.trans h1 h2) [] _ a _ ?_ rfl hx (hx.keep X) ?_
  · refine ⟨by simp, by simp, fun k => by simp, fun x hx => by simp at hx, fun l1 x l2 he => by simp at he, fun j hj => ?_⟩
    rcases Nat.lt_or_ge j ops.size with h' | h'
    · simp [h'] at hj
    · simp [Array.getElem?_eq_none, h'] at hj
  · refine Nat.le_trans List.count_le_length ?_
    simp
end
section
variable {P : Program} {ops : Array Oper} {X : Nat → Prop} {w0 : World} {Q : Act → World → Prop}
def lexOk (ops : Array Oper) : Bool := (List.range ops.size).all fun i => (List.range ops.size).all fun k => !waitsB ops i k || decide (k < i)
def edgesIn (ops : Array Oper) : Bool := (List.range ops.size).all fun i => (((ops[i]?).map fun o => o.after.all fun e => !Region.binds .any e || decide (e.on < ops.size))).getD true
def firsts (n k : Nat) : Array Bool := ((List.range n).map fun i => decide (i < k)).toArray
theorem firsts_getD (n k i : Nat) : (firsts n k).getD i false = (decide (i < k) && decide (i < n)) := by
  by_cases h : i < n <;> simp [firsts, h]
theorem firsts_set {n k : Nat} (_h : k < n) : (firsts n k).setIfInBounds k true = firsts n (k + 1) := by
  apply Array.ext
  · simp [firsts]
  · intro i h1 h2
    simp only [firsts, Array.size_setIfInBounds, List.size_toArray, List.length_map, List.length_range] at h1 h2
    rw [Array.getElem_setIfInBounds (by simpa [firsts] using h1)]
    by_cases hk : k = i
    · subst hk; simp [firsts]
    · simp [firsts, hk]; omega
theorem firsts_zero (n : Nat) : firsts n 0 = Array.replicate n false := by
  apply Array.ext
  · simp [firsts]
  · intro i h1 h2; simp [firsts]
theorem lex_ready (h : lexOk ops = true) (he : edgesIn ops = true) {k : Nat} (hk : k < ops.size) : k ∈ Region.ready .any ops (firsts ops.size k) := by
  refine ready_iff.2 ⟨?_, hk, fun j hj => ?_⟩
  · rw [getD_tf (by simpa [firsts] using hk), firsts_getD]; simp
  · have hjs : j < ops.size := by
      simp only [edgesIn, List.all_eq_true, List.mem_range] at he
      have h1 := he k hk
      unfold waitsB at hj
      simp only [Array.getElem?_eq_getElem hk, Option.map_some, Option.getD_some] at h1 hj
      obtain ⟨e, hm, hb⟩ := Array.any_eq_true'.1 hj
      simp only [Bool.and_eq_true, beq_iff_eq] at hb
      have h2 := (Array.all_eq_true'.1 h1) e hm
      simp only [hb.1, Bool.not_true, Bool.false_or, decide_eq_true_eq] at h2
      omega
    simp only [lexOk, List.all_eq_true, List.mem_range, Bool.or_eq_true, Bool.not_eq_true', decide_eq_true_eq] at h
    have hlt : j < k := by
      rcases h k hk j hjs with h3 | h3
      · rw [h3] at hj; cases hj
      · exact h3
    rw [firsts_getD]; simp [hlt, hjs]
def FlowT (P : Program) (ops : Array Oper) (X : Nat → Prop) (w0 : World) (Q : Act → World → Prop) (L : List Nat) (rest : List Oper) (C : World → Prop) (a : Act) : Prop :=
  ∀ k, k + rest.length = ops.size → (∀ j, rest[j]? = ops[k + j]?) → lexOk ops = true → edgesIn ops = true → (∀ j ∈ L, j < k) → Flow P ops w0 Q X L (firsts ops.size k) C a
variable {L : List Nat}
theorem FlowT.fin {C : World → Prop} {a : Act} (h : ∀ w, C w → Keep X w0 w → Q a w) : FlowT P ops X w0 Q L [] C a := by
  intro k hk hl _ _ _
  have hk' : k = ops.size := by simpa using hk
  refine Flow.fin (List.eq_nil_iff_forall_not_mem.2 fun i hi => ?_) h
  obtain ⟨h1, h2, _⟩ := ready_iff.1 hi
  rw [getD_tf (by simpa [firsts] using h2), firsts_getD] at h1
  simp [hk', h2] at h1
theorem FlowT.det {C : World → Prop} {a : Act} {o : Oper} {rest : List Oper} (v : Value) (h : ∀ w, Keep X w0 w → does P ops o a w fun v' w' => v' = v ∧ Ext w w')
    (k : FlowT P ops X w0 Q L rest C (a.put o.dst v)) : FlowT P ops X w0 Q L (o :: rest) C a := by
  intro n hn hl hx he hL
  have hns : n < ops.size := by simp at hn; omega
  have ho : ops[n]? = some o := by have := hl 0; simpa using this.symm
  refine Flow.det n o v (fun hm => by have := hL n hm; omega) ho (lex_ready hx he hns) h ?_
  rw [firsts_set hns]
  exact k (n + 1) (by simp at hn; omega) (fun j => by have := hl (j + 1); rw [show n + 1 + j = n + (j + 1) by omega]; simpa using this) hx he (fun j hj => by have := hL j hj; omega)
theorem FlowT.loose {C : World → Prop} {a : Act} {o : Oper} {rest : List Oper} (v : Value) (n : Nat) (hn : n + (o :: rest).length = ops.size) (h : ∀ w, does P ops o a w fun v' w' => v' = v ∧ Ext w w')
    (k : FlowT P ops X w0 Q (n :: L) rest C (a.put o.dst v)) : FlowT P ops X w0 Q L (o :: rest) C a := by
  intro n' hn' hl hx he hL
  obtain rfl : n' = n := by omega
  have hns : n' < ops.size := by simp at hn; omega
  have ho : ops[n']? = some o := by have := hl 0; simpa using this.symm
  refine Flow.loose n' o v ho (lex_ready hx he hns) h ?_
  rw [firsts_set hns]
  exact k (n' + 1) (by simp at hn; omega) (fun j => by have := hl (j + 1); rw [show n' + 1 + j = n' + (j + 1) by omega]; simpa using this) hx he (fun j hj => by
    rcases List.mem_cons.1 hj with rfl | hj
    · omega
    · have := hL j hj; omega)
def aloneB (ops : Array Oper) (k : Nat) : Bool := Region.ready .any ops (firsts ops.size k) == [k]
theorem FlowT.act {C : World → Prop} {a : Act} {o : Oper} {rest : List Oper} (R : Value → World → Prop) (n : Nat) (hn : n + (o :: rest).length = ops.size) (hal : aloneB ops n = true)
    (h : ∀ w, C w → Keep X w0 w → does P ops o a w fun v w' => Keep X w0 w' ∧ R v w')
    (k : ∀ v, (∃ w, R v w) → FlowT P ops X w0 Q L rest (fun w => ∃ w1, R v w1 ∧ Ext w1 w) (a.put o.dst v)) : FlowT P ops X w0 Q L (o :: rest) C a := by
  intro n' hn' hl hx he hL
  obtain rfl : n' = n := by omega
  have hns : n' < ops.size := by simp at hn; omega
  have ho : ops[n']? = some o := by have := hl 0; simpa using this.symm
  have hr : Region.ready .any ops (firsts ops.size n') = [n'] := by simpa [aloneB] using hal
  refine Flow.act (fun _ => o) (fun _ => R) (by rw [hr]; simp) (fun i hi => ?_) (fun i hi => h) (fun i hi v hv => ?_)
  · rw [hr] at hi; obtain rfl : i = n' := by simpa using hi
    exact ho
  · rw [hr] at hi; obtain rfl : i = n' := by simpa using hi
    rw [firsts_set hns]
    exact k v hv (i + 1) (by simp at hn; omega) (fun j => by have := hl (j + 1); rw [show i + 1 + j = i + (j + 1) by omega]; simpa using this) hx he (fun j hj => by have := hL j hj; omega)
def waits2B (ops : Array Oper) (n j : Nat) : Bool := waitsB ops n j || (List.range ops.size).any fun k => waitsB ops n k && waitsB ops k j
theorem waits2_of {n j : Nat} (h : waits2B ops n j = true) : waits2 ops n j := by
  simp only [waits2B, Bool.or_eq_true] at h
  refine h.imp id fun h1 => ?_
  obtain ⟨k, _, h2⟩ := List.any_eq_true.1 h1
  simp only [Bool.and_eq_true] at h2
  exact ⟨k, h2⟩
def turnB (ops : Array Oper) (n : Nat) (L : List Nat) : Bool := (List.range n).all fun j => L.contains j || waits2B ops n j
theorem FlowT.turn {C : World → Prop} {a : Act} {o : Oper} {rest : List Oper} (Y : Nat → Prop) (R : Value → World → Prop) (n : Nat) (hn : n + (o :: rest).length = ops.size) (hal : aloneB ops n = true) (ht : turnB ops n L = true)
    (h : ∀ w, C w → Keep X w0 w → does P ops o a w fun v w' => Keep Y w0 w' ∧ R v w')
    (k : ∀ v, (∃ w, R v w) → FlowT P ops Y w0 Q L rest (fun w => ∃ w1, R v w1 ∧ Ext w1 w) (a.put o.dst v)) : FlowT P ops X w0 Q L (o :: rest) C a := by
  intro n' hn' hl hx he hL
  obtain rfl : n' = n := by omega
  have hns : n' < ops.size := by simp at hn; omega
  have ho : ops[n']? = some o := by have := hl 0; simpa using this.symm
  have hr : Region.ready .any ops (firsts ops.size n') = [n'] := by simpa [aloneB] using hal
  refine Flow.turn Y n' o R ho hr (fun j hj => ?_) h (fun v hv => ?_)
  · rw [firsts_getD] at hj
    simp only [Bool.and_eq_true, decide_eq_true_eq] at hj
    simp only [turnB, List.all_eq_true, List.mem_range, Bool.or_eq_true, List.contains_iff_mem] at ht
    exact (ht j hj.1).imp id waits2_of
  · rw [firsts_set hns]
    exact k v hv (n' + 1) (by simp at hn; omega) (fun j => by have := hl (j + 1); rw [show n' + 1 + j = n' + (j + 1) by omega]; simpa using this) hx he (fun j hj => by have := hL j hj; omega)
def sinkAllB (ops : Array Oper) (n : Nat) : Bool := (List.range ops.size).all fun j => decide (j = n) || waits2B ops n j
theorem FlowT.last {C : World → Prop} {a : Act} {o : Oper} (R : Value → World → Prop) (n : Nat) (hn : n + 1 = ops.size) (hal : aloneB ops n = true) (hs : sinkAllB ops n = true)
    (h : ∀ w, C w → Keep X w0 w → does P ops o a w R) (k : ∀ v w', R v w' → Q (a.put o.dst v) w') : FlowT P ops X w0 Q L [o] C a := by
  intro n' hn' hl hx he hL
  obtain rfl : n' = n := by simp at hn'; omega
  have hns : n' < ops.size := by omega
  have ho : ops[n']? = some o := by have := hl 0; simpa using this.symm
  have hr : Region.ready .any ops (firsts ops.size n') = [n'] := by simpa [aloneB] using hal
  refine Flow.last n' o R ho hr (fun j hj hne => ?_) h k
  simp only [sinkAllB, List.all_eq_true, List.mem_range, Bool.or_eq_true, decide_eq_true_eq] at hs
  exact waits2_of ((hs j hj).resolve_left hne)
def regionOk (ops : Array Oper) : Bool := okB ops && (lexOk ops && edgesIn ops)
theorem wp_flowT {id : Nat} {Q : Exit → Act → World → Prop} {a : Act} {w : World} {l : List Oper} (X : Nat → Prop) (hm : P.follows .mixedOrders = true) (hB : regionOk l.toArray = true)
    (h : FlowT P l.toArray X w (Q .normal) [] l (fun w' => Ext w w') a) : (Code.region id l.toArray true).wp P Q a w := by
  simp only [regionOk, Bool.and_eq_true] at hB
  refine wp_flow X hm hB.1 ?_
  rw [← firsts_zero]
  exact h 0 (by simp) (fun j => by simp) hB.2.1 hB.2.2 (fun j hj => by simp at hj)
end
theorem hid {p : Prop} (h : p) : Hid p := h
attribute [go_sem] Oper.doesUpon_value Oper.doesUpon_skip
def DetR (v : Value) (w : World) : Value → World → Prop := fun v' w' => v' = v ∧ Ext w w'
def CallR (R : Value → World → Prop) : Ending → World → Prop := fun e w => ∃ v, e = .returned v ∧ R v w
theorem DetR.mk {v : Value} {w : World} : DetR v w v w := ⟨rfl, Ext.refl _⟩
theorem doesUpon_enter' {P : Program} (R : Value → World → Prop) (f : FuncId) (args : Array Value) (w : World) : Oper.doesUpon P R (.ok (.enter f args) w) = Calls P f args w (CallR R) := rfl
attribute [go_sem] doesUpon_enter'
section
variable {P : Program} {ops : Array Oper} {X : Nat → Prop} {w0 : World} {Q : Act → World → Prop} {L : List Nat}
theorem FlowT.d {C : World → Prop} {a : Act} {o : Oper} {rest : List Oper} (v : Value) (h : ∀ w, Keep X w0 w → does P ops o a w (DetR v w))
    (k : FlowT P ops X w0 Q L rest C (a.put o.dst v)) : FlowT P ops X w0 Q L (o :: rest) C a := FlowT.det v h k
def ActR (X : Nat → Prop) (w0 : World) (R : Value → World → Prop) : Value → World → Prop := fun v w' => Keep X w0 w' ∧ R v w'
theorem FlowT.a {C : World → Prop} {a : Act} {o : Oper} {rest : List Oper} (R : Value → World → Prop) (n : Nat) (hn : n + (o :: rest).length = ops.size) (hal : aloneB ops n = true)
    (h : ∀ w, C w → Keep X w0 w → does P ops o a w (ActR X w0 R))
    (k : ∀ v, (∃ w, R v w) → FlowT P ops X w0 Q L rest (fun w => ∃ w1, R v w1 ∧ Ext w1 w) (a.put o.dst v)) : FlowT P ops X w0 Q L (o :: rest) C a := FlowT.act R n hn hal h k
theorem Flow.mono {full : Array Bool} {C : World → Prop} {a : Act} (h : Flow P ops w0 Q X L full C a) : ∀ {C' : World → Prop}, (∀ w, C' w → C w) → Flow P ops w0 Q X L full C' a := by
  induction h with
  | fin hr h => exact fun hc => Flow.fin hr fun w hw => h w (hc w hw)
  | det i o v hL ho hr h k ih => exact fun hc => Flow.det i o v hL ho hr h (ih hc)
  | loose i o v ho hr h k ih => exact fun hc => Flow.loose i o v ho hr h (ih hc)
  | act O R hn ho h k ih => exact fun hc => Flow.act O R hn ho (fun i hi w hw => h i hi w (hc w hw)) k
  | turn Y i o R ho hr hw h k ih => exact fun hc => Flow.turn Y i o R ho hr hw (fun w hw => h w (hc w hw)) k
  | last i o R ho hr hall h k => exact fun hc => Flow.last i o R ho hr hall (fun w hw => h w (hc w hw)) k
theorem FlowT.s {C : World → Prop} {a : Act} {o : Oper} {rest : List Oper} (R : Value → World → Prop) (n : Nat) (hn : n + (o :: rest).length = ops.size) (hal : aloneB ops n = true)
    (hR : ∀ v w w', R v w → Ext w w' → R v w') (h : ∀ w, C w → Keep X w0 w → does P ops o a w (ActR X w0 R))
    (k : ∀ v, (∃ w, R v w) → FlowT P ops X w0 Q L rest (R v) (a.put o.dst v)) : FlowT P ops X w0 Q L (o :: rest) C a :=
  FlowT.act R n hn hal h fun v hv k' h1 h2 h3 h4 h5 => Flow.mono (k v hv k' h1 h2 h3 h4 h5) fun _ ⟨_, hw, he⟩ => hR _ _ _ hw he
theorem FlowT.l {C : World → Prop} {a : Act} {o : Oper} {rest : List Oper} {v : Value} (n : Nat) (hn : n + (o :: rest).length = ops.size) (h : ∀ w, does P ops o a w (DetR v w))
    (k : FlowT P ops X w0 Q (n :: L) rest C (a.put o.dst v)) : FlowT P ops X w0 Q L (o :: rest) C a := FlowT.loose v n hn h k
theorem FlowT.t {C : World → Prop} {a : Act} {o : Oper} {rest : List Oper} (Y : Nat → Prop) (R : Value → World → Prop) (n : Nat) (hn : n + (o :: rest).length = ops.size) (hal : aloneB ops n = true) (ht : turnB ops n L = true)
    (hR : ∀ v w w', R v w → Ext w w' → R v w') (h : ∀ w, C w → Keep X w0 w → does P ops o a w (ActR Y w0 R))
    (k : ∀ v, (∃ w, R v w) → FlowT P ops Y w0 Q L rest (R v) (a.put o.dst v)) : FlowT P ops X w0 Q L (o :: rest) C a :=
  FlowT.turn Y R n hn hal ht h fun v hv k' h1 h2 h3 h4 h5 => Flow.mono (k v hv k' h1 h2 h3 h4 h5) fun _ ⟨_, hw, he⟩ => hR _ _ _ hw he
theorem FlowT.v {C : World → Prop} {a : Act} {o : Oper} {rest : List Oper} (v : Value) (R : World → Prop) (n : Nat) (hn : n + (o :: rest).length = ops.size) (hal : aloneB ops n = true)
    (hR : ∀ w w', R w → Ext w w' → R w') (h : ∀ w, C w → Keep X w0 w → does P ops o a w (ActR X w0 fun v' w' => v' = v ∧ R w'))
    (k : FlowT P ops X w0 Q L rest R (a.put o.dst v)) : FlowT P ops X w0 Q L (o :: rest) C a :=
  FlowT.act (fun v' w' => v' = v ∧ R w') n hn hal h fun v' ⟨_, hv, _⟩ k' h1 h2 h3 h4 h5 => by
    subst hv
    exact Flow.mono (k k' h1 h2 h3 h4 h5) fun _ ⟨_, hw, he⟩ => hR _ _ hw.2 he
theorem Flow.acts {listed : Array Bool} {C : World → Prop} {a : Act} (rs : List Nat) (hr : (Region.ready .any ops listed == rs) = true) (hne : rs ≠ []) (O : Nat → Oper) (R : Nat → Value → World → Prop)
    (hR : ∀ i v w w', R i v w → Ext w w' → R i v w') (h : ∀ i ∈ rs, ops[i]? = some (O i) ∧ ∀ w, C w → Keep X w0 w → does P ops (O i) a w (ActR X w0 (R i)))
    (k : ∀ i ∈ rs, ∀ v, (∃ w, R i v w) → Flow P ops w0 Q X L (listed.setIfInBounds i true) (R i v) (a.put (O i).dst v)) : Flow P ops w0 Q X L listed C a := by
  have hr' : Region.ready .any ops listed = rs := by simpa using hr
  refine Flow.act O R (by rw [hr']; exact hne) (fun i hi => (h i (by rwa [hr'] at hi)).1) (fun i hi => (h i (by rwa [hr'] at hi)).2) (fun i hi v hv => ?_)
  exact Flow.mono (k i (by rwa [hr'] at hi) v hv) fun _ ⟨_, hw, he⟩ => hR _ _ _ _ hw he
theorem Flow.d {listed : Array Bool} {C : World → Prop} {a : Act} {v : Value} (i : Nat) (o : Oper) (ho : ops[i]? = some o) (hL : i ∉ L) (hr : (Region.ready .any ops listed).contains i = true)
    (h : ∀ w, Keep X w0 w → does P ops o a w (DetR v w)) (k : Flow P ops w0 Q X L (listed.setIfInBounds i true) C (a.put o.dst v)) : Flow P ops w0 Q X L listed C a :=
  Flow.det i o v hL ho (by simpa using hr) h k
theorem CallR.det {f : FuncId} {args : Array Value} {w : World} {v : Value} (h : Calls P f args w fun e w' => e = .returned v ∧ Ext w w') : Calls P f args w (CallR (DetR v w)) :=
  h.mono fun _ _ ⟨he, hx⟩ => ⟨v, he, rfl, hx⟩
theorem CallR.act {f : FuncId} {args : Array Value} {w : World} {R : Value → World → Prop} (h : Calls P f args w fun e w' => ∃ v, e = .returned v ∧ Keep X w0 w' ∧ R v w') : Calls P f args w (CallR (ActR X w0 R)) := h
end
def Blk (w : World) (b : Nat) (c : Array Value) (e : TypeId) : Prop := w.heap[b]? = some (.cells c e (0, 0))
theorem Blk.cell {w : World} {b : Nat} {c : Array Value} {e : TypeId} (h : Blk w b c e) (i : Nat) : w.cell? ⟨b, i, none⟩ = c[i]? := by
  unfold Blk at h; simp [World.cell?, h]
theorem Blk.free {w : World} {b : Nat} {c : Array Value} {e : TypeId} (h : Blk w b c e) (i : Nat) : w.frozen? ⟨b, i, none⟩ = false := by
  unfold Blk at h; simp [World.frozen?, h]
theorem Blk.lt {w : World} {b : Nat} {c : Array Value} {e : TypeId} (h : Blk w b c e) : b < w.heap.size := (Array.getElem?_eq_some_iff.1 h).1
theorem Blk.ext {w w' : World} {b : Nat} {c : Array Value} {e : TypeId} (h : Blk w b c e) (x : Ext w w') : Blk w' b c e := Ext.get x h
theorem Blk.keep {X : Nat → Prop} {w w' : World} {b : Nat} {c : Array Value} {e : TypeId} (h : Blk w b c e) (x : Keep X w w') (hx : ¬ X b) : Blk w' b c e := Keep.get x h hx
theorem Blk.new (w : World) (c : Array Value) (e : TypeId) : Blk (w.alloc (.cells c e)) w.heap.size c e := heap_alloc_new w _
theorem Blk.alloc {w : World} {b : Nat} {c : Array Value} {e : TypeId} (h : Blk w b c e) (o : Obj) : Blk (w.alloc o) b c e := (heap_alloc_old w o h.lt).trans h
theorem Blk.set {w : World} {b : Nat} {c : Array Value} {e : TypeId} (h : Blk w b c e) (i : Nat) (v : Value) : Blk (w.setCell ⟨b, i, none⟩ v) b (c.setIfInBounds i v) e := by
  unfold Blk at *; simp [World.setCell, Array.getElem?_modify, h]
theorem Keep.set {X : Nat → Prop} {a w : World} (h : Keep X a w) {p : Addr} (hp : X p.block) (v : Value) : Keep X a (w.setCell p v) :=
  h.trans ⟨rfl, rfl, rfl, by simp [World.setCell], fun k _ hk => Below.heap_setCell _ _ _ _ (fun e => hk (e ▸ hp))⟩
theorem Keep.ext_r {X : Nat → Prop} {a b c : World} (h : Keep X a b) (x : Ext b c) : Keep X a c := h.trans (x.keep X)
theorem Keep.alloc {X : Nat → Prop} {a w : World} (h : Keep X a w) (o : Obj) : Keep X a (w.alloc o) := h.trans (((Ext.refl w).alloc o).keep X)
theorem Blk.kc {X : Nat → Prop} {W : World} {b : Nat} {c : Array Value} {e : TypeId} (h : Blk W b c e) (hx : ¬ X b) (i : Nat) {v : Value} (hv : c[i]? = some v) : ∀ w1, Keep X W w1 → w1.cell? ⟨b, i, none⟩ = some v :=
  fun _ hk => ((h.keep hk hx).cell i).trans hv
theorem Keep.sub {X : Nat → Prop} {a b c : World} (h : Ext a b) (k : Keep X b c) {Y : Nat → Prop} (hx : ∀ n, X n → a.heap.size ≤ n ∨ Y n) : Keep Y a c :=
  ⟨k.os.trans h.os, k.tape.trans h.tape, k.output.trans h.output, Nat.le_trans h.size k.size, fun i hi hy => (k.block i (Nat.lt_of_lt_of_le hi h.size) fun hX => (hx i hX).elim (fun h => by omega) hy).trans (h.block i hi)⟩
theorem Keep.new {X : Nat → Prop} {a b c : World} (h : Ext a b) (k : Keep X b c) (hx : ∀ n, X n → a.heap.size ≤ n) : Ext a c :=
  (Keep.sub h k (Y := fun _ => False) fun n hn => .inl (hx n hn)).ext
theorem heap_size_alloc (w : World) (o : Obj) : (w.alloc o).heap.size = w.heap.size + 1 := by simp
def gE : Nat → Nat
  | 1 => 4
  | 2 => 3
  | 3 => 7
  | 4 => 6
  | 5 => 1
  | 6 => 9
  | 7 => 2
  | 8 => 0
  | 9 => 5
  | 10 => 99999
  | 11 => 99999
  | _ => 99999
end Go.Proofs.YtamblahkckaaaaaDoor
namespace Go.Proofs.YtamblahkckaaaaaDoor
def crcBit (c : Nat) : Nat := if c % 2 = 1 then (c / 2) ^^^ 3988292384 else c / 2
def crcBits (c : Nat) : Nat → Nat
  | 0 => c
  | k + 1 => crcBit (crcBits c k)
def crcByte (c : Nat) (b : UInt8) : Nat := crcBits (c ^^^ b.toNat) 8
def crcGo (c : Nat) (l : List UInt8) : Nat := l.foldl crcByte c
def crc (l : List UInt8) : Nat := crcGo 4294967295 l ^^^ 4294967295
end Go.Proofs.YtamblahkckaaaaaDoor
namespace Go.Proofs.YtamblahkckaaaaaDoor
open Go Go.RowKit
def bcells (l : List UInt8) : List Value := l.map fun b => Value.int .u8 (b.toNat : Int)
def high4 (n : Nat) : List UInt8 := [UInt8.ofNat (n / 16777216), UInt8.ofNat (n / 65536), UInt8.ofNat (n / 256), UInt8.ofNat n]
def low4 (n : Nat) : List UInt8 := [UInt8.ofNat n, UInt8.ofNat (n / 256), UInt8.ofNat (n / 65536), UInt8.ofNat (n / 16777216)]
def num4 (a b c d : UInt8) : Nat := a.toNat * 16777216 + b.toNat * 65536 + c.toNat * 256 + d.toNat
def at8 (s : ByteArray) (i : Nat) : UInt8 := s.data.toList.getD i 0
def four (s : ByteArray) (i : Nat) : Nat := num4 (at8 s i) (at8 s (i + 1)) (at8 s (i + 2)) (at8 s (i + 3))
structure Ints (w : World) (a : Option Addr) (len : Nat) (vs : List Int) : Prop where
  ln : vs.length = len
  sm : 0 < len → ∃ x, a = some x
  cl : ∀ x, a = some x → ∀ i, i < len → w.cell? (x.add i) = some (.int .i64 (vs.getD i 0))
  hi : ∀ i, vs.getD i 0 ≤ 9223372036854775807
theorem cell_lt {w : World} {x : Addr} {v : Value} (h : w.cell? x = some v) : x.block < w.heap.size := by
  rcases Nat.lt_or_ge x.block w.heap.size with h4 | h4
  · exact h4
  · simp [World.cell?, Array.getElem?_eq_none h4] at h
theorem add_block (x : Addr) (i : Nat) : (x.add i).block = x.block := by unfold Addr.add; split <;> rfl
theorem Ext.cellx {w w' : World} (h : Ext w w') {x : Addr} {v : Value} (hc : w.cell? x = some v) : w'.cell? x = some v := by
  have hb := h.block x.block (cell_lt hc)
  unfold World.cell? at *
  rw [hb]
  exact hc
def IdxR (p : Prop) (r : Int) : Prop := (-1 ≤ r ∧ r ≤ 9223372036854775807) ∧ (0 ≤ r ↔ p)
theorem IdxR.yes {p : Prop} {k : Nat} (hp : p) (hk : (k : Int) ≤ 9223372036854775807) : IdxR p (k : Int) := ⟨⟨by omega, hk⟩, fun _ => hp, fun _ => by omega⟩
theorem IdxR.no {p : Prop} (hp : ¬ p) : IdxR p (-1) := ⟨⟨by omega, by omega⟩, fun h => by omega, fun h => absurd h hp⟩
def farB (n : Int) : Bool := !(decide (0 ≤ n) && decide (n ≤ 2147483648))
def anyFar (vs : List Int) : Bool := vs.any farB
structure Fr where
  kind : UInt8
  fr : Int
  to : Int
  seq : Int
  nums : List Int
def inB (n m : Int) : Bool := decide (0 ≤ n) && decide (n ≤ m)
def kinds : List UInt8 := [100, 101, 116, 97]
def codeOf (k b1 b2 b3 far same full : Bool) : Nat := bif !k then 4 else bif !b1 then 2 else bif !b2 then 2 else bif !b3 then 2 else bif far then 2 else bif same then 3 else bif full then 8 else 0
def Fr.code (f : Fr) : Nat := codeOf (decide (f.kind ∈ kinds)) (inB f.fr 5) (inB f.to 5) (inB f.seq 2147483648) (anyFar f.nums) (decide (f.fr = f.to)) (decide (200 < f.nums.length))
def frv (f : Fr) (a : Option Addr) (cap : Nat) : Value := .agg #[.int .u8 (f.kind.toNat : Int), .int .i64 f.fr, .int .i64 f.to, .int .i64 f.seq, .slice a f.nums.length cap]
structure ErrsC (w : World) (ev : Nat → Value) : Prop where
  bound : w.cell? ⟨3, 0, none⟩ = some (ev 2)
  shape : w.cell? ⟨7, 0, none⟩ = some (ev 3)
  kind : w.cell? ⟨6, 0, none⟩ = some (ev 4)
  full : w.cell? ⟨0, 0, none⟩ = some (ev 8)
structure Errs (w : World) (ev : Nat → Value) : Prop extends ErrsC w ev where
  text : w.cell? ⟨4, 0, none⟩ = some (ev 1)
  sum : w.cell? ⟨99999, 0, none⟩ = some (ev 11)
def errv (ev : Nat → Value) (c : Nat) : Value := if c = 0 then .nilIface else ev c
theorem ErrsC.ext {w w' : World} {ev : Nat → Value} (h : ErrsC w ev) (x : Ext w w') : ErrsC w' ev :=
  ⟨x.cellx h.bound, x.cellx h.shape, x.cellx h.kind, x.cellx h.full⟩
theorem Errs.ext {w w' : World} {ev : Nat → Value} (h : Errs w ev) (x : Ext w w') : Errs w' ev :=
  ⟨h.toErrsC.ext x, x.cellx h.text, x.cellx h.sum⟩
theorem Ints.ext {w w' : World} {a : Option Addr} {len : Nat} {vs : List Int} (h : Ints w a len vs) (x : Ext w w') : Ints w' a len vs :=
  ⟨h.ln, h.sm, fun y hy i hi => x.cellx (h.cl y hy i hi), h.hi⟩
end Go.Proofs.YtamblahkckaaaaaDoor
