/- Texts of one proof, put together: ZR X5 Z5 X3 X6 ZS ZU ZV ZZYd. -/
import Derived.Test.YtihdpijgngooaaaGreatDoorHHA06
import Derived.Test.YtihdpijgngooaaaGreatDoorHHA07
import Derived.Test.YtihdpijgngooaaaGreatDoorHHA08
import Derived.Test.YtihdpijgngooaaaGreatDoorHHA10
import Derived.Test.YtihdpijgngooaaaGreatDoorHHA11
import Derived.Test.YtihdpijgngooaaaGreatDoorHHA12
import Derived.Test.YtihdpijgngooaaaGreatDoorHHA13
set_option linter.unusedSimpArgs false
set_option linter.unusedVariables false
namespace Go.Proofs.YtihdpijgngooaaaGreatDoor
open Go Go.RowKit
def OwnsQ (w : World) (base : Nat) (e : TypeId) (size : Nat) (v : Value) (n : Nat) (xs : List Value) : Prop :=
  xs.length = n * size ∧ ((v = .slice none 0 0 ∧ n = 0) ∨ ∃ g off cap cur, v = .slice (some ⟨g, off, none⟩) n cap ∧ base ≤ g ∧ Blk w g cur e ∧ n ≤ cap ∧ off + cap * size ≤ cur.size ∧ (cur.toList.drop off).take (n * size) = xs)
section
variable {w w' : World} {base : Nat} {e : TypeId} {size n : Nat} {v : Value} {xs : List Value}
theorem OwnsQ.ofRow (h : w.ownsRow base e size v n xs) : OwnsQ w base e size v n xs := by
  refine ⟨h.1, h.2.imp id ?_⟩
  rintro ⟨g, cap, cur, h1, h2, h3, h4, h5, h6, h7⟩
  exact ⟨g, 0, cap, cur, h1, h2, h3, h4, by omega, h7⟩
theorem OwnsQ.nil (w : World) (base : Nat) (e : TypeId) (size : Nat) : OwnsQ w base e size (.slice none 0 0) 0 [] := .ofRow (World.ownsRow_nil _ _ _ _)
theorem OwnsQ.form (h : OwnsQ w base e size v n xs) : ∃ a c, v = .slice a n c := by
  rcases h.2 with ⟨h1, h2⟩ | ⟨g, off, cap, cur, h1, _⟩
  · exact ⟨none, 0, by rw [h1, h2]⟩
  · exact ⟨_, _, h1⟩
theorem OwnsQ.keep {X : Nat → Prop} (h : OwnsQ w base e size v n xs) (k : Keep X w w') (hx : ∀ i, v.ownBlock = some i → ¬ X i) : OwnsQ w' base e size v n xs := by
  refine ⟨h.1, h.2.imp id ?_⟩
  rintro ⟨g, off, cap, cur, rfl, h2, h3, h4⟩
  exact ⟨g, off, cap, cur, rfl, h2, h3.keep k (hx g rfl), h4⟩
theorem OwnsQ.ext (h : OwnsQ w base e size v n xs) (x : Ext w w') : OwnsQ w' base e size v n xs := h.keep (x.keep fun _ => False) fun _ _ h => h
theorem OwnsQ.ty (h : OwnsQ w base e size v n xs) {k : Nat} (hk : v.ownBlock = some k) : base ≤ k ∧ ∃ c, Blk w k c e := by
  rcases h.2 with ⟨rfl, _⟩ | ⟨g, off, cap, cur, rfl, h2, h3, _⟩
  · cases hk
  · obtain rfl := Option.some.inj hk
    exact ⟨h2, cur, h3⟩
theorem OwnsQ.pos (h : OwnsQ w base e size v n xs) (hn : 0 < n) : ∃ g off cap, v = .slice (some ⟨g, off, none⟩) n cap ∧ 0 < cap := by
  rcases h.2 with ⟨_, h2⟩ | ⟨g, off, cap, cur, h1, _, _, h4, _⟩
  · omega
  · exact ⟨g, off, cap, h1, by omega⟩
theorem OwnsQ.get {g off cap : Nat} (h : OwnsQ w base e size (.slice (some ⟨g, off, none⟩) n cap) n xs) (i : Nat) {u : Value} (hu : xs[i]? = some u) : w.cell? ⟨g, off + i, none⟩ = some u := by
  rcases h.2 with ⟨h1, _⟩ | ⟨g', off', cap', cur, h1, h2, h3, h4, h5, h6⟩
  · cases h1
  · simp only [Value.slice.injEq, Option.some.injEq, Addr.mk.injEq, and_true, true_and] at h1
    obtain ⟨⟨rfl, rfl⟩, rfl⟩ := h1
    rw [h3.cell, ← Array.getElem?_toList]
    rw [← h6, List.getElem?_take] at hu
    split at hu
    · rwa [List.getElem?_drop] at hu
    · cases hu
theorem OwnsQ.tail {g off cap : Nat} (h : OwnsQ w base e size (.slice (some ⟨g, off, none⟩) n cap) n xs) (hn : 0 < n) : OwnsQ w base e size (.slice (some (if cap = 1 then ⟨g, off, none⟩ else ⟨g, off + size, none⟩)) (n - 1) (cap - 1)) (n - 1) (xs.drop size) := by
  rcases h.2 with ⟨h1, _⟩ | ⟨g', off', cap', cur, h1, h2, h3, h4, h5, h6⟩
  · cases h1
  · simp only [Value.slice.injEq, Option.some.injEq, Addr.mk.injEq, and_true, true_and] at h1
    obtain ⟨⟨rfl, rfl⟩, rfl⟩ := h1
    obtain ⟨m, rfl⟩ : ∃ m, n = m + 1 := ⟨n - 1, by omega⟩
    obtain ⟨c, rfl⟩ : ∃ c, cap = c + 1 := ⟨cap - 1, by omega⟩
    have e1 : (m + 1) * size = m * size + size := by rw [Nat.add_mul, Nat.one_mul]
    have e2 : (c + 1) * size = c * size + size := by rw [Nat.add_mul, Nat.one_mul]
    refine ⟨by rw [List.length_drop, h.1, e1]; simp, .inr ?_⟩
    by_cases hc : c = 0
    · subst hc
      obtain rfl : m = 0 := by omega
      refine ⟨g, off, 0, cur, by simp, h2, h3, Nat.le_refl _, by omega, ?_⟩
      have := h.1
      simp at this ⊢
      omega
    · refine ⟨g, off + size, c, cur, by rw [if_neg (by omega)]; simp, h2, h3, by omega, by omega, ?_⟩
      rw [← h6, List.drop_take, List.drop_drop, e1]
      congr 1
      · simp
theorem run_append_q (hbase : base ≤ w.heap.size) (t : TypeId) (z : Value) (bytes : Nat) (ht : Tryz.prog.underlying t = some (.slice e)) (hinf : (Tryz.prog.info? e).map (fun i => (i.zero, i.size, i.bytes)) = some (some z, size, bytes)) (hz1 : z.cells.size = size) (hsz : 0 < size)
    (hb8 : bytes ≤ 64) (ty : TypeId) (hown : OwnsQ w base e size v n xs) (a : Addr) (us : List Value) (hul : us.length = size) (hus : ∀ j u, us[j]? = some u → w.cell? (a.add j) = some u) (h1 : ∀ u ∈ us, u.oneCell' = true) (hl : n ≤ 1000000000) :
    ∃ v' w', (Builtin.append_ #[t, t] ty #[v, .slice (some a) 1 1]).run Tryz.prog w = .ok v' w' ∧ OwnsQ w' base e size v' (n + 1) (xs ++ us) ∧ Keep (fun k => v.ownBlock = some k) w w' ∧ (v'.ownBlock = v.ownBlock ∨ v'.ownBlock = some w.heap.size) := by
  obtain ⟨i, hi, hz, hs, hb⟩ := info_parts hinf
  subst hs
  subst hb
  have hlen : (xs ++ us).length = (n + 1) * i.size := by rw [List.length_append, hown.1, hul, Nat.add_mul, Nat.one_mul]
  have hfit : (n + 1) * i.bytes ≤ 140737488355328 := by
    have : (n + 1) * i.bytes ≤ (n + 1) * 64 := Nat.mul_le_mul_left _ hb8
    omega
  rcases hown.2 with ⟨rfl, rfl⟩ | ⟨g, off, cap, cur, rfl, h2, h3, h4, h5, h6⟩
  · obtain rfl := List.eq_nil_of_length_eq_zero (by simpa using hown.1)
    obtain ⟨v', w', hr, k1, k2, _, k3⟩ := run_append_own_at (P := Tryz.prog) w base t ty e i z i.size i.bytes ht hi hz rfl rfl hz1 hsz (.slice none 0 0) 0 [] (World.ownsRow_nil _ _ _ _) a 1 1 us (by rw [hul]; omega) hus h1 (by simp only [maxLen]; omega) hfit hbase
    exact ⟨v', w', hr, .ofRow k1, grown_keep k2, k3⟩
  · by_cases hroom : n + 1 ≤ cap
    · have hm : n * i.size + us.length ≤ cap * i.size := by
        rw [hul]
        have : (n + 1) * i.size ≤ cap * i.size := Nat.mul_le_mul_right _ hroom
        rw [Nat.add_mul, Nat.one_mul] at this
        exact this
      have hf := run_firstCells_some (P := Tryz.prog) w i.size 1 a 1 1 us (by rw [hul]; omega) hus
      have hst := run_storeCells_at Tryz.prog g (off + n * i.size) e us 0 cur w h3 (by omega) h1
      simp only [Nat.add_zero] at hst
      refine ⟨_, _, by simp [Builtin.append_, run_underlying ht, sizeOf, typeInfo, hi, Builtin.lenOf, hroom, hf, Addr.add_lit, hst]; exact rfl, ⟨hlen, .inr ⟨g, off, cap, _, rfl, h2, setRow_heap w g cur _ e _ h3, hroom, ?_, ?_⟩⟩, (setRow_keep w g _).mono fun k _ hk => by rw [hk]; rfl, .inl rfl⟩
      · simp only [List.size_toArray, List.length_append, List.length_take, List.length_drop, Array.length_toList]
        omega
      · simp only []
        have hA : (cur.toList.take (off + n * i.size)).length = off + n * i.size := by rw [List.length_take, Array.length_toList]; omega
        rw [List.drop_append_of_le_length (by rw [hA]; omega), List.drop_take, show off + n * i.size - off = n * i.size by omega, h6, ← List.append_assoc, ← hlen]
        exact List.take_left
    · have holds : ∀ j u, xs[j]? = some u → w.cell? ((⟨g, off, none⟩ : Addr).add j) = some u := fun j u hu => by
        rw [Addr.add_lit]; exact hown.get j hu
      have hr := run_append_grow (P := Tryz.prog) w t ty e i z ht hi hz ⟨g, off, none⟩ n cap xs hown.1 holds a 1 1 us (by rw [hul]; omega) hus (by omega) (by omega) (growslice_fits (by omega) hfit)
      have hge := grownCap_ge w (n + 1) cap e
      refine ⟨_, _, hr, ⟨hlen, .inr ⟨w.heap.size, 0, _, _, rfl, hbase, heap_alloc_new w.drew _, hge, ?_, ?_⟩⟩, ⟨rfl, rfl, rfl, by simp, fun k hk _ => heap_alloc_old w.drew _ hk⟩, .inr rfl⟩
      · simp only [Array.size_append, List.size_toArray, size_zeroCells, hz1, hown.1, hul, ← Nat.add_mul]
        have : n * i.size + i.size = (n + 1) * i.size := by rw [Nat.add_mul, Nat.one_mul]
        rw [this, ← Nat.add_mul, Nat.zero_add]
        exact Nat.mul_le_mul_right _ (by omega)
      · rw [List.drop_zero]
        simp only [Array.toList_append, List.append_assoc]
        rw [← List.append_assoc, ← hlen]
        exact List.take_left
theorem does_append_q {ops : Array Oper} {o : Oper} {a : Act} {R : Value → World → Prop} (base : Nat) (hbase : base ≤ w.heap.size) (t e : TypeId) (z : Value) (size bytes : Nat) (ht : Tryz.prog.underlying t = some (.slice e)) (hinf : (Tryz.prog.info? e).map (fun i => (i.zero, i.size, i.bytes)) = some (some z, size, bytes)) (hz1 : z.cells.size = size) (hsz : 0 < size)
    (hb8 : bytes ≤ 64) (hg : o.guard = none) (s x : Operand) (ho : o.op = .call { callee := .builtin .append, args := #[s, x], argTypes := #[t, t] })
    (v : Value) (n : Nat) (xs : List Value) (hs : a.eval s = v) (hown : OwnsQ w base e size v n xs) (g : Nat) (us : List Value) (hul : us.length = size) (hu : ∀ u ∈ us, u.oneCell' = true) (hx : a.eval x = .slice (some ⟨g, 0, none⟩) 1 1) (hb : Blk w g us.toArray e) (hl : n ≤ 1000000000)
    (h : ∀ v' w', OwnsQ w' base e size v' (n + 1) (xs ++ us) → Keep (fun k => v.ownBlock = some k) w w' → (∀ b, v'.ownBlock = some b → v.ownBlock = some b ∨ w.heap.size ≤ b) → R v' w') : does Tryz.prog ops o a w R := by
  obtain ⟨v', w', hr, h2, h3, h4⟩ := run_append_q hbase t z bytes ht hinf hz1 hsz hb8 o.type hown ⟨g, 0, none⟩ us hul (fun j q hq => by
    rw [show (⟨g, 0, none⟩ : Addr).add j = ⟨g, j, none⟩ from by by_cases h0 : j = 0 <;> simp [Addr.add, h0], hb.cell j]
    simpa using hq) hu hl
  refine does_of_run hg (run_exec_append s x t ho hs hx hr) (h v' w' h2 h3 fun b hb => ?_)
  rcases h4 with e | e
  · exact .inl (e ▸ hb)
  · rw [e] at hb
    obtain rfl := Option.some.inj hb
    exact .inr (Nat.le_refl _)
end
def cntE (EL : List (Int × Int)) (m n : Nat) : Nat := ((EL.take m).filter fun e => decide (e.2 = (n : Int))).length
theorem cntE_zero (EL : List (Int × Int)) (n : Nat) : cntE EL 0 n = 0 := rfl
theorem cntE_succ {EL : List (Int × Int)} {m n : Nat} {e : Int × Int} (he : EL[m]? = some e) : cntE EL (m + 1) n = cntE EL m n + if e.2 = (n : Int) then 1 else 0 := by
  unfold cntE
  rw [List.take_add_one, he, List.filter_append, List.length_append]
  congr 1
  show (List.filter _ [e]).length = _
  rw [List.filter_cons]
  by_cases h : e.2 = (n : Int)
  · rw [if_pos (decide_eq_true h), if_pos h]; rfl
  · rw [if_neg (by simpa using h), if_neg h]; rfl
theorem srt_below : ∀ {l : List Int} {lo hi : Int}, Srt l → (∀ x ∈ l, lo ≤ x ∧ x < hi) → l.length ≤ (hi - lo).toNat
  | [], _, _, _, _ => Nat.zero_le _
  | a :: t, lo, hi, hs, hb => by
    have h1 := List.pairwise_cons.1 hs
    have h2 := srt_below (lo := a + 1) (hi := hi) h1.2 fun x hx => ⟨by have := h1.1 x hx; omega, (hb x (List.mem_cons_of_mem _ hx)).2⟩
    have h3 := hb a (List.mem_cons_self ..)
    rw [List.length_cons]
    omega
theorem cntE_few {EL : List (Int × Int)} {N : Nat} (hs : SrtP EL) (hin : ∀ e ∈ EL, 0 ≤ e.1 ∧ e.1 < (N : Int)) (m n : Nat) : cntE EL m n ≤ N := by
  unfold cntE
  rw [← List.length_map (f := Prod.fst)]
  have h := srt_below (l := ((EL.take m).filter fun e => decide (e.2 = (n : Int))).map Prod.fst) (lo := 0) (hi := (N : Int)) ?_ fun x hx => ?_
  · simpa using h
  · refine List.pairwise_map.2 ?_
    have h1 : SrtP ((EL.take m).filter fun e => decide (e.2 = (n : Int))) := (hs.sublist (List.take_sublist m EL)).sublist List.filter_sublist
    refine h1.imp_of_mem fun {a b} ha hb hab => ?_
    have e1 : a.2 = (n : Int) := by simpa using (List.mem_filter.1 ha).2
    have e2 : b.2 = (n : Int) := by simpa using (List.mem_filter.1 hb).2
    unfold lexLt at hab
    omega
  · obtain ⟨e, he, rfl⟩ := List.mem_map.1 hx
    exact hin e (List.mem_of_mem_take (List.mem_filter.1 he).1)
structure BagAt (P : PP) (has : List (List Int)) (EL : List (Int × Int)) (k m : Nat) (B : List (List Int)) : Prop where
  set : ∃ S, RoundAt P has EL k m S ∧ B.length = S.length ∧ ∀ n x, x ∈ B.getD n [] ↔ x ∈ S.getD n []
  few : ∀ n, (B.getD n []).length ≤ 1000 + k + 1000 * cntE EL m n
theorem BagAt.len {P : PP} {has : List (List Int)} {EL : List (Int × Int)} {k m : Nat} {B : List (List Int)} (h : BagAt P has EL k m B) : B.length = has.length := by
  obtain ⟨S, h1, h2, _⟩ := h.set
  exact h2.trans h1.len
theorem BagAt.start {P : PP} {has : List (List Int)} (hg : P.GoodS has) (EL : List (Int × Int)) : BagAt P has EL 0 0 has :=
  ⟨⟨has, RoundAt.start hg EL, rfl, fun _ _ => Iff.rfl⟩, fun n => by
    by_cases hn : n < has.length
    · have := srt_few (hg.ok.ok _ (getD_mem hn)).1
      omega
    · rw [List.getD_eq_getElem?_getD, List.getElem?_eq_none (by omega)]
      show (0 : Nat) ≤ _
      omega⟩
theorem BagAt.skip {P : PP} {has : List (List Int)} {EL : List (Int × Int)} {k : Nat} {B : List (List Int)} (h : BagAt P has EL k 0 B) (hb : (P.ruleV k (P.stAt k)).kind.toList ≠ bBase.toList) : BagAt P has EL (k + 1) 0 B := by
  obtain ⟨S, h1, h2, h3⟩ := h.set
  exact ⟨⟨S, h1.skip hb, h2, h3⟩, fun n => by have := h.few n; omega⟩
theorem BagAt.base {P : PP} {has : List (List Int)} {EL : List (Int × Int)} {k : Nat} {B : List (List Int)} (h : BagAt P has EL k 0 B) (hb : (P.ruleV k (P.stAt k)).kind.toList = bBase.toList) {a : Nat} {b : Int} (ha : (P.ruleV k (P.stAt k)).a = (a : Int)) (hbb : (P.ruleV k (P.stAt k)).b = b) (hb1 : 0 ≤ b ∧ b < 1000) (hal : a < has.length) :
    BagAt P has EL (k + 1) 0 (B.set a (B.getD a [] ++ [b])) := by
  obtain ⟨S, h1, h2, h3⟩ := h.set
  have hS : a < S.length := by rw [h1.len]; exact hal
  have hB : a < B.length := by rw [h2]; exact hS
  have hin : InR (S.getD a [] ++ [b]) := (chkE_zero.1 (h1.ok _ (getD_mem hS))).1.app fun x hx => by obtain rfl := List.mem_singleton.1 hx; exact hb1
  refine ⟨⟨_, h1.base hb ha hbb hb1 hal, by rw [List.length_set, List.length_set, h2], fun n x => ?_⟩, fun n => ?_⟩
  · rw [set_getD hB, set_getD hS]
    by_cases han : a = n
    · rw [if_pos han, if_pos han, mem_sset hin, List.mem_append, List.mem_append, h3]
    · rw [if_neg han, if_neg han, h3]
  · rw [set_getD hB]
    have := h.few n
    by_cases han : a = n
    · subst han
      rw [if_pos rfl, List.length_append, List.length_singleton]
      omega
    · rw [if_neg han]
      omega
theorem BagAt.edge {P : PP} {has : List (List Int)} {EL : List (Int × Int)} {k m : Nat} {B : List (List Int)} (h : BagAt P has EL k m B) {a b : Nat} (he : EL[m]? = some ((a : Int), (b : Int))) (hok : ∀ l ∈ has, chkE l = 0) (hal : a < has.length) (hbl : b < has.length) :
    BagAt P has EL k (m + 1) (B.set b (B.getD b [] ++ has.getD a [])) := by
  obtain ⟨S, h1, h2, h3⟩ := h.set
  have hS : b < S.length := by rw [h1.len]; exact hbl
  have hB : b < B.length := by rw [h2]; exact hS
  have hin : InR (S.getD b [] ++ has.getD a []) := (chkE_zero.1 (h1.ok _ (getD_mem hS))).1.app (chkE_zero.1 (hok _ (getD_mem hal))).1
  refine ⟨⟨_, h1.edge he hok hal hbl, by rw [List.length_set, List.length_set, h2], fun n x => ?_⟩, fun n => ?_⟩
  · rw [set_getD hB, set_getD hS]
    by_cases han : b = n
    · rw [if_pos han, if_pos han, mem_sset hin, List.mem_append, List.mem_append, h3]
    · rw [if_neg han, if_neg han, h3]
  · rw [set_getD hB, cntE_succ he]
    have h4 := h.few n
    have h5 := srt_few (hok _ (getD_mem hal))
    by_cases han : b = n
    · subst han
      rw [if_pos rfl, if_pos rfl, List.length_append]
      omega
    · rw [if_neg han, if_neg (fun e => han (Int.ofNat_inj.1 e))]
      omega
theorem BagAt.done {P : PP} {has : List (List Int)} (hg : P.GoodS has) {B : List (List Int)} (h : BagAt P has (P.edgesL has) P.stmts.length (P.edgesL has).length B) : B.map sset = P.roundV has := by
  obtain ⟨S, h1, h2, h3⟩ := h.set
  obtain rfl := h1.uniq (roundV_at hg)
  refine List.ext_getElem? fun n => ?_
  rw [List.getElem?_map]
  by_cases hn : n < B.length
  · have hs : n < (P.roundV has).length := by rw [← h2]; exact hn
    have ht := chkE_zero.1 (h1.ok _ (getD_mem hs))
    have e : sset (B.getD n []) = (P.roundV has).getD n [] := srt_uniq (sset_srt _) ht.2 fun x => (mem_sset (fun x hx => ht.1 x ((h3 n x).1 hx))).trans (h3 n x)
    rw [List.getD_eq_getElem?_getD, List.getD_eq_getElem?_getD, List.getElem?_eq_getElem hn, List.getElem?_eq_getElem hs] at e
    rw [List.getElem?_eq_getElem hn, List.getElem?_eq_getElem hs]
    exact congrArg some e
  · rw [List.getElem?_eq_none (by omega), List.getElem?_eq_none (by rw [← h2]; omega)]
    rfl
theorem StmtsR.own2 {w : World} {base : Nat} {v : Value} {ss : List S2} {l : List PS} (h : w.ownsRow base 73 4 v ss.length (ss.flatMap S2.cells)) (hl : ss.map S2.s = l) (hn : ∀ x ∈ ss, IntsR w w.heap.size x.v x.s.args) : StmtsR w w.heap.size v l := by
  have hll : l.length = ss.length := by rw [← hl, List.length_map]
  unfold StmtsR
  rw [hll]
  refine ElR.own h (Nat.le_refl _) fun g hc i hi f hf => ?_
  rw [← hl, List.getElem?_map] at hf
  obtain ⟨x, hx, rfl⟩ := Option.map_eq_some_iff.1 hf
  have c : ∀ j u, x.cells[j]? = some u → j < 4 → w.cell? (((⟨g, 0, none⟩ : Addr).add (i * 4)).add j) = some u := fun j u hu hj => by
    rw [add_add]
    exact hc _ _ ((fm_get S2.cells 4 S2.cells_len ss i j x hx hj).trans hu)
  exact ⟨x.v, by simpa [Addr.add] using c 0 _ rfl (by omega), c 1 _ rfl (by omega), c 2 _ rfl (by omega), c 3 _ rfl (by omega), hn x (List.mem_of_getElem? hx)⟩
structure OwnR (w : World) (n1 : Nat) (vv fv sv : Value) (P : PP) (fs : List F2) (ss : List S2) : Prop where
  vars : w.ownsRow 0 9 1 vv P.vars.length (P.vars.map .string)
  funs : w.ownsRow n1 75 3 fv P.funs.length (fs.flatMap F2.cells)
  stmts : w.ownsRow n1 73 4 sv P.stmts.length (ss.flatMap S2.cells)
  fm : fs.map F2.f = P.funs
  sm : ss.map S2.s = P.stmts
  fi : ∀ x ∈ fs, IntsT w x.v x.f.params
  si : ∀ x ∈ ss, IntsT w x.v x.s.args
theorem OwnR.ext {w w' : World} {n1 : Nat} {vv fv sv : Value} {P : PP} {fs : List F2} {ss : List S2} (h : OwnR w n1 vv fv sv P fs ss) (x : Ext w w') : OwnR w' n1 vv fv sv P fs ss :=
  ⟨own_ext h.vars x, own_ext h.funs x, own_ext h.stmts x, h.fm, h.sm, fun y hy => (h.fi y hy).ext x, fun y hy => (h.si y hy).ext x⟩
theorem OwnR.prog {w : World} {n1 : Nat} {vv fv sv : Value} {P : PP} {fs : List F2} {ss : List S2} (h : OwnR w n1 vv fv sv P fs ss) : ProgR w w.heap.size vv fv sv P := by
  have hfl : fs.length = P.funs.length := by rw [← h.fm, List.length_map]
  have hsl : ss.length = P.stmts.length := by rw [← h.sm, List.length_map]
  exact ⟨StrsR.own h.vars (Nat.le_refl _), FunsR.own (by rw [hfl]; exact h.funs) h.fm h.fi, StmtsR.own (by rw [hsl]; exact h.stmts) h.sm h.si⟩
theorem OwnR.more {w w' : World} {n1 : Nat} {vv fv sv sv' : Value} {P : PP} {fs : List F2} {ss : List S2} (h : OwnR w n1 vv fv sv P fs ss) (x : S2) (hx : IntsR w' w'.heap.size x.v x.s.args)
    (ho : w'.ownsRow n1 73 4 sv' (P.stmts.length + 1) (ss.flatMap S2.cells ++ S2.cells x)) {X : Nat → Prop} (k : Keep X w w') (hX : ∀ q, X q → ∃ c t, Blk w q c t ∧ t ≠ 9 ∧ t ≠ 75 ∧ t ≠ 3) :
    ProgR w' w'.heap.size vv fv sv' ⟨P.vars, P.funs, P.stmts ++ [x.s]⟩ := by
  have hfl : fs.length = P.funs.length := by rw [← h.fm, List.length_map]
  have hsl : ss.length = P.stmts.length := by rw [← h.sm, List.length_map]
  have hni : ∀ b, X b → ¬ IsInt w b := fun b e => by
    obtain ⟨c, t, hc, _, _, h3⟩ := hX b e
    exact notInt hc h3
  have hrk : ∀ {base : Nat} {e : TypeId} {size : Nat} {v : Value} {n : Nat} {xs : List Value}, w.ownsRow base e size v n xs → (e = 9 ∨ e = 75) → w'.ownsRow base e size v n xs := fun hr hne => row_keep hr k fun i hi e => by
    obtain ⟨c, hc⟩ := own_ty hr hi
    obtain ⟨c', t, hc', h1, h2, _⟩ := hX i e
    refine Blk.ty_ne hc hc' (fun e => ?_) rfl
    rcases hne with h | h
    · exact h1 (e.symm.trans h)
    · exact h2 (e.symm.trans h)
  refine ⟨StrsR.own (hrk h.vars (.inl rfl)) (Nat.le_refl _), FunsR.own (by rw [hfl]; exact hrk h.funs (.inr rfl)) h.fm fun x hx => (h.fi x hx).keep k hni, ?_⟩
  refine StmtsR.own2 (base := n1) (ss := ss ++ [x]) ?_ ?_ ?_
  · rw [List.flatMap_append, List.length_append, List.length_singleton, hsl]
    simpa using ho
  · rw [List.map_append, h.sm]; rfl
  · intro y hy
    rcases List.mem_append.1 hy with hy | hy
    · exact ((h.si y hy).keep k hni).1
    · obtain rfl := List.mem_singleton.1 hy
      exact hx
structure Bags (w : World) (base : Nat) (vs : List Value) (B : List (List Int)) : Prop where
  len : vs.length = B.length
  row : ∀ (i : Nat) v l, vs[i]? = some v → B[i]? = some l → IRow base w v l
  apart : ∀ (i j : Nat) v u b, i ≠ j → vs[i]? = some v → vs[j]? = some u → v.ownBlock = some b → ¬ u.ownBlock = some b
theorem Bags.nil (w : World) (base : Nat) : Bags w base [] [] := ⟨rfl, fun _ _ _ h => by simp at h, fun _ _ _ _ _ _ h => by simp at h⟩
theorem Bags.made {w : World} {base : Nat} {vs : List Value} {B : List (List Int)} (h : Bags w base vs B) : Made w vs B := ⟨h.len, fun i v l h1 h2 => IntsT.of_row (h.row i v l h1 h2)⟩
theorem Bags.keep {X : Nat → Prop} {w w' : World} {base : Nat} {vs : List Value} {B : List (List Int)} (h : Bags w base vs B) (k : Keep X w w') (hX : ∀ b, X b → ¬ IsInt w b) : Bags w' base vs B :=
  ⟨h.len, fun i v l h1 h2 => row_keep (h.row i v l h1 h2) k fun b hb hx => hX b hx (by
    obtain ⟨c, hc⟩ := own_ty (h.row i v l h1 h2) hb
    exact ⟨c, _, hc⟩), h.apart⟩
theorem Bags.ext {w w' : World} {base : Nat} {vs : List Value} {B : List (List Int)} (h : Bags w base vs B) (x : Ext w w') : Bags w' base vs B := h.keep (x.keep fun _ => False) fun _ h => h.elim
theorem Bags.push {w w' : World} {base : Nat} {vs : List Value} {B : List (List Int)} (h : Bags w base vs B) (x : Ext w w') {v : Value} {l : List Int} (hr : IRow base w' v l) (hn : ∀ b, v.ownBlock = some b → w.heap.size ≤ b) : Bags w' base (vs ++ [v]) (B ++ [l]) := by
  have hlt : ∀ (i : Nat) u b, vs[i]? = some u → u.ownBlock = some b → b < w.heap.size := fun i u b hu hb => by
    have hi : i < vs.length := by
      rcases Nat.lt_or_ge i vs.length with g | g
      · exact g
      · rw [List.getElem?_eq_none g] at hu; cases hu
    obtain ⟨m, hm⟩ : ∃ m, B[i]? = some m := ⟨_, List.getElem?_eq_getElem (by rw [← h.len]; exact hi)⟩
    exact (World.ownsRow.lt (h.row i u m hu hm) b hb).2
  have hat : ∀ (i : Nat) u, (vs ++ [v])[i]? = some u → (i < vs.length ∧ vs[i]? = some u) ∨ (i = vs.length ∧ u = v) := fun i u hu => by
    rcases Nat.lt_trichotomy i vs.length with g | g | g
    · rw [List.getElem?_append_left g] at hu
      exact .inl ⟨g, hu⟩
    · subst g
      rw [List.getElem?_concat_length] at hu
      exact .inr ⟨rfl, (Option.some.inj hu).symm⟩
    · rw [List.getElem?_eq_none (by rw [List.length_append, List.length_singleton]; omega)] at hu
      cases hu
  refine ⟨by rw [List.length_append, List.length_append, h.len]; rfl, fun i u m hu hm => ?_, fun i j u z b hij hu hz hb hz' => ?_⟩
  · rcases hat i u hu with ⟨hi, hu'⟩ | ⟨rfl, rfl⟩
    · rw [List.getElem?_append_left (by rw [← h.len]; exact hi)] at hm
      exact (h.ext x).row i u m hu' hm
    · rw [h.len, List.getElem?_concat_length] at hm
      obtain rfl := Option.some.inj hm
      exact hr
  · rcases hat i u hu with ⟨hi, hu'⟩ | ⟨hi, rfl⟩ <;> rcases hat j z hz with ⟨hj, hz''⟩ | ⟨hj, rfl⟩
    · exact h.apart i j u z b hij hu' hz'' hb hz'
    · have := hlt i u b hu' hb
      have := hn b hz'
      omega
    · have := hlt j z b hz'' hz'
      have := hn b hb
      omega
    · omega
theorem Bags.app {w w' : World} {base i : Nat} {vs : List Value} {B : List (List Int)} (h : Bags w base vs B) (hi : i < vs.length) {v v' : Value} {l' : List Int} (hv : vs[i]? = some v) (hr : IRow base w' v' l') (k : Keep (fun q => v.ownBlock = some q) w w') (hb : ∀ b, v'.ownBlock = some b → v.ownBlock = some b ∨ w.heap.size ≤ b) :
    Bags w' base (vs.set i v') (B.set i l') := by
  have hlt : ∀ (j : Nat) u b, vs[j]? = some u → u.ownBlock = some b → b < w.heap.size := fun j u b hu hb => by
    have hj : j < vs.length := by
      rcases Nat.lt_or_ge j vs.length with g | g
      · exact g
      · rw [List.getElem?_eq_none g] at hu; cases hu
    obtain ⟨m, hm⟩ : ∃ m, B[j]? = some m := ⟨_, List.getElem?_eq_getElem (by rw [← h.len]; exact hj)⟩
    exact (World.ownsRow.lt (h.row j u m hu hm) b hb).2
  have hoff : ∀ (j : Nat) u b, j ≠ i → vs[j]? = some u → v'.ownBlock = some b → ¬ u.ownBlock = some b := fun j u b hj hu hb' hu' => by
    rcases hb b hb' with g | g
    · exact h.apart i j v u b (fun e => hj e.symm) hv hu g hu'
    · have := hlt j u b hu hu'
      omega
  refine ⟨by rw [List.length_set, List.length_set, h.len], fun j u m hu hm => ?_, fun p q u z b hpq hu hz hb' hz' => ?_⟩
  · by_cases hj : i = j
    · subst hj
      rw [List.getElem?_set_self hi] at hu
      rw [List.getElem?_set_self (by rw [← h.len]; exact hi)] at hm
      obtain rfl := Option.some.inj hu
      obtain rfl := Option.some.inj hm
      exact hr
    · rw [List.getElem?_set_ne hj] at hu hm
      exact row_keep (h.row j u m hu hm) k fun b hb1 hb2 => h.apart i j v u b hj hv hu hb2 hb1
  · by_cases hp : i = p
    · subst hp
      rw [List.getElem?_set_self hi] at hu
      obtain rfl := Option.some.inj hu
      rw [List.getElem?_set_ne hpq] at hz
      exact hoff q z b (fun e => hpq e.symm) hz hb' hz'
    · rw [List.getElem?_set_ne hp] at hu
      by_cases hq : i = q
      · subst hq
        rw [List.getElem?_set_self hi] at hz
        obtain rfl := Option.some.inj hz
        exact hoff p u b hpq hu hz' hb'
      · rw [List.getElem?_set_ne hq] at hz
        exact h.apart p q u z b hpq hu hz hb' hz'
def trCells (l : List Bool) : List Value := l.map Value.bool
def TrRow (base : Nat) (w : World) (v : Value) (l : List Bool) : Prop := w.ownsRow base 4 1 v l.length (trCells l)
def IsB (w : World) (b : Nat) : Prop := ∃ c, Blk w b c 4
structure BBags (w : World) (base : Nat) (vs : List Value) (B : List (List Bool)) : Prop where
  len : vs.length = B.length
  row : ∀ (i : Nat) v l, vs[i]? = some v → B[i]? = some l → TrRow base w v l
  apart : ∀ (i j : Nat) v u b, i ≠ j → vs[i]? = some v → vs[j]? = some u → v.ownBlock = some b → ¬ u.ownBlock = some b
section
variable {w w' : World} {base : Nat} {vs : List Value} {B : List (List Bool)}
theorem BBags.nil (w : World) (base : Nat) : BBags w base [] [] := ⟨rfl, fun _ _ _ h => by simp at h, fun _ _ _ _ _ _ h => by simp at h⟩
theorem BBags.keep {X : Nat → Prop} (h : BBags w base vs B) (k : Keep X w w') (hX : ∀ b, X b → ¬ IsB w b) : BBags w' base vs B :=
  ⟨h.len, fun i v l h1 h2 => row_keep (h.row i v l h1 h2) k fun b hb hx => hX b hx (own_ty (h.row i v l h1 h2) hb), h.apart⟩
theorem BBags.ext (h : BBags w base vs B) (x : Ext w w') : BBags w' base vs B := h.keep (x.keep fun _ => False) fun _ h => h.elim
theorem BBags.at (h : BBags w base vs B) {i : Nat} (hi : i < B.length) : ∃ v l, vs[i]? = some v ∧ B[i]? = some l ∧ TrRow base w v l :=
  ⟨vs[i]'(by rw [h.len]; exact hi), B[i], List.getElem?_eq_getElem _, List.getElem?_eq_getElem _, h.row i _ _ (List.getElem?_eq_getElem _) (List.getElem?_eq_getElem _)⟩
theorem BBags.push (h : BBags w base vs B) (x : Ext w w') {v : Value} {l : List Bool} (hr : TrRow base w' v l) (hn : ∀ b, v.ownBlock = some b → w.heap.size ≤ b) : BBags w' base (vs ++ [v]) (B ++ [l]) := by
  have hlt : ∀ (i : Nat) u b, vs[i]? = some u → u.ownBlock = some b → b < w.heap.size := fun i u b hu hb => by
    have hi : i < vs.length := by
      rcases Nat.lt_or_ge i vs.length with g | g
      · exact g
      · rw [List.getElem?_eq_none g] at hu; cases hu
    obtain ⟨m, hm⟩ : ∃ m, B[i]? = some m := ⟨_, List.getElem?_eq_getElem (by rw [← h.len]; exact hi)⟩
    exact (World.ownsRow.lt (h.row i u m hu hm) b hb).2
  have hat : ∀ (i : Nat) u, (vs ++ [v])[i]? = some u → (i < vs.length ∧ vs[i]? = some u) ∨ (i = vs.length ∧ u = v) := fun i u hu => by
    rcases Nat.lt_trichotomy i vs.length with g | g | g
    · rw [List.getElem?_append_left g] at hu
      exact .inl ⟨g, hu⟩
    · subst g
      rw [List.getElem?_concat_length] at hu
      exact .inr ⟨rfl, (Option.some.inj hu).symm⟩
    · rw [List.getElem?_eq_none (by rw [List.length_append, List.length_singleton]; omega)] at hu
      cases hu
  refine ⟨by rw [List.length_append, List.length_append, h.len]; rfl, fun i u m hu hm => ?_, fun i j u z b hij hu hz hb hz' => ?_⟩
  · rcases hat i u hu with ⟨hi, hu'⟩ | ⟨rfl, rfl⟩
    · rw [List.getElem?_append_left (by rw [← h.len]; exact hi)] at hm
      exact (h.ext x).row i u m hu' hm
    · rw [h.len, List.getElem?_concat_length] at hm
      obtain rfl := Option.some.inj hm
      exact hr
  · rcases hat i u hu with ⟨hi, hu'⟩ | ⟨hi, rfl⟩ <;> rcases hat j z hz with ⟨hj, hz''⟩ | ⟨hj, rfl⟩
    · exact h.apart i j u z b hij hu' hz'' hb hz'
    · have := hlt i u b hu' hb
      have := hn b hz'
      omega
    · have := hlt j z b hz'' hz'
      have := hn b hb
      omega
    · omega
theorem BBags.set {i j g cap n : Nat} {l : List Bool} (h : BBags w base vs B) (hv : vs[i]? = some (.slice (some ⟨g, 0, none⟩) n cap)) (hl : B[i]? = some l) (hj : j < l.length) (x : Bool) :
    BBags (w.setCell ⟨g, j, none⟩ (.bool x)) base vs (B.set i (l.set j x)) := by
  have hi : i < B.length := by
    rcases Nat.lt_or_ge i B.length with k | k
    · exact k
    · rw [List.getElem?_eq_none k] at hl; cases hl
  have hk : Keep (fun q => q = g) w (w.setCell ⟨g, j, none⟩ (.bool x)) := (Keep.refl (fun q => q = g) w).set rfl _
  refine ⟨by rw [List.length_set]; exact h.len, fun p u m hu hm => ?_, h.apart⟩
  by_cases hp : i = p
  · subst hp
    rw [List.getElem?_set_self hi] at hm
    obtain rfl := Option.some.inj hm
    obtain rfl := Option.some.inj (hv.symm.trans hu)
    have hr := h.row i _ l hv hl
    unfold TrRow at hr ⊢
    obtain ⟨a', c', e'⟩ := row_form hr
    simp only [Value.slice.injEq] at e'
    obtain ⟨rfl, rfl, rfl⟩ := e'
    rw [List.length_set, show trCells (l.set j x) = (trCells l).set j (.bool x) by unfold trCells; rw [List.map_set]]
    exact own_set hr j (by unfold trCells; rw [List.length_map]; exact hj) _
  · rw [List.getElem?_set_ne hp] at hm
    exact row_keep (h.row p u m hu hm) hk fun b hb1 hb2 => h.apart i p _ u b hp hv hu (by subst hb2; rfl) hb1
end
def fCells (f : Int × Int) : List Value := [.int .i64 f.1, .int .i64 f.2]
def rowOf (f1 : Int → Option Value) (n : Int) : Value := (f1 n).getD (.slice none 0 0)
def seenF (l : List (Int × Int)) (e : Int × Int) : Option Value := if e ∈ l then some (.bool true) else none
def solvCells (a1 a2 a3 : Option Addr) (c1 c2 c3 : Nat) (P : PP) (vr vh : Value) (m1 m2 : Nat) (vw : Value) : Array Value :=
  #[.slice a1 P.vars.length c1, .slice a2 P.funs.length c2, .slice a3 P.stmts.length c3, vr, vh, .map (some m1), .map (some m2), .slice none 0 0, vw]
theorem KMap.not_blk {κ : Type} [DecidableEq κ] {Q : Program} {kt : TypeId} {enc : κ → Value} {w : World} {b : Nat} {f : κ → Option Value} (h : KMap Q kt enc w b f) {c : Array Value} {e : TypeId} : ¬ Blk w b c e := fun hb => h.ne hb rfl
theorem own_off {w w' : World} {base : Nat} {e : TypeId} {size n : Nat} {v : Value} {xs : List Value} {X : Nat → Prop} (h : w.ownsRow base e size v n xs) (k : Keep X w w') (hX : ∀ b, X b → ¬ ∃ c, Blk w b c e) : w'.ownsRow base e size v n xs :=
  row_keep h k fun b hb hx => hX b hx (own_ty h hb)
theorem OwnsQ.off {w w' : World} {base : Nat} {e : TypeId} {size n : Nat} {v : Value} {xs : List Value} {X : Nat → Prop} (h : OwnsQ w base e size v n xs) (k : Keep X w w') (hX : ∀ b, X b → ¬ ∃ c, Blk w b c e) : OwnsQ w' base e size v n xs :=
  h.keep k fun b hb hx => hX b hx (h.ty hb).2
theorem off_of {w : World} {b : Nat} {c : Array Value} {e e' : TypeId} (h : Blk w b c e) (hne : e ≠ e') : ¬ ∃ c, Blk w b c e' := by
  rintro ⟨c', h'⟩
  have := h.symm.trans h'
  simp at this
  exact hne this.2
section
variable {w w' : World} {G F : Nat → Prop} {g : Nat} {ad : Nat → Addr} {a1 a2 a3 : Option Addr} {c1 c2 c3 : Nat} {P : PP} {vr : Value} {rs : List R2} {vh : Value} {hs : List Value} {m1 m2 : Nat} {f1 : Int → Option Value} {vw : Value} {s : SV}
end
theorem int_info1 : (Tryz.prog.info? 3).map (fun i => (i.zero, i.size, i.bytes)) = some (some (.int .i64 0), 1, 8) := by kernel_rfl
theorem zero_bool (w : World) : (zeroValue 4).run Tryz.prog w = .ok (.bool false) w := by kernel_rfl
def objsUp (l : List Bool) (k : Nat) : List Int := ((List.range k).filter fun o => l.getD o false).map fun o : Nat => (o : Int)
def Stm (w : World) (b : Nat) : Prop := ∃ es clock, w.heap[b]? = some (.map es clock) ∧ (∀ x ∈ es.toList, x.born < clock) ∧ (es.toList.map (·.born)).Nodup
theorem Stm.keep {X : Nat → Prop} {w w' : World} {b : Nat} (h : Stm w b) (k : Keep X w w') (hx : ¬ X b) : Stm w' b := by
  obtain ⟨es, c, h1, h2⟩ := h
  exact ⟨es, c, Keep.get k h1 hx, h2⟩
theorem Stm.new (w : World) : Stm (w.alloc (.map #[] 0)) w.heap.size := ⟨#[], 0, heap_alloc_new w _, fun _ h => by simp at h, List.nodup_nil⟩
def InM (f : Int → Option Value) (q : Nat) : Prop := ∃ n, f n = some (.map (some q))
def setF (M : List (Int × Int)) (n : Int) (o : Int) : Option Value := if (n, o) ∈ M then some (.bool true) else none
structure MM (w : World) (m : Nat) (M : List (Int × Int)) (f : Int → Option Value) : Prop where
  map : KMap Tryz.prog 3 (Value.int .i64) w m f
  ne : ∀ q, InM f q → q ≠ m
  val : ∀ n, (f n = none ∧ ∀ o, (n, o) ∉ M) ∨ ∃ q, f n = some (.map (some q)) ∧ KMap Tryz.prog 3 (Value.int .i64) w q (setF M n) ∧ Stm w q
  apart : ∀ n l q, n ≠ l → f n = some (.map (some q)) → f l ≠ some (.map (some q))
section
variable {w w' : World} {m : Nat} {M : List (Int × Int)} {f : Int → Option Value}
theorem MM.keep {X : Nat → Prop} (h : MM w m M f) (k : Keep X w w') (h0 : ¬ X m) (h1 : ∀ q, InM f q → ¬ X q) : MM w' m M f :=
  ⟨h.map.keep k h0, h.ne, fun n => (h.val n).imp id fun ⟨q, g1, g2, g3⟩ => ⟨q, g1, g2.keep k (h1 q ⟨n, g1⟩), g3.keep k (h1 q ⟨n, g1⟩)⟩, h.apart⟩
theorem MM.ext (h : MM w m M f) (x : Ext w w') : MM w' m M f := h.keep (x.keep fun _ => False) (fun h => h) fun _ _ h => h
theorem MM.in_map (h : MM w m M f) {q : Nat} (hq : InM f q) : ∃ g, KMap Tryz.prog 3 (Value.int .i64) w q g := by
  obtain ⟨n, hn⟩ := hq
  rcases h.val n with ⟨g, _⟩ | ⟨p, g1, g2, g3⟩
  · rw [g] at hn; cases hn
  · rw [g1] at hn
    simp only [Option.some.injEq, Value.map.injEq] at hn
    exact ⟨_, hn ▸ g2⟩
theorem MM.in_lt (h : MM w m M f) {q : Nat} (hq : InM f q) : q < w.heap.size := by
  obtain ⟨g, hg⟩ := h.in_map hq
  exact hg.lt
theorem MM.in_blk (h : MM w m M f) {q : Nat} (hq : InM f q) {c : Array Value} {e : TypeId} : ¬ Blk w q c e := by
  obtain ⟨g, hg⟩ := h.in_map hq
  exact hg.not_blk
theorem MM.look1 (h : MM w m M f) {b : Int} (hb : 0 ≤ b ∧ b < 1000000) : (Instr.lookup 86 (.map (some m)) (.int .i64 b) false).run Tryz.prog w = .ok ((f b).getD (.map none)) w := by
  obtain ⟨k, hk⟩ := key_int hb
  have := run_kmap_lookup int_keyed64 intV_inj Tryz.underlying86 h.map hk (Tryz.zeroValue99 w) false
  rw [this]; rfl
theorem look_nilm (w : World) {a : Int} (ha : 0 ≤ a ∧ a < 1000000) : (Instr.lookup 99 (.map none) (.int .i64 a) false).run Tryz.prog w = .ok (.bool false) w := by
  obtain ⟨k, hk⟩ := key_int ha
  unfold Instr.lookup
  simp [run_underlying Tryz.underlying99, int_keyed64.check w _ hk, Instr.findKey, Instr.findNow, zero_bool, Result.andThen]
theorem look_setm {w : World} {q : Nat} {n : Int} (h : KMap Tryz.prog 3 (Value.int .i64) w q (setF M n)) {a : Int} (ha : 0 ≤ a ∧ a < 1000000) : (Instr.lookup 99 (.map (some q)) (.int .i64 a) false).run Tryz.prog w = .ok (.bool (decide ((n, a) ∈ M))) w := by
  obtain ⟨l, hl⟩ := key_int ha
  have := run_kmap_lookup int_keyed64 intV_inj Tryz.underlying99 h hl (zero_bool w) false
  rw [this]
  unfold setF
  by_cases hm : (n, a) ∈ M
  · rw [if_pos hm, decide_eq_true hm]; rfl
  · rw [if_neg hm, decide_eq_false hm]; rfl
theorem MM.look2 (h : MM w m M f) {b a : Int} (hb : 0 ≤ b ∧ b < 1000000) (ha : 0 ≤ a ∧ a < 1000000) : ∃ v, (f b).getD (.map none) = .map v ∧ (Instr.lookup 86 (.map (some m)) (.int .i64 b) false).run Tryz.prog w = .ok (.map v) w ∧ (Instr.lookup 99 (.map v) (.int .i64 a) false).run Tryz.prog w = .ok (.bool (decide ((b, a) ∈ M))) w := by
  have h1 := h.look1 hb
  rcases h.val b with ⟨g1, g2⟩ | ⟨q, g1, g2, g3⟩
  · rw [g1] at h1 ⊢
    exact ⟨none, rfl, h1, by rw [decide_eq_false (g2 a)]; exact look_nilm w ha⟩
  · rw [g1] at h1 ⊢
    exact ⟨some q, rfl, h1, look_setm g2 ha⟩
end
theorem run_kmap_put_stm {w : World} {b : Nat} {f : Int → Option Value} {t et : TypeId} (ht : Tryz.prog.underlying t = some (.map 3 et)) (h : KMap Tryz.prog 3 (Value.int .i64) w b f) (hs : Stm w b) {k : Int} (hk0 : 0 ≤ k ∧ k < 1000000) (v : Value) :
    ∃ w', (Instr.mapUpdate t (.map (some b)) (.int .i64 k) v).run Tryz.prog w = .ok () w' ∧ KMap Tryz.prog 3 (Value.int .i64) w' b (fun q => if q = k then some v else f q) ∧ Stm w' b ∧ Keep (fun q => q = b) w w' := by
  obtain ⟨l, hl⟩ := key_int hk0
  obtain ⟨w', hrun, h1, h2⟩ := run_kmap_put int_keyed64 intV_inj ht h hl v
  refine ⟨w', hrun, h1, ?_, h2⟩
  obtain ⟨es, cl, hb, hlt, hnd⟩ := hs
  obtain ⟨es', cl', m, hb', he, hn, hkk, hf⟩ := h
  rw [hb] at hb'
  obtain ⟨rfl, rfl⟩ : es = es' ∧ cl = cl' := by simpa using hb'
  rcases KMap.found (w := w) int_keyed64 intV_inj he hn hkk hl with ⟨g1, _⟩ | ⟨j, e, u, g1, _, g3, g4⟩
  · have hr : (Instr.mapUpdate t (.map (some b)) (.int .i64 k) v).run Tryz.prog w = .ok () (Go.ChangeMaps.setBlock w b (.map (es.push { key := .int .i64 k, val := v, born := cl }) (cl + 1))) := by
      unfold Instr.mapUpdate
      simp [run_underlying ht, Go.MapKept.run_getObj_map hb, int_keyed64.check w _ hl, g1, Go.MapKept.run_setObj_map _ hb, Result.andThen, Go.ChangeMaps.setBlock]
    rw [hr] at hrun
    injection hrun with _ hw'
    subst hw'
    refine ⟨_, _, (Go.MapKept.heap_set hb).1, fun x hx => ?_, ?_⟩
    · rw [Array.toList_push] at hx
      rcases List.mem_append.1 hx with hx | hx
      · have := hlt x hx; omega
      · rw [List.mem_singleton.1 hx]; exact Nat.lt_succ_self _
    · rw [Array.toList_push, List.map_append, List.nodup_append]
      refine ⟨hnd, by simp, fun a ha c hc => ?_⟩
      obtain ⟨x, hx, rfl⟩ := List.mem_map.1 ha
      simp at hc
      have := hlt x hx
      omega
  · have hr : (Instr.mapUpdate t (.map (some b)) (.int .i64 k) v).run Tryz.prog w = .ok () (Go.ChangeMaps.setBlock w b (.map (es.modify j fun e => { e with key := .int .i64 k, val := v }) cl)) := by
      unfold Instr.mapUpdate
      simp [run_underlying ht, Go.MapKept.run_getObj_map hb, int_keyed64.check w _ hl, g1, g3, g4, int_keyed64.stays w hl, Go.MapKept.run_setObj_map _ hb, Result.andThen, Go.ChangeMaps.setBlock]
    rw [hr] at hrun
    injection hrun with _ hw'
    subst hw'
    have hbm : (es.modify j fun e => { e with key := .int .i64 k, val := v }).toList.map (·.born) = es.toList.map (·.born) := by
      refine List.ext_getElem? fun i => ?_
      rw [List.getElem?_map, List.getElem?_map, Array.getElem?_toList, Array.getElem?_modify, Array.getElem?_toList]
      by_cases hi : j = i
      · subst hi
        rw [if_pos rfl, g3]; rfl
      · rw [if_neg hi]
    refine ⟨_, _, (Go.MapKept.heap_set hb).1, fun x hx => ?_, by rw [hbm]; exact hnd⟩
    have : x.born ∈ es.toList.map (·.born) := by rw [← hbm]; exact List.mem_map.2 ⟨x, hx, rfl⟩
    obtain ⟨y, hy, hyx⟩ := List.mem_map.1 this
    rw [← hyx]; exact hlt y hy
structure N2 where
  n : NV
  v : Value
def N2.cells (x : N2) : List Value := [.int .i64 x.n.to, .int .u8 x.n.kind, x.v]
structure SC where
  P : PP
  me : Nat
  k : Nat
  vv : Value
  vf : Value
  vs : Value
  vr : Value
  rs : List R2
def shCells (c : SC) (m1 m2 : Nat) (vt vo : Value) : Array Value :=
  #[c.vv, c.vf, c.vs, c.vr, .int .i64 (c.me : Nat), .int .i64 (c.k : Nat), .int .i64 (c.P.nodesV : Nat), .int .i64 (c.P.objectsV : Nat), .map (some m1), .map (some m2), vt, vo]
structure ShK (w : World) (G : Nat → Prop) (c : SC) : Prop where
  well : c.P.Well
  funs : FunsF w G c.vf c.P.funs
  rrow : w.ownsRow 0 90 5 c.vr c.P.rulesV.length (c.rs.flatMap R2.cells)
  req : c.rs.map R2.r = c.P.rulesV
  rf : ∀ b, c.vr.ownBlock = some b → G b
  rargs : ∀ x ∈ c.rs, IntsF w G x.v x.r.args
  me : c.me < c.k ∧ c.k ≤ 6
theorem ShK.keep {w w' : World} {G X : Nat → Prop} {c : SC} (h : ShK w G c) (k : Keep X w w') (hX : ∀ b, G b → ¬ X b) : ShK w' G c :=
  ⟨h.well, h.funs.keep k hX fun _ h => h, row_keep h.rrow k fun b hb => hX b (h.rf b hb), h.req, h.rf, fun x hx => (h.rargs x hx).keep k hX fun _ h => h, h.me⟩
def ShOwn (g m1 m2 : Nat) (f1 f2 : Int → Option Value) (vt vo : Value) (b : Nat) : Prop :=
  b = g ∨ b = m1 ∨ b = m2 ∨ InM f1 b ∨ InM f2 b ∨ vt.ownBlock = some b ∨ vo.ownBlock = some b
structure ShB (w : World) (G F : Nat → Prop) (g : Nat) (c : SC) (m1 m2 : Nat) (f1 f2 : Int → Option Value) (vt vo : Value) (ts os : List N2) (s : SH) : Prop where
  blk : Blk w g (shCells c m1 m2 vt vo) 88
  own : ∀ b, ShOwn g m1 m2 f1 f2 vt vo b → ¬ F b
  gf : ∀ b, G b → F b
  flt : ∀ b, F b → b < w.heap.size
  con : ShK w G c
  mm1 : MM w m1 s.has f1
  mm2 : MM w m2 s.nxt f2
  m12 : m1 ≠ m2
  a12 : ∀ q, InM f1 q → q ≠ m2 ∧ ¬ InM f2 q
  a21 : ∀ q, InM f2 q → q ≠ m1
  tq : OwnsQ w 0 58 3 vt s.todo.length (ts.flatMap N2.cells)
  tn : ts.map N2.n = s.todo
  tr : ∀ x ∈ ts, IRow 0 w x.v x.n.nums
  oq : OwnsQ w 0 58 3 vo s.out.length (os.flatMap N2.cells)
  on : os.map N2.n = s.out
  or : ∀ x ∈ os, IRow 0 w x.v x.n.nums
  ne : ∀ b, vt.ownBlock = some b → ¬ vo.ownBlock = some b
def ShAt (w : World) (G F : Nat → Prop) (g : Nat) (c : SC) (s : SH) : Prop := ∃ m1 m2 f1 f2 vt vo ts os, ShB w G F g c m1 m2 f1 f2 vt vo ts os s
section
variable {w w' : World} {G F : Nat → Prop} {g : Nat} {c : SC} {m1 m2 : Nat} {f1 f2 : Int → Option Value} {vt vo : Value} {ts os : List N2} {s : SH}
theorem ShB.own_lt (h : ShB w G F g c m1 m2 f1 f2 vt vo ts os s) {b : Nat} (hb : ShOwn g m1 m2 f1 f2 vt vo b) : b < w.heap.size := by
  rcases hb with rfl | rfl | rfl | hb | hb | hb | hb
  · exact h.blk.lt
  · exact h.mm1.map.lt
  · exact h.mm2.map.lt
  · exact h.mm1.in_lt hb
  · exact h.mm2.in_lt hb
  · obtain ⟨_, c, hc⟩ := h.tq.ty hb; exact hc.lt
  · obtain ⟨_, c, hc⟩ := h.oq.ty hb; exact hc.lt
theorem ShB.keep {X : Nat → Prop} (h : ShB w G F g c m1 m2 f1 f2 vt vo ts os s) (k : Keep X w w') (hG : ∀ b, G b → ¬ X b) (hO : ∀ b, ShOwn g m1 m2 f1 f2 vt vo b → ¬ X b) (h1 : ∀ x ∈ ts, IRow 0 w' x.v x.n.nums) (h2 : ∀ x ∈ os, IRow 0 w' x.v x.n.nums) : ShB w' G F g c m1 m2 f1 f2 vt vo ts os s :=
  ⟨h.blk.keep k (hO _ (.inl rfl)), h.own, h.gf, fun b hb => Nat.lt_of_lt_of_le (h.flt b hb) k.size, h.con.keep k hG, h.mm1.keep k (hO _ (.inr (.inl rfl))) fun q hq => hO _ (.inr (.inr (.inr (.inl hq)))), h.mm2.keep k (hO _ (.inr (.inr (.inl rfl)))) fun q hq => hO _ (.inr (.inr (.inr (.inr (.inl hq))))), h.m12, h.a12, h.a21,
    h.tq.keep k fun b hb => hO _ (.inr (.inr (.inr (.inr (.inr (.inl hb)))))), h.tn, h1, h.oq.keep k fun b hb => hO _ (.inr (.inr (.inr (.inr (.inr (.inr hb)))))), h.on, h2, h.ne⟩
theorem ShB.ext (h : ShB w G F g c m1 m2 f1 f2 vt vo ts os s) (x : Ext w w') : ShB w' G F g c m1 m2 f1 f2 vt vo ts os s :=
  h.keep (x.keep fun _ => False) (fun _ _ h => h) (fun _ _ h => h) (fun y hy => own_ext (h.tr y hy) x) fun y hy => own_ext (h.or y hy) x
theorem ShAt.ext (h : ShAt w G F g c s) (x : Ext w w') : ShAt w' G F g c s := by
  obtain ⟨m1, m2, f1, f2, vt, vo, ts, os, h⟩ := h
  exact ⟨m1, m2, f1, f2, vt, vo, ts, os, h.ext x⟩
theorem ShB.turn {F' : Nat → Prop} (h : ShB w G F g c m1 m2 f1 f2 vt vo ts os s) (hO : ∀ b, ShOwn g m1 m2 f1 f2 vt vo b → ¬ F' b) (hG : ∀ b, G b → F' b) (hl : ∀ b, F' b → b < w.heap.size) : ShB w G F' g c m1 m2 f1 f2 vt vo ts os s :=
  ⟨h.blk, hO, hG, hl, h.con, h.mm1, h.mm2, h.m12, h.a12, h.a21, h.tq, h.tn, h.tr, h.oq, h.on, h.or, h.ne⟩
theorem ShB.frz (h : ShB w G F g c m1 m2 f1 f2 vt vo ts os s) (x : Ext w w') : ShB w' G (fun b => F b ∨ (w.heap.size ≤ b ∧ b < w'.heap.size)) g c m1 m2 f1 f2 vt vo ts os s :=
  (h.ext x).turn (fun b hb hx => hx.elim (h.own b hb) fun q => by have := h.own_lt hb; omega) (fun b hb => .inl (h.gf b hb)) fun b hb => hb.elim (fun q => Nat.lt_of_lt_of_le (h.flt b q) x.size) fun q => q.2
theorem ShAt.frz (h : ShAt w G F g c s) (x : Ext w w') : ShAt w' G (fun b => F b ∨ (w.heap.size ≤ b ∧ b < w'.heap.size)) g c s := by
  obtain ⟨m1, m2, f1, f2, vt, vo, ts, os, h⟩ := h
  exact ⟨m1, m2, f1, f2, vt, vo, ts, os, h.frz x⟩
theorem ShAt.less {F' : Nat → Prop} (h : ShAt w G F' g c s) (hG : ∀ b, G b → F b) (hF : ∀ b, F b → F' b) : ShAt w G F g c s := by
  obtain ⟨m1, m2, f1, f2, vt, vo, ts, os, h⟩ := h
  exact ⟨m1, m2, f1, f2, vt, vo, ts, os, h.turn (fun b hb hx => h.own b hb (hF b hx)) hG fun b hb => h.flt b (hF b hb)⟩
theorem ShAt.whole (h : ShAt w G F g c s) : ∃ F' : Nat → Prop, (∀ b, F b → F' b) ∧ ShAt w G F' g c s ∧ ∃ O : Nat → Prop, ∀ b, F' b ↔ b < w.heap.size ∧ ¬ O b := by
  obtain ⟨m1, m2, f1, f2, vt, vo, ts, os, h⟩ := h
  refine ⟨fun b => b < w.heap.size ∧ ¬ ShOwn g m1 m2 f1 f2 vt vo b, fun b hb => ⟨h.flt b hb, fun q => h.own b q hb⟩, ⟨m1, m2, f1, f2, vt, vo, ts, os, h.turn (fun b hb hx => hx.2 hb) (fun b hb => ⟨h.flt b (h.gf b hb), fun q => h.own b q (h.gf b hb)⟩) fun b hb => hb.1⟩, _, fun b => Iff.rfl⟩
theorem ShB.tblk (h : ShB w G F g c m1 m2 f1 f2 vt vo ts os s) {b : Nat} (hb : vt.ownBlock = some b) : ∃ c, Blk w b c 58 := (h.tq.ty hb).2
theorem ShB.oblk (h : ShB w G F g c m1 m2 f1 f2 vt vo ts os s) {b : Nat} (hb : vo.ownBlock = some b) : ∃ c, Blk w b c 58 := (h.oq.ty hb).2
theorem ShB.setTodo (h : ShB w G F g c m1 m2 f1 f2 vt vo ts os s) (k : Keep (fun q => vt.ownBlock = some q) w w') {vt' : Value} {ts' : List N2} {l : List NV} (hn : ts'.map N2.n = l) (hq : OwnsQ w' 0 58 3 vt' l.length (ts'.flatMap N2.cells)) (hr : ∀ x ∈ ts', IRow 0 w' x.v x.n.nums) (ho : ∀ b, vt'.ownBlock = some b → vt.ownBlock = some b ∨ w.heap.size ≤ b) :
    ShB (w'.setCell ⟨g, 10, none⟩ vt') G F g c m1 m2 f1 f2 vt' vo ts' os { s with todo := l } := by
  have hg : ¬ vt.ownBlock = some g := fun hb => by
    obtain ⟨c', hc⟩ := h.tblk hb
    exact off_of hc (by decide) ⟨_, h.blk⟩
  have k1 := h.blk.keep k hg
  have kk : Keep (fun q => q = g ∨ vt.ownBlock = some q) w (w'.setCell ⟨g, 10, none⟩ vt') := (k.mono fun _ _ h => .inr h).set (.inl rfl) _
  have hoff : ∀ {e : TypeId}, 58 ≠ e → 88 ≠ e → ∀ b, (b = g ∨ vt.ownBlock = some b) → ¬ ∃ c, Blk w b c e := fun he1 he2 b hb => hb.elim (fun e => by rw [e]; exact off_of h.blk he2) fun hb => by
    obtain ⟨c', hc⟩ := h.tblk hb
    exact off_of hc he1
  have hG : ∀ b, G b → ¬ (b = g ∨ vt.ownBlock = some b) := fun b hb hx => hx.elim (fun e => h.own b (.inl e) (h.gf b hb)) fun e => h.own b (.inr (.inr (.inr (.inr (.inr (.inl e)))))) (h.gf b hb)
  have hmap : ∀ {b : Nat} {f : Int → Option Value}, KMap Tryz.prog 3 (Value.int .i64) w b f → ¬ (b = g ∨ vt.ownBlock = some b) := fun hm hb => hb.elim (fun e => hm.not_blk (e ▸ h.blk)) fun hb => by
    obtain ⟨c', hc⟩ := h.tblk hb
    exact hm.not_blk hc
  have hlt : ∀ b, ShOwn g m1 m2 f1 f2 vt vo b → b < w.heap.size := fun b hb => h.own_lt hb
  refine ⟨?_, fun b hb => ?_, h.gf, fun b hb => Nat.lt_of_lt_of_le (h.flt b hb) kk.size, h.con.keep kk hG, h.mm1.keep kk (hmap h.mm1.map) fun q hq => (h.mm1.in_map hq).elim fun _ hm => hmap hm, h.mm2.keep kk (hmap h.mm2.map) fun q hq => (h.mm2.in_map hq).elim fun _ hm => hmap hm, h.m12, h.a12, h.a21, ?_, hn, fun x hx => ?_, ?_, h.on, fun x hx => own_off (h.or x hx) kk (hoff (by decide) (by decide)), fun b hb hb' => ?_⟩
  · have := k1.set 10 vt'
    rw [show (shCells c m1 m2 vt vo).setIfInBounds 10 vt' = shCells c m1 m2 vt' vo from rfl] at this
    exact this
  · rcases hb with hb | hb | hb | hb | hb | hb | hb
    · exact h.own b (.inl hb)
    · exact h.own b (.inr (.inl hb))
    · exact h.own b (.inr (.inr (.inl hb)))
    · exact h.own b (.inr (.inr (.inr (.inl hb))))
    · exact h.own b (.inr (.inr (.inr (.inr (.inl hb)))))
    · rcases ho b hb with e | e
      · exact h.own b (.inr (.inr (.inr (.inr (.inr (.inl e))))))
      · exact fun hb' => by have := h.flt _ hb'; omega
    · exact h.own b (.inr (.inr (.inr (.inr (.inr (.inr hb))))))
  · refine hq.off ((Keep.refl (fun q => q = g) w').set rfl _) fun b hb => ?_
    rw [hb]; exact off_of k1 (by decide)
  · refine own_off (hr x hx) ((Keep.refl (fun q => q = g) w').set rfl _) fun b hb => ?_
    rw [hb]; exact off_of k1 (by decide)
  · exact h.oq.keep kk fun b hb hx => hx.elim (fun e => by
      obtain ⟨c', hc⟩ := h.oblk hb
      exact off_of hc (by decide) ⟨_, e ▸ h.blk⟩) fun e => h.ne b e hb
  · rcases ho b hb with e | e
    · exact h.ne b e hb'
    · have := hlt b (.inr (.inr (.inr (.inr (.inr (.inr hb'))))))
      omega
theorem ShB.setOut (h : ShB w G F g c m1 m2 f1 f2 vt vo ts os s) (k : Keep (fun q => vo.ownBlock = some q) w w') {vo' : Value} {os' : List N2} {l : List NV} (hn : os'.map N2.n = l) (hq : OwnsQ w' 0 58 3 vo' l.length (os'.flatMap N2.cells)) (hr : ∀ x ∈ os', IRow 0 w' x.v x.n.nums) (ho : ∀ b, vo'.ownBlock = some b → vo.ownBlock = some b ∨ w.heap.size ≤ b) :
    ShB (w'.setCell ⟨g, 11, none⟩ vo') G F g c m1 m2 f1 f2 vt vo' ts os' { s with out := l } := by
  have hg : ¬ vo.ownBlock = some g := fun hb => by
    obtain ⟨c', hc⟩ := h.oblk hb
    exact off_of hc (by decide) ⟨_, h.blk⟩
  have k1 := h.blk.keep k hg
  have kk : Keep (fun q => q = g ∨ vo.ownBlock = some q) w (w'.setCell ⟨g, 11, none⟩ vo') := (k.mono fun _ _ h => .inr h).set (.inl rfl) _
  have hoff : ∀ {e : TypeId}, 58 ≠ e → 88 ≠ e → ∀ b, (b = g ∨ vo.ownBlock = some b) → ¬ ∃ c, Blk w b c e := fun he1 he2 b hb => hb.elim (fun e => by rw [e]; exact off_of h.blk he2) fun hb => by
    obtain ⟨c', hc⟩ := h.oblk hb
    exact off_of hc he1
  have hG : ∀ b, G b → ¬ (b = g ∨ vo.ownBlock = some b) := fun b hb hx => hx.elim (fun e => h.own b (.inl e) (h.gf b hb)) fun e => h.own b (.inr (.inr (.inr (.inr (.inr (.inr e)))))) (h.gf b hb)
  have hmap : ∀ {b : Nat} {f : Int → Option Value}, KMap Tryz.prog 3 (Value.int .i64) w b f → ¬ (b = g ∨ vo.ownBlock = some b) := fun hm hb => hb.elim (fun e => hm.not_blk (e ▸ h.blk)) fun hb => by
    obtain ⟨c', hc⟩ := h.oblk hb
    exact hm.not_blk hc
  have hlt : ∀ b, ShOwn g m1 m2 f1 f2 vt vo b → b < w.heap.size := fun b hb => h.own_lt hb
  refine ⟨?_, fun b hb => ?_, h.gf, fun b hb => Nat.lt_of_lt_of_le (h.flt b hb) kk.size, h.con.keep kk hG, h.mm1.keep kk (hmap h.mm1.map) fun q hq => (h.mm1.in_map hq).elim fun _ hm => hmap hm, h.mm2.keep kk (hmap h.mm2.map) fun q hq => (h.mm2.in_map hq).elim fun _ hm => hmap hm, h.m12, h.a12, h.a21, ?_, h.tn, fun x hx => own_off (h.tr x hx) kk (hoff (by decide) (by decide)), ?_, hn, fun x hx => ?_, fun b hb hb' => ?_⟩
  · have := k1.set 11 vo'
    rw [show (shCells c m1 m2 vt vo).setIfInBounds 11 vo' = shCells c m1 m2 vt vo' from rfl] at this
    exact this
  · rcases hb with hb | hb | hb | hb | hb | hb | hb
    · exact h.own b (.inl hb)
    · exact h.own b (.inr (.inl hb))
    · exact h.own b (.inr (.inr (.inl hb)))
    · exact h.own b (.inr (.inr (.inr (.inl hb))))
    · exact h.own b (.inr (.inr (.inr (.inr (.inl hb)))))
    · exact h.own b (.inr (.inr (.inr (.inr (.inr (.inl hb))))))
    · rcases ho b hb with e | e
      · exact h.own b (.inr (.inr (.inr (.inr (.inr (.inr e))))))
      · exact fun hb' => by have := h.flt _ hb'; omega
  · exact h.tq.keep kk fun b hb hx => hx.elim (fun e => by
      obtain ⟨c', hc⟩ := h.tblk hb
      exact off_of hc (by decide) ⟨_, e ▸ h.blk⟩) fun e => h.ne b hb e
  · refine hq.off ((Keep.refl (fun q => q = g) w').set rfl _) fun b hb => ?_
    rw [hb]; exact off_of k1 (by decide)
  · refine own_off (hr x hx) ((Keep.refl (fun q => q = g) w').set rfl _) fun b hb => ?_
    rw [hb]; exact off_of k1 (by decide)
  · rcases ho b hb' with e | e
    · exact h.ne b hb e
    · have := hlt b (.inr (.inr (.inr (.inr (.inr (.inl hb))))))
      omega
theorem ShB.setHas (h : ShB w G F g c m1 m2 f1 f2 vt vo ts os s) (k : Keep (fun q => q = m1 ∨ InM f1 q) w w') {M : List (Int × Int)} {f' : Int → Option Value} (hm : MM w' m1 M f') (hi : ∀ q, InM f' q → InM f1 q ∨ w.heap.size ≤ q) :
    ShB w' G F g c m1 m2 f' f2 vt vo ts os { s with has := M } := by
  have hX : ∀ {b : Nat} {c : Array Value} {e : TypeId}, Blk w b c e → ¬ (b = m1 ∨ InM f1 b) := fun hb hx => hx.elim (fun e => h.mm1.map.not_blk (e ▸ hb)) fun hq => h.mm1.in_blk hq hb
  have hG : ∀ b, G b → ¬ (b = m1 ∨ InM f1 b) := fun b hb hx => hx.elim (fun e => h.own b (.inr (.inl e)) (h.gf b hb)) fun e => h.own b (.inr (.inr (.inr (.inl e)))) (h.gf b hb)
  have hoff : ∀ {e : TypeId}, ∀ b, (b = m1 ∨ InM f1 b) → ¬ ∃ c, Blk w b c e := fun b hb ⟨c, hc⟩ => hX hc hb
  have hnew : ∀ q, w.heap.size ≤ q → ∀ b, ShOwn g m1 m2 f1 f2 vt vo b → q ≠ b := fun q hq b hb e => by have := h.own_lt hb; omega
  refine ⟨h.blk.keep k (hX h.blk), fun b hb => ?_, h.gf, fun b hb => Nat.lt_of_lt_of_le (h.flt b hb) k.size, h.con.keep k hG, hm, h.mm2.keep k (fun hx => hx.elim (fun e => h.m12 e.symm) fun hq => (h.a12 _ hq).1 rfl) (fun q hq hx => hx.elim (fun e => h.a21 q hq e) fun hq' => (h.a12 q hq').2 hq), h.m12, fun q hq => ?_, h.a21, h.tq.off k hoff, h.tn, fun x hx => own_off (h.tr x hx) k hoff, h.oq.off k hoff, h.on, fun x hx => own_off (h.or x hx) k hoff, h.ne⟩
  · rcases hb with hb | hb | hb | hb | hb | hb | hb
    · exact h.own b (.inl hb)
    · exact h.own b (.inr (.inl hb))
    · exact h.own b (.inr (.inr (.inl hb)))
    · rcases hi b hb with e | e
      · exact h.own b (.inr (.inr (.inr (.inl e))))
      · exact fun hb' => by have := h.flt _ hb'; omega
    · exact h.own b (.inr (.inr (.inr (.inr (.inl hb)))))
    · exact h.own b (.inr (.inr (.inr (.inr (.inr (.inl hb))))))
    · exact h.own b (.inr (.inr (.inr (.inr (.inr (.inr hb))))))
  · rcases hi q hq with e | e
    · exact h.a12 q e
    · exact ⟨hnew q e m2 (.inr (.inr (.inl rfl))), fun hq' => hnew q e q (.inr (.inr (.inr (.inr (.inl hq'))))) rfl⟩
theorem ShB.setNxt (h : ShB w G F g c m1 m2 f1 f2 vt vo ts os s) (k : Keep (fun q => q = m2 ∨ InM f2 q) w w') {M : List (Int × Int)} {f' : Int → Option Value} (hm : MM w' m2 M f') (hi : ∀ q, InM f' q → InM f2 q ∨ w.heap.size ≤ q) :
    ShB w' G F g c m1 m2 f1 f' vt vo ts os { s with nxt := M } := by
  have hX : ∀ {b : Nat} {c : Array Value} {e : TypeId}, Blk w b c e → ¬ (b = m2 ∨ InM f2 b) := fun hb hx => hx.elim (fun e => h.mm2.map.not_blk (e ▸ hb)) fun hq => h.mm2.in_blk hq hb
  have hG : ∀ b, G b → ¬ (b = m2 ∨ InM f2 b) := fun b hb hx => hx.elim (fun e => h.own b (.inr (.inr (.inl e))) (h.gf b hb)) fun e => h.own b (.inr (.inr (.inr (.inr (.inl e))))) (h.gf b hb)
  have hoff : ∀ {e : TypeId}, ∀ b, (b = m2 ∨ InM f2 b) → ¬ ∃ c, Blk w b c e := fun b hb ⟨c, hc⟩ => hX hc hb
  have hnew : ∀ q, w.heap.size ≤ q → ∀ b, ShOwn g m1 m2 f1 f2 vt vo b → q ≠ b := fun q hq b hb e => by have := h.own_lt hb; omega
  refine ⟨h.blk.keep k (hX h.blk), fun b hb => ?_, h.gf, fun b hb => Nat.lt_of_lt_of_le (h.flt b hb) k.size, h.con.keep k hG, h.mm1.keep k (fun hx => hx.elim (fun e => h.m12 e) fun hq => h.a21 _ hq rfl) (fun q hq hx => hx.elim (fun e => (h.a12 q hq).1 e) fun hq' => (h.a12 q hq).2 hq'), hm, h.m12, fun q hq => ⟨(h.a12 q hq).1, fun hq' => ?_⟩, fun q hq => ?_, h.tq.off k hoff, h.tn, fun x hx => own_off (h.tr x hx) k hoff, h.oq.off k hoff, h.on, fun x hx => own_off (h.or x hx) k hoff, h.ne⟩
  · rcases hb with hb | hb | hb | hb | hb | hb | hb
    · exact h.own b (.inl hb)
    · exact h.own b (.inr (.inl hb))
    · exact h.own b (.inr (.inr (.inl hb)))
    · exact h.own b (.inr (.inr (.inr (.inl hb))))
    · rcases hi b hb with e | e
      · exact h.own b (.inr (.inr (.inr (.inr (.inl e)))))
      · exact fun hb' => by have := h.flt _ hb'; omega
    · exact h.own b (.inr (.inr (.inr (.inr (.inr (.inl hb))))))
    · exact h.own b (.inr (.inr (.inr (.inr (.inr (.inr hb))))))
  · rcases hi q hq' with e | e
    · exact (h.a12 q hq).2 e
    · exact hnew q e q (.inr (.inr (.inr (.inl hq)))) rfl
  · rcases hi q hq with e | e
    · exact h.a21 q e
    · exact hnew q e m1 (.inr (.inl rfl))
end
theorem MM.room {w : World} {m : Nat} {M : List (Int × Int)} {f : Int → Option Value} (h : MM w m M f) {n : Int} (hf : f n = none) {w1 w2 : World} {q : Nat} (hq : q = w.heap.size) (x : Ext w w1) (hk : KMap Tryz.prog 3 (Value.int .i64) w1 q (fun _ => none)) (hs : Stm w1 q) (h2 : KMap Tryz.prog 3 (Value.int .i64) w2 m (fun l => if l = n then some (.map (some q)) else f l)) (k : Keep (fun l => l = m) w1 w2) :
    MM w2 m M (fun l => if l = n then some (.map (some q)) else f l) ∧ (∀ l, InM (fun l => if l = n then some (.map (some q)) else f l) l → InM f l ∨ w.heap.size ≤ l) ∧ Keep (fun l => l = m ∨ InM f l) w w2 := by
  have hin : ∀ l, InM (fun l => if l = n then some (.map (some q)) else f l) l → InM f l ∨ l = q := fun l ⟨a, ha⟩ => by
    simp only at ha
    split at ha
    · simp only [Option.some.injEq, Value.map.injEq] at ha
      exact .inr ha.symm
    · exact .inl ⟨a, ha⟩
  have hmq : m ≠ q := by have := h.map.lt; omega
  have hnone : ∀ o, (n, o) ∉ M := by
    rcases h.val n with ⟨_, g⟩ | ⟨p, g, _⟩
    · exact g
    · rw [hf] at g; cases g
  refine ⟨⟨h2, fun l hl => ?_, fun l => ?_, fun a l p hal ha hl => ?_⟩, fun l hl => (hin l hl).imp id fun e => by omega, (x.keep _).trans (k.mono fun _ _ e => .inl e)⟩
  · rcases hin l hl with e | e
    · exact h.ne l e
    · rw [e]; exact fun e => hmq e.symm
  · by_cases hl : l = n
    · subst hl
      refine .inr ⟨q, by simp, (hk.keep k fun e => hmq e.symm).eq fun o => ?_, hs.keep k fun e => hmq e.symm⟩
      unfold setF
      rw [if_neg (hnone o)]
    · simp only [if_neg hl]
      rcases h.val l with g | ⟨p, g1, g2, g3⟩
      · exact .inl g
      · exact .inr ⟨p, g1, (g2.ext x).keep k (h.ne p ⟨l, g1⟩), (g3.keep (x.keep fun _ => False) fun h => h).keep k (h.ne p ⟨l, g1⟩)⟩
  · have hlt : ∀ l, f l = some (.map (some q)) → False := fun l e => by have := h.in_lt ⟨l, e⟩; omega
    by_cases h3 : a = n <;> by_cases h4 : l = n
    · exact hal (h3.trans h4.symm)
    · rw [if_pos h3] at ha
      rw [if_neg h4] at hl
      simp only [Option.some.injEq, Value.map.injEq] at ha
      exact hlt l (ha ▸ hl)
    · rw [if_neg h3] at ha
      rw [if_pos h4] at hl
      simp only [Option.some.injEq, Value.map.injEq] at hl
      exact hlt a (hl ▸ ha)
    · rw [if_neg h3] at ha
      rw [if_neg h4] at hl
      exact h.apart a l p hal ha hl
theorem MM.put {w w' : World} {m : Nat} {M : List (Int × Int)} {f : Int → Option Value} (h : MM w m M f) {n o : Int} {q : Nat} (hf : f n = some (.map (some q))) (hk : KMap Tryz.prog 3 (Value.int .i64) w' q (fun l => if l = o then some (.bool true) else setF M n l)) (hs : Stm w' q) (k : Keep (fun l => l = q) w w') :
    MM w' m (M ++ [(n, o)]) f ∧ Keep (fun l => l = m ∨ InM f l) w w' := by
  refine ⟨⟨h.map.keep k fun e => h.ne q ⟨n, hf⟩ e.symm, h.ne, fun l => ?_, h.apart⟩, k.mono fun l _ e => .inr (e ▸ ⟨n, hf⟩)⟩
  by_cases hl : l = n
  · subst hl
    refine .inr ⟨q, hf, hk.eq fun p => ?_, hs⟩
    unfold setF
    by_cases hp : p = o
    · subst hp
      rw [if_pos rfl, if_pos (List.mem_append_right _ (List.mem_singleton.2 rfl))]
    · rw [if_neg hp]
      have : (l, p) ∈ M ++ [(l, o)] ↔ (l, p) ∈ M := by simp [hp]
      by_cases hm : (l, p) ∈ M
      · rw [if_pos hm, if_pos (this.2 hm)]
      · rw [if_neg hm, if_neg fun e => hm (this.1 e)]
  · have : ∀ p, (l, p) ∈ M ++ [(n, o)] ↔ (l, p) ∈ M := fun p => by simp [hl]
    rcases h.val l with ⟨g1, g2⟩ | ⟨p, g1, g2, g3⟩
    · exact .inl ⟨g1, fun p hp => g2 p ((this p).1 hp)⟩
    · have hpq : p ≠ q := fun e => h.apart n l q (fun e => hl e.symm) hf (e ▸ g1)
      refine .inr ⟨p, g1, (g2.keep k hpq).eq fun u => ?_, g3.keep k hpq⟩
      unfold setF
      by_cases hm : (l, u) ∈ M
      · rw [if_pos hm, if_pos ((this u).2 hm)]
      · rw [if_neg hm, if_neg fun e => hm ((this u).1 e)]
end Go.Proofs.YtihdpijgngooaaaGreatDoor
