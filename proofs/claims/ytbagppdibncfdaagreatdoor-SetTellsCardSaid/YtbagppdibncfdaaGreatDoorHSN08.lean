/- Texts of one proof, put together: S9 YW ZZZI ZZZK T1 ZZZL ZZZM. -/
import Derived.Test.YtbagppdibncfdaaGreatDoorHSN03
import Derived.Test.YtbagppdibncfdaaGreatDoorHSN04
import Derived.Test.YtbagppdibncfdaaGreatDoorHSN05
import Derived.Test.YtbagppdibncfdaaGreatDoorHSN07
import Derived.Test.YtbagppdibncfdaaGreatDoorHSN01
set_option linter.unusedSimpArgs false
set_option linter.unusedVariables false
namespace Go.Proofs.YtbagppdibncfdaaGreatDoor
open Go Go.RowKit
set_option maxRecDepth 100000 in
set_option maxHeartbeats 1600000 in
theorem setsome_less (b : Value) (p : Int → Bool) (v : Value) (l : List Int) (w : World) (n0 : Nat) (h : IntsR w n0 v l) (hF : ∀ n w1, Ext w w1 → Calls Tryz.prog 89 #[.int .i64 n, b] w1 fun e w' => e = .returned (.bool (p n)) ∧ Ext w1 w') (hl : l.length ≤ 100000) :
    Calls Tryz.prog 88 #[v, .func (.func 89) #[] #[b]] w fun e w' => ∃ v', e = .returned v' ∧ Ext w w' ∧ IRow w.heap.size w' v' (l.filter p) := by
  have HS := hid h
  have HF := hid hF
  obtain ⟨a, cap, rfl, h2, h3, h4, _⟩ := h
  have H4 := hid h4
  have hml : (l.length : Int) ≤ 9223372036854775807 := by omega
  clear h2 h3 h4 hF
  go_enter Tryz.func88, Tryz.ntmps88
  go_wp2
  go_loopw [5, 10] (fun t5 t10 wr => ∃ k : Nat, t10 = .int .i64 (k : Int) ∧ k ≤ l.length ∧ IRow w.heap.size wr t5 ((l.take k).filter p) ∧ Ext w wr) (fun _ t10 _ => l.length - (intOf t10).toNat)
  case atStart => exact ⟨0, rfl, Nat.zero_le _, IRow.nil _ _, Ext.refl _⟩
  case round =>
    obtain ⟨k, rfl, hk, hr, hx⟩ := hrel
    obtain ⟨m, hm⟩ : ∃ m, m = (l.take k).filter p := ⟨_, rfl⟩
    rw [← hm] at hr
    have hml2 : m.length ≤ 100000 := by rw [hm]; have := List.length_filter_le p (l.take k); rw [List.length_take] at this; omega
    have Hm := hid hm
    obtain ⟨a5, c5, rfl⟩ := hr.form
    have Hr := hid hr
    have Hx := hid hx
    clear hm hr
    by_cases hlt : k < l.length
    · obtain ⟨y, rfl⟩ := H4.out (by omega)
      obtain ⟨q, hq⟩ : ∃ q, l[k]? = some q := ⟨_, List.getElem?_eq_getElem hlt⟩
      obtain ⟨a', cap', h1, _, _, _, h5⟩ := HS.out.old (hx.old n0)
      obtain ⟨rfl, rfl⟩ : some y = a' ∧ cap = cap' := by simpa using h1
      have hc := (h5 y rfl (by omega)).2 k hlt q hq
      have HN := hid (HF.out q wr hx)
      have Hf := hid (take_filter (p := p) hq)
      clear hq h1 h5 hx
      go_wp2_with fail
      refine HN.out.mono ?_
      intro e w1 hx1
      obtain ⟨rfl, hx1⟩ := hx1
      have Hx1 := hid (Hx.out.trans hx1)
      have Hr1 := hid (Hr.out.ext hx1)
      clear HN hx1 Hx Hr hc
      cases he : p q with
      | true =>
        have Hn : Hid ((l.take (k + 1)).filter p = m ++ [q]) := hid (by rw [Hf.out, he, Hm.out]; rfl)
        clear he
        have hxa : Hid (Ext w (w1.alloc (.cells #[.int .i64 q] 3))) := hid (Hx1.out.alloc _)
        have Hra : Hid (IRow w.heap.size (w1.alloc (.cells #[.int .i64 q] 3)) (.slice a5 m.length c5) m) := hid (Hr1.out.ext ((Ext.refl _).alloc _))
        go_wp2_with (at_builtin; refine wpList_append_el w.heap.size hxa.out.size 45 3 (.int .i64 0) 1 8 Tryz.underlying45 ints_info rfl (by omega) (by omega) rfl _ _ rfl (.slice a5 m.length c5) m.length (icells m) rfl Hra.out w1.heap.size [.int .i64 q] rfl (by simp [Value.oneCell']) rfl (Blk.new _ _ _) (by omega) ?_; intro v' w' h1 h2 h4; obtain ⟨a', c', rfl⟩ := row_form h1; have h3 := hid (Keep.new hxa.out h2 (fun k hk => (Hra.out.lt hk).1)); have h1 := hid h1; clear h2 h4)
        go_roundw
        case rel => exact ⟨k + 1, by go_num, by omega, by rw [Hn.out]; have := h1.out; unfold IRow; rw [icells_append, List.length_append]; exact this, h3.out⟩
        case measure => simp [intOf]; omega
      | false =>
        have Hn : Hid ((l.take (k + 1)).filter p = m) := hid (by rw [Hf.out, he, Hm.out]; simp)
        clear he
        go_wp2
        go_roundw
        case rel => exact ⟨k + 1, by go_num, by omega, by rw [Hn.out]; exact Hr1.out, Hx1.out⟩
        case measure => simp [intOf]; omega
    · obtain rfl : k = l.length := by omega
      have Hn : Hid (m = l.filter p) := hid (by rw [Hm.out, List.take_of_length_le (Nat.le_refl _)])
      clear hx
      go_wp2
      go_ret
      exact ⟨_, rfl, Hx.out, by rw [← Hn.out]; exact Hr.out⟩
theorem setlessc_any (g : Nat) (vb : Value) (b : List Int) (n : Int) (w : World) (n0 : Nat) (hB : Blk w g #[vb] 45) (hb : IntsR w n0 vb b) :
    Calls Tryz.prog 89 #[.int .i64 n, .pointer (some ⟨g, 0, none⟩)] w fun e w' => e = .returned (.bool (!decide (n ∈ b))) ∧ Ext w w' := by
  have H := hid (sethas_any vb b n w n0 hb)
  generalize decide (n ∈ b) = d at *
  obtain ⟨a, cap, rfl, _⟩ := hb
  have c0 := hB.av 0 rfl
  simp only [qA0, qA1] at c0
  clear hB
  go_enter Tryz.func89, Tryz.ntmps89
  go_wp2_with fail
  refine H.out.mono ?_
  intro e w1 hx
  obtain ⟨rfl, rfl⟩ := hx
  clear H c0
  go_wp2
  go_ret
  exact ⟨rfl, Ext.refl _⟩
set_option maxRecDepth 100000 in
set_option maxHeartbeats 1600000 in
theorem setless_any (va vb : Value) (a b : List Int) (w : World) (n0 : Nat) (ad : Nat → Addr) (hE : ErrS w ad) (ha : IntsR w n0 va a) (hb : IntsR w n0 vb b) (hla : a.length ≤ 10000) :
    Calls Tryz.prog 37 #[va, vb] w fun e w' => ∃ t, e = .returned t ∧ TwoR ad a b (a.filter fun n => !decide (n ∈ b)) w.heap.size w' t ∧ Ext w w' := by
  obtain ⟨W, hW⟩ : ∃ W, W = w.alloc (.cells #[vb] 45) := ⟨_, rfl⟩
  have hxW : Ext w W := by rw [hW]; exact (Ext.refl _).alloc _
  have HBl : Hid (Blk W w.heap.size #[vb] 45) := hid (by rw [hW]; exact Blk.new _ _ _)
  have HK := hid (setboth_any va vb a b W n0 ad (hE.ext hxW) (ha.old (hxW.old n0)) (hb.old (hxW.old n0)))
  have HC := fun w1 (x : Ext W w1) => hid (setsome_less (.pointer (some ⟨w.heap.size, 0, none⟩)) (fun n => !decide (n ∈ b)) va a w1 n0 (ha.old ((hxW.trans x).old n0)) (fun n w2 x2 => setlessc_any w.heap.size vb b n w2 n0 (HBl.out.ext (x.trans x2)) (hb.old ((hxW.trans (x.trans x2)).old n0))) (by omega))
  have HxW := hid hxW
  obtain ⟨aa, ca, rfl, _⟩ := ha
  obtain ⟨ab, cb, rfl, _⟩ := hb
  have HWe := hid hW
  have c0 := HBl.out.av 0 rfl
  simp only [qA0, qA1] at c0
  clear hE hxW hW
  by_cases h0 : bothE a b = 0
  · rw [errv_no h0] at HK
    have H0 := hid h0
    clear h0
    go_enter Tryz.func37, Tryz.ntmps37
    go_wp2_with fail
    rw [← HWe.out]
    refine HK.out.mono ?_
    intro e w1 hx
    obtain ⟨rfl, hx1⟩ := hx
    have HC1 := HC w1 hx1
    have Hx1 := hid (HxW.out.trans hx1)
    clear HK HC hx1 c0
    go_wp2_with fail
    refine HC1.out.mono ?_
    intro e w2 hx
    obtain ⟨v2, rfl, hx2, hr2⟩ := hx
    obtain ⟨a2, p2, rfl⟩ := hr2.form
    have Hr2 := hid (hr2.base Hx1.out.size)
    have Hx2 := hid (Hx1.out.trans hx2)
    clear HC1 hx2 hr2
    go_wp2
    go_ret2
    exact ⟨_, rfl, .inl ⟨H0.out, _, rfl, Hr2.out⟩, Hx2.out⟩
  · rw [errv_yes h0] at HK
    have H0 := hid h0
    clear h0
    go_enter Tryz.func37, Tryz.ntmps37
    go_wp2_with fail
    rw [← HWe.out]
    refine HK.out.mono ?_
    intro e w1 hx
    obtain ⟨rfl, hx1⟩ := hx
    have Hx1 := hid (HxW.out.trans hx1)
    clear HK HC hx1 c0
    go_wp2
    go_ret2
    exact ⟨_, rfl, .inr ⟨H0.out, rfl⟩, Hx1.out⟩
set_option maxRecDepth 100000 in
set_option maxHeartbeats 800000 in
theorem indexfi_wi (b : Value) (p : Int → Bool) (v : Value) (l : List Int) (w : World) (n0 : Nat) (h : IntsR w n0 v l) (hF : ∀ n w1, Ext w w1 → Calls Tryz.prog 98 #[.int .i64 n, b] w1 fun e w' => e = .returned (.bool (p n)) ∧ Ext w1 w') :
    Calls Tryz.prog 138 #[v, .func (.func 98) #[] #[b]] w fun e w' => ∃ r : Int, e = .returned (.int .i64 r) ∧ IdxF p l r ∧ Ext w w' := by
  have HS := hid h
  have HF := hid hF
  obtain ⟨a, cap, rfl, h2, h3, h4, _⟩ := h
  have H4 := hid h4
  have hml : (l.length : Int) ≤ 9223372036854775807 := by omega
  clear h2 h3 h4 hF
  go_enter Tryz.func138, Tryz.ntmps138
  go_wp2
  go_loopw [8] (fun t8 wr => ∃ k : Nat, t8 = .int .i64 (k : Int) ∧ k ≤ l.length ∧ (∀ j t, j < k → l[j]? = some t → p t = false) ∧ Ext w wr) (fun t8 _ => l.length - (intOf t8).toNat)
  case atStart => exact ⟨0, rfl, Nat.zero_le _, fun j t h => by omega, Ext.refl _⟩
  case round =>
    obtain ⟨k, rfl, hk, hne, hx⟩ := hrel
    have Hne := hid hne
    clear hne
    by_cases hlt : k < l.length
    · obtain ⟨y, rfl⟩ := H4.out (by omega)
      have hxk : l[k]? = some (l[k]'hlt) := List.getElem?_eq_getElem hlt
      obtain ⟨t, ht⟩ : ∃ t, t = l[k]'hlt := ⟨_, rfl⟩
      rw [← ht] at hxk
      obtain ⟨a', cap', h1, _, _, _, h5⟩ := HS.out.old (hx.old n0)
      obtain ⟨rfl, rfl⟩ : some y = a' ∧ cap = cap' := by simpa using h1
      have hc := (h5 y rfl (by omega)).2 k hlt t hxk
      have HN := hid (HF.out t wr hx)
      have Hxk := hid hxk
      have Hx := hid hx
      clear hxk ht h1 h5 hx
      go_wp2_with fail
      refine HN.out.mono ?_
      intro e w1 hx1
      obtain ⟨rfl, hx1⟩ := hx1
      have Hx1 := hid (Hx.out.trans hx1)
      clear HN hx1 Hx hc
      cases he : p t with
      | true =>
        have Hin := hid (show IdxF p l (k : Int) from .inr ⟨k, t, rfl, hlt, Hxk.out, he, Hne.out⟩)
        go_wp2
        go_ret
        exact ⟨(k : Int), rfl, Hin.out, Hx1.out⟩
      | false =>
        have Hf := hid he
        clear he
        go_wp2
        go_roundw
        case rel =>
          refine ⟨k + 1, by go_num, by omega, fun j u hj hu => ?_, Hx1.out⟩
          by_cases hjk : j = k
          · subst hjk
            obtain rfl := Option.some.inj (Hxk.out.symm.trans hu)
            exact Hf.out
          · exact Hne.out j u (by omega) hu
        case measure => simp [intOf]; omega
    · obtain rfl : k = l.length := by omega
      have Hx := hid hx
      clear hx
      have Hnot := hid (show IdxF p l (-1) from .inl ⟨rfl, fun x hx => by
        obtain ⟨j, hj, e2⟩ := List.mem_iff_getElem.1 hx
        exact Hne.out j x hj (by rw [List.getElem?_eq_getElem hj, e2])⟩)
      go_wp2
      go_ret
      exact ⟨(-1 : Int), rfl, Hnot.out, Hx.out⟩
set_option maxRecDepth 100000 in
set_option maxHeartbeats 800000 in
theorem containsfi_wi (b : Value) (p : Int → Bool) (v : Value) (l : List Int) (w : World) (n0 : Nat) (h : IntsR w n0 v l) (hF : ∀ n w1, Ext w w1 → Calls Tryz.prog 98 #[.int .i64 n, b] w1 fun e w' => e = .returned (.bool (p n)) ∧ Ext w1 w') :
    Calls Tryz.prog 97 #[v, .func (.func 98) #[] #[b]] w fun e w' => e = .returned (.bool (l.any p)) ∧ Ext w w' := by
  have H := hid (indexfi_wi b p v l w n0 h hF)
  obtain ⟨a, cap, rfl, h2, h3, _⟩ := h
  have hml : (l.length : Int) ≤ 9223372036854775807 := by omega
  clear hF
  go_enter Tryz.func97, Tryz.ntmps97
  go_wp2_with fail
  refine H.out.mono ?_
  intro e w1 hx
  obtain ⟨r, rfl, hr, hx⟩ := hx
  clear H
  rcases hr with ⟨rfl, hr⟩ | ⟨i, x, rfl, hi, hxi, hp, _⟩
  · have Hr := hid (show l.any p = false from List.any_eq_false.2 fun x hx => by rw [hr x hx]; simp)
    clear hr
    go_wp2
    go_ret
    exact ⟨by rw [Hr.out]; rfl, hx⟩
  · have Hr := hid (show l.any p = true from List.any_eq_true.2 ⟨x, List.mem_of_getElem? hxi, hp⟩)
    clear hp hxi
    go_wp2
    go_ret
    exact ⟨by rw [Hr.out]; rfl, hx⟩
theorem setwithinc_any (g : Nat) (vb : Value) (b : List Int) (n : Int) (w : World) (n0 : Nat) (hB : Blk w g #[vb] 45) (hb : IntsR w n0 vb b) :
    Calls Tryz.prog 98 #[.int .i64 n, .pointer (some ⟨g, 0, none⟩)] w fun e w' => e = .returned (.bool (!decide (n ∈ b))) ∧ Ext w w' := by
  have H := hid (sethas_any vb b n w n0 hb)
  obtain ⟨a, cap, rfl, _⟩ := hb
  have c0 := hB.av 0 rfl
  simp only [qA0, qA1] at c0
  clear hB
  generalize decide (n ∈ b) = d at *
  go_enter Tryz.func98, Tryz.ntmps98
  go_wp2_with fail
  refine H.out.mono ?_
  intro e w1 hx
  obtain ⟨rfl, rfl⟩ := hx
  clear H c0
  go_wp2
  go_ret
  exact ⟨rfl, Ext.refl _⟩
set_option maxRecDepth 100000 in
set_option maxHeartbeats 800000 in
theorem setwithin_any (va vb : Value) (a b : List Int) (w : World) (n0 : Nat) (ha : IntsR w n0 va a) (hb : IntsR w n0 vb b) :
    Calls Tryz.prog 42 #[va, vb] w fun e w' => e = .returned (.bool (a.all fun n => decide (n ∈ b))) ∧ Ext w w' := by
  obtain ⟨W, hW⟩ : ∃ W, W = w.alloc (.cells #[vb] 45) := ⟨_, rfl⟩
  have hxW : Ext w W := by rw [hW]; exact (Ext.refl _).alloc _
  have HBl : Hid (Blk W w.heap.size #[vb] 45) := hid (by rw [hW]; exact Blk.new _ _ _)
  have HC := hid (containsfi_wi (.pointer (some ⟨w.heap.size, 0, none⟩)) (fun n => !decide (n ∈ b)) va a W n0 (ha.old (hxW.old n0)) (fun n w2 x2 => setwithinc_any w.heap.size vb b n w2 n0 (HBl.out.ext x2) (hb.old ((hxW.trans x2).old n0))))
  have HxW := hid hxW
  obtain ⟨aa, ca, rfl, _⟩ := ha
  obtain ⟨ab, cb, rfl, _⟩ := hb
  have HWe := hid hW
  obtain ⟨d, hd⟩ : ∃ d, d = a.any (fun n => !decide (n ∈ b)) := ⟨_, rfl⟩
  have Hd : Hid ((a.all fun n => decide (n ∈ b)) = !d) := hid (by
    rw [hd, List.any_eq_not_all_not, Bool.not_not]
    congr 1
    funext n
    rw [Bool.not_not])
  rw [← hd] at HC
  clear hxW hW hd
  go_enter Tryz.func42, Tryz.ntmps42
  go_wp2_with fail
  rw [← HWe.out]
  refine HC.out.mono ?_
  intro e w1 hx
  obtain ⟨rfl, hx1⟩ := hx
  have Hx1 := hid (HxW.out.trans hx1)
  clear HC hx1
  go_wp2
  go_ret
  exact ⟨by rw [Hd.out]; rfl, Hx1.out⟩
structure ErrT (w : World) (ad : Nat → Addr) : Prop where
  at1 : w.cell? ⟨4, 0, none⟩ = some (evOf ad 1)
  eS : ErrS w ad
theorem ErrT.ext {w w' : World} {ad : Nat → Addr} (h : ErrT w ad) (x : Ext w w') : ErrT w' ad := ⟨x.cellx h.at1, h.eS.ext x⟩
theorem AllErrs.errT {w : World} {ad : Nat → Addr} (h : AllErrs w ad) : ErrT w ad := ⟨h.var 1 (by decide), h.errS⟩
theorem join_small {l : List Int} (hin : InR l) (hl : l.length ≤ 1000) : (Lib.join ((numsS l).map (·.data.toList)) [44]).length ≤ 1000000 := by
  have h : ∀ ps : List (List UInt8), (∀ p ∈ ps, p.length ≤ 3) → (Lib.join ps [44]).length ≤ 4 * ps.length := by
    intro ps hp
    induction ps with
    | nil => simp [Lib.join, List.intercalate]
    | cons x r ih =>
      have h1 := hp x (List.mem_cons_self ..)
      have h2 := ih fun p hp2 => hp p (List.mem_cons_of_mem _ hp2)
      cases r with
      | nil => rw [Lib.join_one]; simp; omega
      | cons y r =>
        rw [join_two]
        simp only [List.length_append, List.length_cons, List.length_nil] at h2 ⊢
        omega
  have := h ((numsS l).map (·.data.toList)) (by
    intro p hp
    obtain ⟨q, hq, rfl⟩ := List.mem_map.1 hp
    obtain ⟨x, hx, rfl⟩ := List.mem_map.1 hq
    have hx2 := hin x hx
    obtain ⟨n, rfl⟩ : ∃ n : Nat, x = n := ⟨x.toNat, by omega⟩
    show (Lib.itoa (n : Int)).length ≤ 3
    rw [Lib.itoa_nonneg]
    exact dec_small n 3 (by omega) (by omega))
  rw [List.length_map, show (numsS l).length = l.length from List.length_map ..] at this
  omega
theorem txt_eq (l : List Int) : setBytes l = txtV l := by
  unfold setBytes txtV numsS
  rw [List.map_map]
  rfl
def oneB (k : Nat) : ByteArray := ⟨#[UInt8.ofNat k]⟩
def decB (n : Nat) : ByteArray := ⟨(Lib.decDigits n).toArray⟩
theorem decB_size (n : Nat) (h : n < 1000000) : (decB n).size ≤ 6 := by
  show (Lib.decDigits n).toArray.size ≤ 6
  rw [List.size_toArray]
  exact dec_small n 6 (by omega) (by omega)
theorem oneB_size (k : Nat) : (oneB k).size = 1 := rfl
theorem decB_small {n : Nat} (h : n < 10) : oneB (48 + n) = decB n := by
  unfold oneB decB
  rw [Lib.decDigits, dif_pos h]
theorem decB_big {n : Nat} (h : ¬ n < 10) : decB (n / 10) ++ oneB (48 + n % 10) = decB n := by
  have e : ∀ a b : ByteArray, a.data.toList = b.data.toList → a = b := fun a b h => by
    rcases a with ⟨⟨a⟩⟩
    rcases b with ⟨⟨b⟩⟩
    have h : a = b := h
    rw [h]
  apply e
  have h2 : (decB n).data.toList = Lib.decDigits n := rfl
  rw [h2, Lib.decDigits, dif_neg h]
  simp [oneB, decB]
set_option maxRecDepth 100000 in
theorem rbyte_any (k : Nat) (hk : k < 256) (w : World) : Calls Tryz.prog 187 #[.int .i64 (k : Int)] w fun e w' => e = .returned (.string (oneB k)) ∧ Ext w w' := by
  have hb : Blk (w.alloc (.cells #[.int .u8 (k : Int)] 5)) w.heap.size #[.int .u8 (k : Int)] 5 := Blk.new _ _ _
  have hcv := run_text_of _ w.heap.size 1 [UInt8.ofNat k] _ hb (fun j hj => by
    obtain rfl : j = 0 := by simpa using hj
    simp [bcells]
    omega)
  simp only [List.length_cons, List.length_nil, Nat.zero_add] at hcv
  go_enter Tryz.func187, Tryz.ntmps187
  go_wp2
  exact bodyPost_ret (results_tmp rfl _ _ _) rfl ⟨rfl, (Ext.refl _).alloc _⟩
set_option maxRecDepth 100000 in
theorem rbelow_any (n : Nat) : n < 1000000 → ∀ w, Calls Tryz.prog 140 #[.int .i64 (-(n : Int))] w fun e w' => e = .returned (.string (decB n)) ∧ Ext w w' := by
  induction n using Nat.strongRecOn with
  | _ n ih =>
    intro hn w
    by_cases h : n < 10
    · have HB := hid (rbyte_any (48 + n) (by omega) w)
      rw [decB_small h, show ((48 + n : Nat) : Int) = 48 + (n : Int) from by omega] at HB
      clear ih
      go_enter Tryz.func140, Tryz.ntmps140
      go_wp2_with fail
      refine HB.out.mono ?_
      intro e w1 hx
      obtain ⟨rfl, hx⟩ := hx
      have Hx := hid hx
      clear HB hx
      go_wp2
      go_ret
      exact ⟨rfl, Hx.out⟩
    · have HI := hid (ih (n / 10) (by omega) (by omega) w)
      have HB := fun w1 => hid (rbyte_any (48 + n % 10) (by omega) w1)
      have Hd := hid (decB_big h)
      have z1 := decB_size (n / 10) (by omega)
      have z2 := oneB_size (48 + n % 10)
      rw [show ((n / 10 : Nat) : Int) = (n : Int) / 10 from by omega] at HI
      rw [show ((48 + n % 10 : Nat) : Int) = 48 + (n : Int) % 10 from by omega] at HB
      clear ih
      go_enter Tryz.func140, Tryz.ntmps140
      go_wp2_with fail
      refine HI.out.mono ?_
      intro e w1 hx
      obtain ⟨rfl, hx⟩ := hx
      have Hx := hid hx
      have HB1 := HB w1
      clear HI HB hx
      go_wp2_with fail
      refine HB1.out.mono ?_
      intro e w2 hx
      obtain ⟨rfl, hx⟩ := hx
      have Hx2 := hid (Hx.out.trans hx)
      clear HB1 hx
      go_wp2
      go_ret
      exact ⟨by rw [← Hd.out]; rfl, Hx2.out⟩
set_option maxRecDepth 100000 in
theorem rdecimal_any (n : Nat) (hn : n < 1000000) (w : World) : Calls Tryz.prog 100 #[.int .i64 (n : Int)] w fun e w' => e = .returned (.string (decB n)) ∧ Ext w w' := by
  have HI := hid (rbelow_any n hn w)
  go_enter Tryz.func100, Tryz.ntmps100
  go_wp2_with fail
  refine HI.out.mono ?_
  intro e w1 hx
  obtain ⟨rfl, hx⟩ := hx
  have Hx := hid hx
  clear HI hx
  go_wp2
  go_ret
  exact ⟨rfl, Hx.out⟩
theorem join_snoc (sep x : List UInt8) : ∀ ps : List (List UInt8), ps ≠ [] → Lib.join (ps ++ [x]) sep = Lib.join ps sep ++ (sep ++ x)
  | [], h => absurd rfl h
  | [y], _ => by
    show Lib.join (y :: x :: []) sep = _
    rw [join_two, Lib.join_one, Lib.join_one]
  | y :: z :: r, _ => by
    show Lib.join (y :: z :: (r ++ [x])) sep = _
    rw [join_two, join_two]
    have := join_snoc sep x (z :: r) (by simp)
    rw [show z :: (r ++ [x]) = (z :: r) ++ [x] from rfl, this]
    simp [List.append_assoc]
def txtUp (l : List Int) (k : Nat) : List UInt8 := 123 :: Lib.join ((l.take k).map Lib.itoa) [44]
theorem txtUp_next {l : List Int} {k : Nat} {q : Int} (h : l[k]? = some q) : txtUp l (k + 1) = txtUp l k ++ ((if k = 0 then [] else [44]) ++ Lib.itoa q) := by
  unfold txtUp
  rw [List.take_add_one, h, List.map_append]
  by_cases hk : k = 0
  · subst hk
    simp [Lib.join, List.intercalate]
  · rw [if_neg hk]
    have hlt : k < l.length := (List.getElem?_eq_some_iff.1 h).1
    show 123 :: Lib.join (_ ++ [Lib.itoa q]) [44] = _
    rw [join_snoc _ _ _ (fun e => by
      have := congrArg List.length e
      rw [List.length_map, List.length_take, List.length_nil] at this
      omega)]
    rfl
set_option maxRecDepth 100000 in
set_option maxHeartbeats 1600000 in
theorem rsettext_any (v : Value) (l : List Int) (w : World) (n0 : Nat) (h : IntsR w n0 v l) (hin : InR l) (hl : l.length ≤ 1000) :
    Calls Tryz.prog 49 #[v] w fun e w' => ∃ t : ByteArray, e = .returned (.string t) ∧ t.toList = txtV l ∧ Ext w w' := by
  have HS := hid h
  have Hin := hid hin
  obtain ⟨a, cap, rfl, h2, h3, h4, _⟩ := id h
  clear h2 h3 h4 h hin
  go_enter Tryz.func49, Tryz.ntmps49
  go_wp2
  go_loopw [3, 4] (fun t3 t4 wr => ∃ (k : Nat) (b : ByteArray), t4 = .int .i64 (k : Int) ∧ k ≤ l.length ∧ t3 = .string b ∧ b.toList = txtUp l k ∧ b.size ≤ 1 + 7 * k ∧ Ext w wr) (fun _ t4 _ => l.length - (intOf t4).toNat)
  case atStart => exact ⟨0, ⟨#[123]⟩, rfl, Nat.zero_le _, rfl, by rw [Lib.toList_data]; rfl, by decide, Ext.refl _⟩
  case round =>
    obtain ⟨k, b, rfl, hk, rfl, hb, hbs, hx⟩ := hrel
    have Hb := hid hb
    have Hx := hid hx
    clear hb hx
    by_cases hlt : k < l.length
    · obtain ⟨y, q, hy, hq, hc⟩ := (HS.out.old (Hx.out.old n0)).at hlt
      subst hy
      have hqr := Hin.out q (List.mem_of_getElem? hq)
      obtain ⟨n, rfl⟩ : ∃ n : Nat, q = n := ⟨q.toNat, by omega⟩
      have HD := hid (rdecimal_any n (by omega) wr)
      have Hn := hid (txtUp_next hq)
      have z1 := decB_size n (by omega)
      clear hq hqr
      by_cases h0 : k = 0
      · subst h0
        have hc0 : wr.cell? y = some (.int .i64 (n : Int)) := by rw [show y.add 0 = y from by cases y; simp [Addr.add]] at hc; exact hc
        go_wp2_with fail
        refine HD.out.mono ?_
        intro e w1 hx
        obtain ⟨rfl, hx⟩ := hx
        have Hx1 := hid (Hx.out.trans hx)
        clear HD hx hc
        go_wp2
        go_roundw
        case rel => exact ⟨1, _, by go_num, by omega, rfl, by rw [toList_append2, Hb.out, Hn.out, Lib.itoa_nonneg]; simp [decB, Lib.toList_data], by simp only [ByteArray.size_append]; (try simp only [show (⟨#[44]⟩ : ByteArray).size = 1 from rfl]); omega, Hx1.out⟩
        case measure => simp [intOf]; omega
      · have hk0 : 0 < k := by omega
        go_wp2_with fail
        refine HD.out.mono ?_
        intro e w1 hx
        obtain ⟨rfl, hx⟩ := hx
        have Hx1 := hid (Hx.out.trans hx)
        clear HD hx hc
        go_wp2
        go_roundw
        case rel => exact ⟨k + 1, _, by go_num, by omega, rfl, by rw [toList_append2, toList_append2, Hb.out, Hn.out, if_neg h0, Lib.itoa_nonneg]; simp [decB, Lib.toList_data], by simp only [ByteArray.size_append]; (try simp only [show (⟨#[44]⟩ : ByteArray).size = 1 from rfl]); omega, Hx1.out⟩
        case measure => simp [intOf]; omega
    · obtain rfl : k = l.length := by omega
      clear hk hlt
      go_wp2
      go_ret
      refine ⟨_, rfl, ?_, Hx.out⟩
      rw [toList_append2, Hb.out]
      unfold txtUp txtV
      rw [List.take_of_length_le (Nat.le_refl _), Lib.toList_data]
      rfl
set_option maxRecDepth 100000 in
set_option maxHeartbeats 1600000 in
theorem rseterror_any (v : Value) (l : List Int) (w : World) (n0 : Nat) (h : IntsR w n0 v l) :
    Calls Tryz.prog 45 #[v] w fun e w' => e = .returned (.int .i64 (chkE l : Int)) ∧ Ext w w' := by
  obtain ⟨a, cap, rfl, h2, h3, h4, h5⟩ := id h
  have H4 := hid h4
  have H5 := hid h5
  have hml : (l.length : Int) ≤ 9223372036854775807 := by omega
  clear h h2 h3 h4 h5
  go_enter Tryz.func45, Tryz.ntmps45
  go_wp2
  go_loop [3] (fun t3 => ∃ k : Nat, t3 = .int .i64 (k : Int) ∧ k ≤ l.length ∧ ∀ j t, j < k → l[j]? = some t → 0 ≤ t ∧ t < 1000) (fun t3 => l.length - (intOf t3).toNat)
  case atStart => exact ⟨0, rfl, Nat.zero_le _, fun j t h => by omega⟩
  case round =>
    obtain ⟨k, rfl, hk, hp⟩ := hrel
    have Hp := hid hp
    clear hp
    by_cases hlt : k < l.length
    · obtain ⟨y, rfl⟩ := H4.out (by omega)
      obtain ⟨q, hq⟩ : ∃ q, l[k]? = some q := ⟨_, List.getElem?_eq_getElem hlt⟩
      have hc := (H5.out y rfl (by omega)).2 k hlt q hq
      have Hq := hid hq
      clear hq
      by_cases hq0 : q < 0
      · have Hr := hid (chkE_two (List.mem_of_getElem? Hq.out) (by omega))
        go_wp2
        go_ret
        exact ⟨by rw [Hr.out]; rfl, Ext.refl _⟩
      · by_cases hq1 : 1000 ≤ q
        · have Hr := hid (chkE_two (List.mem_of_getElem? Hq.out) (by omega))
          go_wp2
          go_ret
          exact ⟨by rw [Hr.out]; rfl, Ext.refl _⟩
        · have Hb : Hid (0 ≤ q ∧ q < 1000) := hid (by omega)
          go_wp2
          refine ⟨⟨k + 1, by go_num, by omega, fun j t hj ht => ?_⟩, by simp [intOf]; omega⟩
          by_cases hjk : j = k
          · subst hjk
            obtain rfl := Option.some.inj (Hq.out.symm.trans ht)
            exact Hb.out
          · exact Hp.out j t (by omega) ht
    · obtain rfl : k = l.length := by omega
      have Hin : Hid (InR l) := hid fun t ht => by
        obtain ⟨j, hj, e⟩ := List.mem_iff_getElem.1 ht
        exact Hp.out j t hj (by rw [List.getElem?_eq_getElem hj, e])
      go_wp2
      go_loopw [4] (fun t4 wr => ∃ i : Nat, t4 = .int .i64 ((i : Int) + 1) ∧ i ≤ l.length ∧ (∀ j, j < i → j + 1 < l.length → l.getD j 0 < l.getD (j + 1) 0) ∧ Ext w wr) (fun t4 _ => l.length + 1 - (intOf t4).toNat)
      case atStart => exact ⟨0, rfl, Nat.zero_le _, fun j hj => by omega, Ext.refl _⟩
      case round =>
        obtain ⟨i, rfl, hi, hp, hx⟩ := hrel
        have Hs := hid hp
        have Hx := hid hx
        clear hp hx
        by_cases hlt : i + 1 < l.length
        · obtain ⟨y, rfl⟩ := H4.out (by omega)
          obtain ⟨p, hp⟩ : ∃ p, l[i]? = some p := ⟨_, List.getElem?_eq_getElem (by omega)⟩
          obtain ⟨q, hq⟩ : ∃ q, l[i + 1]? = some q := ⟨_, List.getElem?_eq_getElem hlt⟩
          have hcp := (H5.out y rfl (by omega)).2 i (by omega) p hp
          have hcq := (H5.out y rfl (by omega)).2 (i + 1) hlt q hq
          rw [add_posU y (i + 1) (by omega)] at hcq
          have c0 : ∀ w1, Keep (fun _ => False) wr w1 → w1.cell? (y.add i) = some (.int .i64 p) := fun w1 k => (Hx.out.trans k.ext).cellx hcp
          have c1 : ∀ w1, Keep (fun _ => False) wr w1 → w1.cell? ⟨y.block, y.off + (i + 1), none⟩ = some (.int .i64 q) := fun w1 k => (Hx.out.trans k.ext).cellx hcq
          have Hp : Hid (l.getD i 0 = p) := hid (by rw [List.getD_eq_getElem?_getD, hp]; rfl)
          have Hq : Hid (l.getD (i + 1) 0 = q) := hid (by rw [List.getD_eq_getElem?_getD, hq]; rfl)
          clear hp hq hcp hcq
          by_cases hpq : q ≤ p
          · have Hr := hid (chkE_ten Hin.out hlt (by rw [Hp.out, Hq.out]; exact hpq))
            go_wp2
            refine wp_flowT (fun _ => False) (by kernel_rfl) (by kernel_rfl) ?_
            repeat (apply FlowT.d; (intro w1 hk; unfold does; go_simp; (try go_ints); (first | exact DetR.mk | (simp only [↓IntWalk.iteOmega, Oper.doesUpon_value]; exact DetR.mk) | (simp only [↓IntWalk.iteOmega]; go_simp; (try go_ints); exact DetR.mk))); simp only [Act.put, qS0, qS1, qS2])
            refine FlowT.fin fun w1 hx1 hk1 => ?_
            have Hx1 := hid (Hx.out.trans hx1)
            clear hx1 hk1 c0 c1
            go_wp2
            go_ret
            exact ⟨by rw [Hr.out]; rfl, Hx1.out⟩
          · have Hn : Hid (l.getD i 0 < l.getD (i + 1) 0) := hid (by rw [Hp.out, Hq.out]; omega)
            go_wp2
            refine wp_flowT (fun _ => False) (by kernel_rfl) (by kernel_rfl) ?_
            repeat (apply FlowT.d; (intro w1 hk; unfold does; go_simp; (try go_ints); (first | exact DetR.mk | (simp only [↓IntWalk.iteOmega, Oper.doesUpon_value]; exact DetR.mk) | (simp only [↓IntWalk.iteOmega]; go_simp; (try go_ints); exact DetR.mk))); simp only [Act.put, qS0, qS1, qS2])
            refine FlowT.fin fun w1 hx1 hk1 => ?_
            have Hx1 := hid (Hx.out.trans hx1)
            clear hx1 hk1 c0 c1
            go_wp2
            go_roundw
            case rel =>
              refine ⟨i + 1, by go_num, by omega, fun j hj hl => ?_, Hx1.out⟩
              by_cases hji : j = i
              · subst hji; exact Hn.out
              · exact Hs.out j (by omega) hl
            case measure => simp [intOf]; omega
        · have Hok : Hid (chkE l = 0) := hid (chkE_ok Hin.out fun j hj => Hs.out j (by omega) hj)
          go_wp2
          go_ret
          exact ⟨by rw [Hok.out]; rfl, Hx.out⟩
def strV (p : List UInt8) : Value := .string ⟨p.toArray⟩
def SRow (base : Nat) (w : World) (v : Value) (ps : List (List UInt8)) : Prop := w.ownsRow base 9 1 v ps.length (ps.map strV)
theorem extract_str (s : ByteArray) (f i : Nat) : Value.string (s.extract f i) = strV ((s.data.toList.drop f).take (i - f)) := by
  unfold strV
  rw [← Lib.extract_data]
theorem extract_end (s : ByteArray) (f : Nat) : Value.string (s.extract f s.size) = strV (s.data.toList.drop f) := by
  rw [extract_str, List.take_of_length_le]
  rw [List.length_drop, bs_list]
  exact Nat.le_refl _
theorem byte_at (s : ByteArray) {i : Nat} (h : i < s.size) : s.data.toList[i]? = some s[i] := by
  rw [List.getElem?_eq_getElem (by rw [bs_list]; exact h)]
  rfl
theorem drop_at {s : ByteArray} {f i : Nat} (hf : f ≤ i) (h : i < s.size) : s.data.toList.drop f = (s.data.toList.drop f).take (i - f) ++ s[i] :: s.data.toList.drop (i + 1) := by
  conv => lhs; rw [← List.take_append_drop (i - f) (s.data.toList.drop f)]
  congr 1
  rw [List.drop_drop, show f + (i - f) = i from by omega]
  have hl : i < s.data.toList.length := by rw [bs_list]; exact h
  rw [List.drop_eq_getElem_cons hl]
  rfl
set_option maxRecDepth 100000 in
set_option maxHeartbeats 1600000 in
theorem rcut_any (s : ByteArray) (c : UInt8) (w : World) (hs : s.size ≤ 1000000) :
    Calls Tryz.prog 71 #[.string s, .int .u8 (c.toNat : Int)] w fun e w' => ∃ v, e = .returned v ∧ SRow w.heap.size w' v (cutc c s.data.toList) ∧ Ext w w' := by
  go_enter Tryz.func71, Tryz.ntmps71
  go_wp2
  go_loopw [5, 6, 7] (fun t5 t6 t7 wr => ∃ (i f : Nat) (ps : List (List UInt8)), t7 = .int .i64 (i : Int) ∧ t6 = .int .i64 (f : Int) ∧ f ≤ i ∧ i ≤ s.size ∧ Hid (cutc c s.data.toList = ps ++ cutc c (s.data.toList.drop f) ∧ c ∉ (s.data.toList.drop f).take (i - f)) ∧ ps.length ≤ i ∧ SRow w.heap.size wr t5 ps ∧ Ext w wr) (fun _ _ t7 _ => s.size - (intOf t7).toNat)
  case atStart => exact ⟨0, 0, [], rfl, rfl, Nat.le_refl _, Nat.zero_le _, hid ⟨rfl, by simp⟩, Nat.zero_le _, World.ownsRow_nil _ _ _ _, Ext.refl _⟩
  case round =>
    obtain ⟨i, f, ps, rfl, rfl, hfi, his, hcut, hpl, hr, hx⟩ := hrel
    obtain ⟨a5, c5, rfl⟩ := row_form hr
    have Hr := hid hr
    have Hx := hid hx
    clear hr hx
    by_cases hlt : i < s.size
    · by_cases hb : (s[i].toNat : Int) = (c.toNat : Int)
      · have hbc : s[i] = c := UInt8.toNat_inj.1 (by omega)
        have hd := drop_at hfi hlt
        rw [hbc] at hd
        have Hn : Hid (cutc c s.data.toList = (ps ++ [(s.data.toList.drop f).take (i - f)]) ++ cutc c (s.data.toList.drop (i + 1)) ∧ c ∉ (s.data.toList.drop (i + 1)).take (i + 1 - (i + 1))) := hid ⟨by
          rw [hcut.out.1]
          conv => lhs; rw [hd]
          rw [cutc_app hcut.out.2]
          simp, by simp⟩
        have He := hid (extract_str s f i)
        have hxa : Hid (Ext w (wr.alloc (.cells #[.string (s.extract f i)] 9))) := hid (Hx.out.alloc _)
        have Hra := hid (own_ext Hr.out ((Ext.refl wr).alloc (.cells #[.string (s.extract f i)] 9)))
        clear hbc hd hcut
        go_wp2_with (at_builtin; refine wpList_append_el w.heap.size hxa.out.size 22 9 (.string ⟨#[]⟩) 1 16 Tryz.underlying22 str_info rfl (by omega) (by omega) rfl _ _ rfl (.slice a5 ps.length c5) ps.length (ps.map strV) rfl Hra.out wr.heap.size [.string (s.extract f i)] rfl (by simp [Value.oneCell']) rfl (Blk.new _ _ _) (by omega) ?_; intro v' w' h1 h2 h4; obtain ⟨a', c', rfl⟩ := row_form h1; have h3 := hid (Keep.new hxa.out h2 (fun k hk => (World.ownsRow.lt Hra.out k hk).1)); have h1 := hid h1; clear h2 h4)
        go_roundw
        case rel =>
          refine ⟨i + 1, i + 1, ps ++ [(s.data.toList.drop f).take (i - f)], by go_num, by go_num, Nat.le_refl _, by omega, Hn, by simp; omega, ?_, h3.out⟩
          unfold SRow
          rw [List.length_append, List.map_append, List.map_singleton, ← He.out]
          exact h1.out
        case measure => simp [intOf]; omega
      · have Hn : Hid (cutc c s.data.toList = ps ++ cutc c (s.data.toList.drop f) ∧ c ∉ (s.data.toList.drop f).take (i + 1 - f)) := hid ⟨hcut.out.1, by
          rw [show i + 1 - f = (i - f) + 1 from by omega, List.take_add_one, List.mem_append, List.getElem?_drop, show f + (i - f) = i from by omega, byte_at s hlt]
          rintro (h | h)
          · exact hcut.out.2 h
          · have : c = s[i] := by simpa using h
            exact hb (by rw [this])⟩
        clear hcut
        go_wp2
        go_roundw
        case rel => exact ⟨i + 1, f, ps, by go_num, rfl, by omega, by omega, Hn, by omega, Hr.out, Hx.out⟩
        case measure => simp [intOf]; omega
    · obtain rfl : i = s.size := by omega
      have Hn : Hid (cutc c s.data.toList = ps ++ [s.data.toList.drop f]) := hid (by
        have h2 := hcut.out.2
        rw [List.take_of_length_le (by rw [List.length_drop, bs_list]; exact Nat.le_refl _)] at h2
        rw [hcut.out.1, cutc_free h2])
      have He := hid (extract_end s f)
      have hxa : Hid (Ext w (wr.alloc (.cells #[.string (s.extract f s.size)] 9))) := hid (Hx.out.alloc _)
      have Hra := hid (own_ext Hr.out ((Ext.refl wr).alloc (.cells #[.string (s.extract f s.size)] 9)))
      clear hcut
      go_wp2_with (at_builtin; refine wpList_append_el w.heap.size hxa.out.size 22 9 (.string ⟨#[]⟩) 1 16 Tryz.underlying22 str_info rfl (by omega) (by omega) rfl _ _ rfl (.slice a5 ps.length c5) ps.length (ps.map strV) rfl Hra.out wr.heap.size [.string (s.extract f s.size)] rfl (by simp [Value.oneCell']) rfl (Blk.new _ _ _) (by omega) ?_; intro v' w' h1 h2 h4; obtain ⟨a', c', rfl⟩ := row_form h1; have h3 := hid (Keep.new hxa.out h2 (fun k hk => (World.ownsRow.lt Hra.out k hk).1)); have h1 := hid h1; clear h2 h4)
      go_ret
      refine ⟨_, rfl, ?_, h3.out⟩
      rw [Hn.out]
      unfold SRow
      rw [List.length_append, List.map_append, List.map_singleton, ← He.out]
      exact h1.out
def numI (p : List UInt8) : Int := match numV p with | some v => v | none => -1
theorem numI_of (p : List UInt8) : numI p = match numR p with | some n => (n : Int) | none => -1 := by
  unfold numI
  rw [numR_eq]
  cases numR p <;> rfl
theorem valR_small {l : List UInt8} (h : digs l = true) (hl : l.length ≤ 9) : valR l < 1000000000 := by
  have := valR_lt l h
  exact Nat.lt_of_lt_of_le this (Nat.pow_le_pow_right (by decide) hl)
theorem digs_bad {s : ByteArray} {i : Nat} (h : i < s.size) (hb : ¬ (48 ≤ s[i].toNat ∧ s[i].toNat ≤ 57)) : digs s.data.toList = false := by
  cases hd : digs s.data.toList with
  | false => rfl
  | true => exact absurd (of_decide_eq_true (List.all_eq_true.1 hd _ (List.mem_of_getElem? (byte_at s h)))) hb
set_option maxRecDepth 100000 in
set_option maxHeartbeats 1600000 in
theorem rnumberof_any (p : ByteArray) (w : World) (hp : p.size ≤ 1000000) :
    Calls Tryz.prog 101 #[.string p, .int .i64 9] w fun e w' => e = .returned (.int .i64 (numI p.data.toList)) ∧ Ext w w' := by
  by_cases h1 : (p.size : Int) < 1
  · go_enter Tryz.func101, Tryz.ntmps101
    have Hn : Hid (numI p.data.toList = -1) := hid (by rw [numI_of]; unfold numR; rw [bs_list]; first | (rw [if_pos (by omega)]) | (rw [hd0]; split <;> rfl))
    go_wp2
    go_ret
    exact ⟨by rw [Hn.out]; rfl, Ext.refl _⟩
  · by_cases h9 : (9 : Int) < (p.size : Int)
    · go_enter Tryz.func101, Tryz.ntmps101
      have Hn : Hid (numI p.data.toList = -1) := hid (by rw [numI_of]; unfold numR; rw [bs_list]; first | (rw [if_pos (by omega)]) | (rw [hd0]; split <;> rfl))
      go_wp2
      go_ret
      exact ⟨by rw [Hn.out]; rfl, Ext.refl _⟩
    · have h0 : 0 < p.size := by omega
      have hhead : p.data.toList.head? = some p[0] := by rw [List.head?_eq_getElem?]; exact byte_at p h0
      by_cases hz : (1 : Int) < (p.size : Int) ∧ (p[0].toNat : Int) = 48
      · obtain ⟨hz1, hz2⟩ := hz
        have hb : p[0] = 48 := UInt8.toNat_inj.1 (by have : (48 : UInt8).toNat = 48 := rfl; omega)
        have Hn : Hid (numI p.data.toList = -1) := hid (by
          rw [numI_of]
          unfold numR
          rw [bs_list, hhead, hb, if_pos (.inr (.inr ⟨by omega, rfl⟩))])
        clear hb hhead
        go_enter Tryz.func101, Tryz.ntmps101
        go_wp2
        go_ret
        exact ⟨by rw [Hn.out]; rfl, Ext.refl _⟩
      · have Hc : Hid (numR p.data.toList = if digs p.data.toList then some (valR p.data.toList) else none) := hid (by
          unfold numR
          rw [bs_list, hhead, if_neg]
          rintro (g | g | ⟨g1, g2⟩)
          · omega
          · omega
          · have : p[0] = 48 := by simpa using g2
            exact hz ⟨by omega, by rw [this]; rfl⟩)
        have hz' : (1 : Int) < (p.size : Int) → ¬ ((p[0].toNat : Int) = 48) := fun h e => hz ⟨h, e⟩
        clear hhead hz
        by_cases hz1 : (1 : Int) < (p.size : Int)
        · have hz2 := hz' hz1
          clear hz'
          go_enter Tryz.func101, Tryz.ntmps101
          go_wp2
          go_loop [5, 6] (fun t5 t6 => ∃ i : Nat, t6 = .int .i64 (i : Int) ∧ i ≤ p.size ∧ Hid (digs (p.data.toList.take i) = true) ∧ t5 = .int .i64 (valR (p.data.toList.take i) : Int)) (fun _ t6 => p.size - (intOf t6).toNat)
          case atStart => exact ⟨0, rfl, Nat.zero_le _, hid rfl, rfl⟩
          case round =>
            obtain ⟨i, rfl, hi, hdg, rfl⟩ := hrel
            obtain ⟨n, hn⟩ : ∃ n, n = valR (p.data.toList.take i) := ⟨_, rfl⟩
            have hsm : n < 1000000000 := by rw [hn]; exact valR_small hdg.out (by rw [List.length_take, bs_list]; omega)
            rw [← hn]
            have Hnn := hid hn
            clear hn
            by_cases hlt : i < p.size
            · have hb : p[i].toNat < 256 := byte_lt _
              by_cases d1 : (p[i].toNat : Int) < 48
              · have Hn : Hid (numI p.data.toList = -1) := hid (by rw [numI_of, Hc.out, digs_bad hlt (by omega)]; rfl)
                clear hdg
                go_wp2
                go_ret
                exact ⟨by rw [Hn.out]; rfl, Ext.refl _⟩
              · by_cases d2 : (57 : Int) < (p[i].toNat : Int)
                · have Hn : Hid (numI p.data.toList = -1) := hid (by rw [numI_of, Hc.out, digs_bad hlt (by omega)]; rfl)
                  clear hdg
                  go_wp2
                  go_ret
                  exact ⟨by rw [Hn.out]; rfl, Ext.refl _⟩
                · have Hs : Hid (p.data.toList.take (i + 1) = p.data.toList.take i ++ [p[i]]) := hid (by rw [List.take_add_one, byte_at p hlt]; rfl)
                  have Hd : Hid (digs (p.data.toList.take (i + 1)) = true) := hid (by
                    rw [Hs.out, digs_snoc, hdg.out]
                    simp only [Bool.true_and, decide_eq_true_eq]
                    omega)
                  have Hv : Hid (valR (p.data.toList.take (i + 1)) = 10 * n + (p[i].toNat - 48)) := hid (by rw [Hs.out, valR_snoc, Hnn.out])
                  clear hdg
                  go_wp2
                  exact ⟨⟨i + 1, by go_num, by omega, Hd, by rw [Hv.out]; go_num⟩, by simp [intOf]; omega⟩
            · obtain rfl : i = p.size := by omega
              have Hn : Hid (numI p.data.toList = (n : Int)) := hid (by
                have hd := hdg.out
                have hv := Hnn.out
                rw [List.take_of_length_le (by rw [bs_list]; exact Nat.le_refl _)] at hd hv
                rw [numI_of, Hc.out, hd, hv]
                rfl)
              clear hdg hi
              go_wp2
              go_ret
              exact ⟨by rw [Hn.out]; rfl, Ext.refl _⟩
        · clear hz'
          go_enter Tryz.func101, Tryz.ntmps101
          go_wp2
          go_loop [5, 6] (fun t5 t6 => ∃ i : Nat, t6 = .int .i64 (i : Int) ∧ i ≤ p.size ∧ Hid (digs (p.data.toList.take i) = true) ∧ t5 = .int .i64 (valR (p.data.toList.take i) : Int)) (fun _ t6 => p.size - (intOf t6).toNat)
          case atStart => exact ⟨0, rfl, Nat.zero_le _, hid rfl, rfl⟩
          case round =>
            obtain ⟨i, rfl, hi, hdg, rfl⟩ := hrel
            obtain ⟨n, hn⟩ : ∃ n, n = valR (p.data.toList.take i) := ⟨_, rfl⟩
            have hsm : n < 1000000000 := by rw [hn]; exact valR_small hdg.out (by rw [List.length_take, bs_list]; omega)
            rw [← hn]
            have Hnn := hid hn
            clear hn
            by_cases hlt : i < p.size
            · have hb : p[i].toNat < 256 := byte_lt _
              by_cases d1 : (p[i].toNat : Int) < 48
              · have Hn : Hid (numI p.data.toList = -1) := hid (by rw [numI_of, Hc.out, digs_bad hlt (by omega)]; rfl)
                clear hdg
                go_wp2
                go_ret
                exact ⟨by rw [Hn.out]; rfl, Ext.refl _⟩
              · by_cases d2 : (57 : Int) < (p[i].toNat : Int)
                · have Hn : Hid (numI p.data.toList = -1) := hid (by rw [numI_of, Hc.out, digs_bad hlt (by omega)]; rfl)
                  clear hdg
                  go_wp2
                  go_ret
                  exact ⟨by rw [Hn.out]; rfl, Ext.refl _⟩
                · have Hs : Hid (p.data.toList.take (i + 1) = p.data.toList.take i ++ [p[i]]) := hid (by rw [List.take_add_one, byte_at p hlt]; rfl)
                  have Hd : Hid (digs (p.data.toList.take (i + 1)) = true) := hid (by
                    rw [Hs.out, digs_snoc, hdg.out]
                    simp only [Bool.true_and, decide_eq_true_eq]
                    omega)
                  have Hv : Hid (valR (p.data.toList.take (i + 1)) = 10 * n + (p[i].toNat - 48)) := hid (by rw [Hs.out, valR_snoc, Hnn.out])
                  clear hdg
                  go_wp2
                  exact ⟨⟨i + 1, by go_num, by omega, Hd, by rw [Hv.out]; go_num⟩, by simp [intOf]; omega⟩
            · obtain rfl : i = p.size := by omega
              have Hn : Hid (numI p.data.toList = (n : Int)) := hid (by
                have hd := hdg.out
                have hv := Hnn.out
                rw [List.take_of_length_le (by rw [bs_list]; exact Nat.le_refl _)] at hd hv
                rw [numI_of, Hc.out, hd, hv]
                rfl)
              clear hdg hi
              go_wp2
              go_ret
              exact ⟨by rw [Hn.out]; rfl, Ext.refl _⟩
theorem suffix_last {r : List UInt8} {b : UInt8} : Lib.hasSuffix r [b] = true ↔ r.getLast? = some b := by
  unfold Lib.hasSuffix
  rw [List.isSuffixOf_iff_suffix]
  constructor
  · rintro ⟨t, rfl⟩
    simp
  · intro h
    obtain ⟨ys, hy⟩ := List.getLast?_eq_some_iff.1 h
    exact ⟨ys, hy.symm⟩
theorem inner_short {s : ByteArray} (h : s.size < 2) : innerV s.data.toList = none := by
  rw [← bs_list] at h
  unfold innerV
  rw [if_neg]
  rintro ⟨h1, h2⟩
  rw [suffix_last] at h2
  unfold Lib.trimPrefix at h2
  rw [if_pos h1] at h2
  have h3 : s.data.toList.drop 1 = [] := List.drop_eq_nil_of_le (by omega)
  change (s.data.toList.drop 1).getLast? = _ at h2
  rw [h3] at h2
  cases h2
theorem inner_iff {s : ByteArray} (h : 2 ≤ s.size) : innerV s.data.toList = if s[0]'(by omega) = 123 ∧ s[s.size - 1]'(by omega) = 125 then some (s.extract 1 (s.size - 1)).data.toList else none := by
  have e0 := byte_at s (i := 0) (by omega)
  have e1 := byte_at s (i := s.size - 1) (by omega)
  generalize s[0]'(by omega) = b0 at *
  generalize s[s.size - 1]'(by omega) = b1 at *
  rw [Lib.extract_data]
  have hl := bs_list s
  generalize s.data.toList = l at *
  cases l with
  | nil => simp at hl; omega
  | cons b r =>
    obtain rfl : b = b0 := by simpa using e0
    have hr : r.length = s.size - 1 := by simp at hl; omega
    have hlast : r.getLast? = some b1 := by
      rw [List.getLast?_eq_getElem?]
      rw [show s.size - 1 = (r.length - 1) + 1 from by omega, List.getElem?_cons_succ] at e1
      exact e1
    unfold innerV
    by_cases hb : b = 123
    · subst hb
      have hp : Lib.hasPrefix (123 :: r) [123] = true := by simp [Lib.hasPrefix, List.isPrefixOf]
      have ht : Lib.trimPrefix (123 :: r) [123] = r := by unfold Lib.trimPrefix; rw [if_pos hp]; rfl
      rw [ht]
      by_cases h1 : b1 = 125
      · subst h1
        have hs := suffix_last.2 hlast
        rw [if_pos ⟨hp, hs⟩, if_pos ⟨rfl, rfl⟩]
        unfold Lib.trimSuffix
        rw [if_pos hs]
        simp only [List.drop_succ_cons, List.drop_zero, List.length_singleton]
        congr 2
        omega
      · rw [if_neg fun h => h1 (by have := suffix_last.1 h.2; rw [hlast] at this; exact Option.some.inj this), if_neg fun h => h1 h.2]
    · rw [if_neg fun h => hb (by have := h.1; simp [Lib.hasPrefix, List.isPrefixOf] at this; exact this.symm), if_neg fun h => hb h.1]
theorem numI_neg {p : List UInt8} (h : numI p < 0) : numV p = none := by
  unfold numI at h
  cases hv : numV p with
  | none => rfl
  | some v =>
    rw [hv] at h
    obtain ⟨n, rfl, _⟩ := numV_some hv
    have h : (n : Int) < 0 := h
    omega
theorem numI_pos {p : List UInt8} (h : ¬ numI p < 0) : numV p = some (numI p) := by
  unfold numI at h ⊢
  cases hv : numV p with
  | none => rw [hv] at h; exact absurd (by decide : (-1 : Int) < 0) h
  | some v => rfl
theorem numI_lt {p : List UInt8} : numI p ≤ 9223372036854775807 ∧ -1 ≤ numI p := by
  unfold numI
  cases hv : numV p with
  | none => exact ⟨by decide, by decide⟩
  | some v =>
    obtain ⟨n, rfl, rfl, h9⟩ := numV_some hv
    have := dec_lt h9
    show (n : Int) ≤ _ ∧ -1 ≤ (n : Int)
    omega
set_option maxRecDepth 100000 in
set_option maxHeartbeats 1600000 in
theorem rreadset_any (s : ByteArray) (w : World) (hs : s.size ≤ 1000000) :
    Calls Tryz.prog 50 #[.string s] w fun e w' => ∃ v c l, e = .returned (.tuple #[v, .int .i64 ((c : Nat) : Int)]) ∧ readV s.data.toList = (c, l) ∧ IRow w.heap.size w' v l ∧ Ext w w' := by
  by_cases h2 : (s.size : Int) < 2
  · have Hn : Hid (readV s.data.toList = (1, [])) := hid (by unfold readV; rw [inner_short (by omega)])
    go_enter Tryz.func50, Tryz.ntmps50
    go_wp2
    go_ret2
    exact ⟨_, 1, [], rfl, Hn.out, IRow.nil _ _, Ext.refl _⟩
  · have h2' : 2 ≤ s.size := by omega
    have hin := inner_iff h2'
    have hb0 : (s[0]'(by omega)).toNat < 256 := byte_lt _
    have hlt1 : s.size - 1 < s.size := by omega
    have hb1 : (s[s.size - 1]'(by omega)).toNat < 256 := byte_lt _
    by_cases hc0 : ((s[0]'(by omega)).toNat : Int) = 123
    · by_cases hc1 : ((s[s.size - 1]'(by omega)).toNat : Int) = 125
      · rw [if_pos ⟨UInt8.toNat_inj.1 (by have : (123 : UInt8).toNat = 123 := rfl; omega), UInt8.toNat_inj.1 (by have : (125 : UInt8).toNat = 125 := rfl; omega)⟩] at hin
        by_cases h22 : (s.size : Int) = 2
        · have Hn : Hid (readV s.data.toList = (0, [])) := hid (by
            unfold readV
            rw [hin]
            have : (s.extract 1 (s.size - 1)).data.toList = [] := by
              rw [Lib.extract_data, show s.size - 1 - 1 = 0 from by omega]
              rfl
            simp only [this]
            rfl)
          have hq : ((s.size : Int) == 2) = true := by rw [h22]; rfl
          clear hin h22
          go_enter Tryz.func50, Tryz.ntmps50
          go_wp2
          go_ret2
          exact ⟨_, 0, [], rfl, Hn.out, IRow.nil _ _, Ext.refl _⟩
        · obtain ⟨u, hu⟩ : ∃ u, u = s.extract 1 (s.size - 1) := ⟨_, rfl⟩
          have husz : u.size = s.size - 2 := by rw [hu]; simp; omega
          rw [← hu] at hin
          have Hn : Hid (readV s.data.toList = toldV u.data.toList) := hid (by
            unfold readV
            rw [hin]
            simp only
            rw [if_neg]
            · rfl
            · intro h
              have := congrArg List.length h
              rw [bs_list, List.length_nil] at this
              omega)
          have HC := hid (rcut_any u 44 w (by omega))
          rw [show ((44 : UInt8).toNat : Int) = 44 from rfl, hu] at HC
          rw [← hu] at HC
          have Hu := hid hu
          obtain ⟨ps, hps⟩ : ∃ ps, ps = cutc 44 u.data.toList := ⟨_, rfl⟩
          have hpl : ps.length ≤ 1000000 ∧ ∀ p ∈ ps, p.length ≤ 1000000 := by
            have := cutc_len 44 u.data.toList
            rw [← hps, bs_list] at this
            exact ⟨by omega, fun p hp => by have := this.2 p hp; omega⟩
          rw [← hps] at HC
          have Hps := hid hps
          clear hin hu hps husz
          go_enter Tryz.func50, Tryz.ntmps50
          go_wp2_with fail
          rw [← Hu.out]
          refine HC.out.mono ?_
          intro e w1 hx
          obtain ⟨v4, rfl, hr4, hx⟩ := hx
          obtain ⟨a4, c4, rfl⟩ := row_form hr4
          have Hr4 := hid hr4
          have Hx := hid hx
          clear HC hr4 hx hc0 hc1 hb0 hb1
          go_wp2
          go_loopw [5, 6] (fun t5 t6 wr => ∃ (i : Nat) (vs : List Int), t6 = .int .i64 (i : Int) ∧ i ≤ ps.length ∧ Hid (numsV (ps.take i) = some vs) ∧ IRow w1.heap.size wr t5 vs ∧ Ext w1 wr) (fun _ t6 _ => ps.length - (intOf t6).toNat)
          case atStart => exact ⟨0, [], rfl, Nat.zero_le _, hid rfl, IRow.nil _ _, Ext.refl _⟩
          case round =>
            obtain ⟨i, vs, rfl, hi, hvs, hr, hx⟩ := hrel
            obtain ⟨a5, c5, rfl⟩ := hr.form
            have hvl : vs.length ≤ 1000000 := by rw [numsV_len hvs.out, List.length_take]; omega
            have Hr := hid hr
            have Hx1 := hid hx
            clear hr hx
            by_cases hlt : i < ps.length
            · obtain ⟨p, hp⟩ : ∃ p, ps[i]? = some p := ⟨_, List.getElem?_eq_getElem hlt⟩
              obtain ⟨g, cp, e1⟩ := own_some Hr4.out (by omega)
              obtain ⟨rfl, rfl⟩ : a4 = some ⟨g, 0, none⟩ ∧ c4 = cp := by simpa using e1
              have hc := own_get (own_ext Hr4.out Hx1.out) i (u := .string ⟨p.toArray⟩) (by rw [List.getElem?_map, hp]; rfl)
              have HN := hid (rnumberof_any ⟨p.toArray⟩ wr (by
                have := hpl.2 p (List.mem_of_getElem? hp)
                show p.toArray.size ≤ _
                rw [List.size_toArray]; exact this))
              have hdl : (⟨p.toArray⟩ : ByteArray).data.toList = p := rfl
              rw [hdl] at HN
              obtain ⟨n, hn⟩ : ∃ n, n = numI p := ⟨_, rfl⟩
              rw [← hn] at HN
              have hnb := numI_lt (p := p)
              rw [← hn] at hnb
              have Hp := hid hp
              have Hnn := hid hn
              clear hp hdl e1 hn
              go_wp2_with fail
              refine HN.out.mono ?_
              intro e w2 hx
              obtain ⟨rfl, hx⟩ := hx
              have Hx2 := hid (Hx1.out.trans hx)
              have Hr2 := hid (Hr.out.ext hx)
              clear HN hx hc
              by_cases hn0 : n < 0
              · have Hv : Hid (toldV u.data.toList = (1, [])) := hid (by
                  unfold toldV
                  rw [← Hps.out, numsV_bad Hp.out (numI_neg (by rw [← Hnn.out]; exact hn0))])
                go_wp2
                go_ret2
                exact ⟨_, 1, [], rfl, by rw [Hn.out, Hv.out], IRow.nil _ _, Hx.out.trans Hx2.out⟩
              · have Hs : Hid (numsV (ps.take (i + 1)) = some (vs ++ [n])) := hid (by
                  rw [List.take_add_one, Hp.out]
                  show numsV (_ ++ [p]) = _
                  rw [numsV_snoc, hvs.out, numI_pos (by rw [← Hnn.out]; exact hn0), ← Hnn.out])
                have Hra : Hid (IRow w1.heap.size (w2.alloc (.cells #[.int .i64 n] 3)) (.slice a5 vs.length c5) vs) := hid (Hr2.out.ext ((Ext.refl _).alloc _))
                have Hxb := hid (Hx2.out.alloc (.cells #[.int .i64 n] 3))
                clear hvs
                go_wp2_with (at_builtin; refine wpList_append_el w1.heap.size Hxb.out.size 45 3 (.int .i64 0) 1 8 Tryz.underlying45 ints_info rfl (by omega) (by omega) rfl _ _ rfl (.slice a5 vs.length c5) vs.length (icells vs) rfl Hra.out w2.heap.size [.int .i64 n] rfl (by simp [Value.oneCell']) rfl (Blk.new _ _ _) (by omega) ?_; intro v' w' h1 h2 h4; obtain ⟨a', c', rfl⟩ := row_form h1; have h3 := hid (Keep.new Hxb.out h2 (fun k hk => (Hra.out.lt hk).1)); have h1 := hid h1; clear h2 h4)
                go_roundw
                case rel => exact ⟨i + 1, vs ++ [n], by go_num, by omega, Hs, by unfold IRow; rw [icells_append, List.length_append]; exact h1.out, h3.out⟩
                case measure => simp [intOf]; omega
            · obtain rfl : i = ps.length := by omega
              have Hvs : Hid (numsV ps = some vs) := hid (by have := hvs.out; rwa [List.take_of_length_le (Nat.le_refl _)] at this)
              have HE := hid (rseterror_any _ vs wr wr.heap.size (IntsR.own Hr.out (Nat.le_refl _)))
              clear hvs hlt hi
              go_wp2_with fail
              refine HE.out.mono ?_
              intro e w2 hx
              obtain ⟨rfl, hx⟩ := hx
              have Hx2 := hid ((Hx.out.trans Hx1.out).trans hx)
              have Hr2 := hid (Hr.out.ext hx)
              clear HE hx
              by_cases hc : chkE vs = 0
              · have Hv : Hid (toldV u.data.toList = (0, vs)) := hid (by
                  unfold toldV
                  rw [← Hps.out, Hvs.out]
                  simp only
                  rw [if_pos hc])
                rw [hc]
                go_wp2
                go_ret2
                exact ⟨_, 0, vs, rfl, by rw [Hn.out, Hv.out], Hr2.out.base Hx.out.size, Hx2.out⟩
              · have Hv : Hid (toldV u.data.toList = (chkE vs, [])) := hid (by
                  unfold toldV
                  rw [← Hps.out, Hvs.out]
                  simp only
                  rw [if_neg hc])
                obtain ⟨k, hk⟩ : ∃ k, k = chkE vs := ⟨_, rfl⟩
                rw [← hk] at hc Hv ⊢
                have hk0 : 0 < k := by omega
                clear hk hc
                go_wp2
                go_ret2
                exact ⟨_, k, [], rfl, by rw [Hn.out, Hv.out], IRow.nil _ _, Hx2.out⟩
      · rw [if_neg fun h => hc1 (by rw [h.2]; rfl)] at hin
        have Hn : Hid (readV s.data.toList = (1, [])) := hid (by unfold readV; rw [hin])
        clear hin
        go_enter Tryz.func50, Tryz.ntmps50
        go_wp2
        go_ret2
        exact ⟨_, 1, [], rfl, Hn.out, IRow.nil _ _, Ext.refl _⟩
    · rw [if_neg fun h => hc0 (by rw [h.1]; rfl)] at hin
      have Hn : Hid (readV s.data.toList = (1, [])) := hid (by unfold readV; rw [hin])
      clear hin
      go_enter Tryz.func50, Tryz.ntmps50
      go_wp2
      go_ret2
      exact ⟨_, 1, [], rfl, Hn.out, IRow.nil _ _, Ext.refl _⟩
end Go.Proofs.YtbagppdibncfdaaGreatDoor
