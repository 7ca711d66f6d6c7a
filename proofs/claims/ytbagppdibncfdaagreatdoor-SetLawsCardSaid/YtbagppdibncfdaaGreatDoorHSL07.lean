/- Texts of one proof, put together: AS PC CD S8 S9 YW ZZZI ZZZJ. -/
import Derived.Test.YtbagppdibncfdaaGreatDoorHSL01
import Derived.Test.YtbagppdibncfdaaGreatDoorHSL02
import Derived.Test.YtbagppdibncfdaaGreatDoorHSL04
import Derived.Test.YtbagppdibncfdaaGreatDoorHSL05
import Derived.Test.YtbagppdibncfdaaGreatDoorHSL06
import Derived.Lib.LaidTab
set_option linter.unusedSimpArgs false
set_option linter.unusedVariables false
namespace Go.Proofs.YtbagppdibncfdaaGreatDoor
open Go Go.RowKit Go.Extern.Stop Go.Stop Go.Extern
end Go.Proofs.YtbagppdibncfdaaGreatDoor
namespace Go.Proofs.YtbagppdibncfdaaGreatDoor
open Go Go.RowKit
structure AllErrs (w : World) (ad : Nat → Addr) : Prop where
  var : ∀ c, 1 ≤ c ∧ c ≤ 11 → w.cell? ⟨gE c, 0, none⟩ = some (.iface 282 (.pointer (some (ad c))))
  row : ∀ c, 1 ≤ c ∧ c ≤ 11 → ∃ cs t, w.heap[(ad c).block]? = some (.cells cs t (0, 0))
  inj : ∀ c d, 1 ≤ c ∧ c ≤ 11 → 1 ≤ d ∧ d ≤ 11 → ad c = ad d → c = d
  ty : w.cell? ⟨11, 0, none⟩ = some (.iface 229 (.agg #[.pointer (some ⟨20, 35, none⟩)]))
theorem AllErrs.at1 {w : World} {ad : Nat → Addr} (h : AllErrs w ad) : w.cell? ⟨4, 0, none⟩ = some (.iface 282 (.pointer (some (ad 1)))) := h.var 1 (by omega)
theorem AllErrs.at2 {w : World} {ad : Nat → Addr} (h : AllErrs w ad) : w.cell? ⟨3, 0, none⟩ = some (.iface 282 (.pointer (some (ad 2)))) := h.var 2 (by omega)
theorem AllErrs.at3 {w : World} {ad : Nat → Addr} (h : AllErrs w ad) : w.cell? ⟨6, 0, none⟩ = some (.iface 282 (.pointer (some (ad 3)))) := h.var 3 (by omega)
theorem AllErrs.at4 {w : World} {ad : Nat → Addr} (h : AllErrs w ad) : w.cell? ⟨5, 0, none⟩ = some (.iface 282 (.pointer (some (ad 4)))) := h.var 4 (by omega)
theorem AllErrs.at5 {w : World} {ad : Nat → Addr} (h : AllErrs w ad) : w.cell? ⟨1, 0, none⟩ = some (.iface 282 (.pointer (some (ad 5)))) := h.var 5 (by omega)
theorem AllErrs.at6 {w : World} {ad : Nat → Addr} (h : AllErrs w ad) : w.cell? ⟨8, 0, none⟩ = some (.iface 282 (.pointer (some (ad 6)))) := h.var 6 (by omega)
theorem AllErrs.at7 {w : World} {ad : Nat → Addr} (h : AllErrs w ad) : w.cell? ⟨2, 0, none⟩ = some (.iface 282 (.pointer (some (ad 7)))) := h.var 7 (by omega)
theorem AllErrs.at8 {w : World} {ad : Nat → Addr} (h : AllErrs w ad) : w.cell? ⟨0, 0, none⟩ = some (.iface 282 (.pointer (some (ad 8)))) := h.var 8 (by omega)
theorem AllErrs.at9 {w : World} {ad : Nat → Addr} (h : AllErrs w ad) : w.cell? ⟨9, 0, none⟩ = some (.iface 282 (.pointer (some (ad 9)))) := h.var 9 (by omega)
theorem AllErrs.at10 {w : World} {ad : Nat → Addr} (h : AllErrs w ad) : w.cell? ⟨7, 0, none⟩ = some (.iface 282 (.pointer (some (ad 10)))) := h.var 10 (by omega)
theorem AllErrs.at11 {w : World} {ad : Nat → Addr} (h : AllErrs w ad) : w.cell? ⟨10, 0, none⟩ = some (.iface 282 (.pointer (some (ad 11)))) := h.var 11 (by omega)
theorem AllErrs.ext {w w' : World} {ad : Nat → Addr} (h : AllErrs w ad) (x : Ext w w') : AllErrs w' ad :=
  ⟨fun c hc => x.cellx (h.var c hc), fun c hc => by obtain ⟨cs, t, e⟩ := h.row c hc; exact ⟨cs, t, x.get e⟩, h.inj, x.cellx h.ty⟩
def IsAs (w : World) (ad : Nat → Addr) (e : Value) (c : Nat) : Prop := ∀ w', Ext w w' → ∀ d, 1 ≤ d ∧ d ≤ 11 → Calls Tryz.prog 104 #[e, .iface 282 (.pointer (some (ad d)))] w' fun r w'' => r = .returned (.bool (decide (d = c))) ∧ w' = w''
theorem IsAs.sent {w : World} {ad : Nat → Addr} (h : AllErrs w ad) (c : Nat) (hc : 1 ≤ c ∧ c ≤ 11) : IsAs w ad (.iface 282 (.pointer (some (ad c)))) c := by
  intro w' x d hd
  by_cases e : d = c
  · subst e
    rw [decide_eq_true rfl]
    exact is_same (ad d) w'
  · rw [decide_eq_false e]
    have h' := h.ext x
    obtain ⟨c1, t1, e1⟩ := h'.row c hc
    obtain ⟨c2, t2, e2⟩ := h'.row d hd
    exact is_other (ad c) (ad d) c1 c2 t1 t2 w' (fun e' => e (h.inj d c hd hc e'.symm)) e1 e2
theorem IsAs.fault {w : World} {ad : Nat → Addr} (h : AllErrs w ad) (c : Nat) (hc : 1 ≤ c ∧ c ≤ 11) (b : Nat) (hb : w.cell? ⟨b, 1, none⟩ = some (.iface 282 (.pointer (some (ad c))))) : IsAs w ad (.iface 92 (.pointer (some ⟨b, 0, none⟩))) c := by
  intro w' x d hd
  by_cases e : d = c
  · subst e
    rw [decide_eq_true rfl]
    exact is_wrap_same b (ad d) w' (x.cellx hb)
  · rw [decide_eq_false e]
    have h' := h.ext x
    obtain ⟨c1, t1, e1⟩ := h'.row c hc
    obtain ⟨c2, t2, e2⟩ := h'.row d hd
    exact is_wrap_other b (ad d) (ad c) c1 c2 t1 t2 w' (x.cellx hb) (fun e' => e (h.inj d c hd hc e'.symm)) e1 e2
theorem IsAs.none {w : World} {ad : Nat → Addr} (h : AllErrs w ad) (a : Addr) (ha : ∃ cs t, w.heap[a.block]? = some (.cells cs t (0, 0))) (hne : ∀ c, 1 ≤ c ∧ c ≤ 11 → a ≠ ad c) : IsAs w ad (.iface 282 (.pointer (some a))) 0 := by
  intro w' x d hd
  rw [decide_eq_false (by omega)]
  obtain ⟨c1, t1, e1⟩ := ha
  obtain ⟨c2, t2, e2⟩ := (h.ext x).row d hd
  exact is_other a (ad d) c1 c2 t1 t2 w' (hne d hd) (x.get e1) e2
def codeV (c : Nat) : Int := if c = 0 then -1 else c
theorem AllErrs.errs {w : World} {ad : Nat → Addr} (h : AllErrs w ad) : Errs w (evOf ad) :=
  ⟨⟨h.at2, h.at3, h.at4, h.at8⟩, h.at1, h.at11⟩
structure SV (w : World) (v : Value) (l : List Int) : Prop where
  row : IntsR w w.heap.size v l
  ok : chkE l = 0
  few : l.length ≤ 1000
theorem SV.ext {w w' : World} {v : Value} {l : List Int} (h : SV w v l) (x : Ext w w') : SV w' v l := ⟨ElR.lift (h.row.old (x.old _)) x.size, h.ok, h.few⟩
theorem SV.form {w : World} {v : Value} {l : List Int} (h : SV w v l) : ∃ a c, v = .slice a l.length c := by
  obtain ⟨⟨a, c, h1, _⟩, _, _⟩ := h
  exact ⟨a, c, h1⟩
theorem sset_few (l : List Int) : (sset l).length ≤ 1000 := setUp_len l 1000
theorem SV.of {w : World} {n0 : Nat} {v : Value} {l : List Int} (h : IRow n0 w v (sset l)) : SV w v (sset l) := ⟨IntsR.own h (Nat.le_refl _), chkE_sset l, sset_few l⟩
theorem ok_le {l : List Int} (h : InR l) (i : Nat) : l.getD i 0 ≤ 9223372036854775807 := by
  rw [List.getD_eq_getElem?_getD]
  cases hx : l[i]? with
  | none => exact (by decide : (0 : Int) ≤ 9223372036854775807)
  | some x =>
    have := h x (List.mem_of_getElem? hx)
    show x ≤ _
    omega
theorem sv_union (va vb : Value) (a b : List Int) (w : World) (ad : Nat → Addr) (hE : ErrS w ad) (ha : SV w va a) (hb : SV w vb b) :
    Calls Tryz.prog 36 #[va, vb] w fun e w' => ∃ v l, e = .returned (.tuple #[v, .nilIface]) ∧ l = sset (a ++ b) ∧ SV w' v l ∧ Ext w w' :=
  (setunion_any va vb a b w w.heap.size ad hE ha.row hb.row (by have := ha.few; omega) (by have := hb.few; omega)).mono fun e w' ⟨t, he, ht, hx⟩ => by
    rcases ht with ⟨_, v, h1, h2⟩ | ⟨h, _⟩
    · exact ⟨v, _, by rw [he, h1], rfl, SV.of h2, hx⟩
    · exact absurd (bothE_zero.2 ⟨ha.ok, hb.ok⟩) h
theorem sv_and (va vb : Value) (a b : List Int) (w : World) (ad : Nat → Addr) (hE : ErrS w ad) (ha : SV w va a) (hb : SV w vb b) :
    Calls Tryz.prog 38 #[va, vb] w fun e w' => ∃ v l, e = .returned (.tuple #[v, .nilIface]) ∧ l = (a.filter fun n => decide (n ∈ b)) ∧ SV w' v l ∧ Ext w w' :=
  (setand_any va vb a b w w.heap.size ad hE ha.row hb.row (by have := ha.few; omega)).mono fun e w' ⟨t, he, ht, hx⟩ => by
    rcases ht with ⟨_, v, h1, h2⟩ | ⟨h, _⟩
    · obtain ⟨i1, i2⟩ := chkE_zero.1 ha.ok
      exact ⟨v, _, by rw [he, h1], rfl, ⟨IntsR.own h2 (Nat.le_refl _), chkE_zero.2 ⟨i1.filter _, i2.filter _⟩, Nat.le_trans (List.length_filter_le _ _) ha.few⟩, hx⟩
    · exact absurd (bothE_zero.2 ⟨ha.ok, hb.ok⟩) h
theorem sv_same (va vb : Value) (a b : List Int) (w : World) (ha : SV w va a) (hb : SV w vb b) :
    Calls Tryz.prog 41 #[va, vb] w fun e w' => e = .returned (.bool (decide (a = b))) ∧ Ext w w' := by
  obtain ⟨aa, ca, rfl⟩ := ha.form
  obtain ⟨ab, cb, rfl⟩ := hb.form
  exact sameints_any aa ab a.length b.length ca cb a b w (ha.row.ints (ok_le (chkE_zero.1 ha.ok).1)) (hb.row.ints (ok_le (chkE_zero.1 hb.ok).1)) (by have := ha.few; omega) (by have := hb.few; omega)
theorem own_of (v : Value) (l : List Int) (w : World) (n0 : Nat) (h : IntsR w n0 v l) (hl : l.length ≤ 1000) :
    Calls Tryz.prog 35 #[v] w fun e w' => ∃ v', e = .returned v' ∧ Ext w w' ∧ IntsR w' w'.heap.size v' l ∧ ∃ a c, v' = .slice a l.length c :=
  (ownintsR_any v l w n0 h hl).mono fun e w' ⟨v', he, hx, hr⟩ => ⟨v', he, hx, IntsR.own hr (Nat.le_refl _), IRow.form hr⟩
def rngE (l : List Int) : Nat := if l.all (fun x => decide (0 ≤ x ∧ x < 1000)) then 0 else 2
set_option maxRecDepth 100000 in
set_option maxHeartbeats 1600000 in
theorem setsome_less (b : Value) (p : Int → Bool) (v : Value) (l : List Int) (w : World) (n0 : Nat) (h : IntsR w n0 v l) (hF : ∀ n w1, Ext w w1 → Calls Tryz.prog 89 #[.int .i64 n, b] w1 fun e w' => e = .returned (.bool (p n)) ∧ Ext w1 w') (hl : l.length ≤ 100000) :
    Calls Tryz.prog 88 #[v, .func (.func 89) #[] #[b]] w fun e w' => ∃ v', e = .returned v' ∧ Ext w w' ∧ IRow w.heap.size w' v' (l.filter p) := by
  have HS := hid h
  have HF := hid hF
  obtain ⟨a, cap, rfl, h2, h3, h4, _⟩ := h
  have H4 := hid h4
  have hml : (l.length : Int) ≤ 9223372036854775807 := by omega
  clear h2 h3 h4 hF
  go_enter Tryz.func88, Tryz.ntmps88
  go_wp2
  go_loopw [5, 10] (fun t5 t10 wr => ∃ k : Nat, t10 = .int .i64 (k : Int) ∧ k ≤ l.length ∧ IRow w.heap.size wr t5 ((l.take k).filter p) ∧ Ext w wr) (fun _ t10 _ => l.length - (intOf t10).toNat)
  case atStart => exact ⟨0, rfl, Nat.zero_le _, IRow.nil _ _, Ext.refl _⟩
  case round =>
    obtain ⟨k, rfl, hk, hr, hx⟩ := hrel
    obtain ⟨m, hm⟩ : ∃ m, m = (l.take k).filter p := ⟨_, rfl⟩
    rw [← hm] at hr
    have hml2 : m.length ≤ 100000 := by rw [hm]; have := List.length_filter_le p (l.take k); rw [List.length_take] at this; omega
    have Hm := hid hm
    obtain ⟨a5, c5, rfl⟩ := hr.form
    have Hr := hid hr
    have Hx := hid hx
    clear hm hr
    by_cases hlt : k < l.length
    · obtain ⟨y, rfl⟩ := H4.out (by omega)
      obtain ⟨q, hq⟩ : ∃ q, l[k]? = some q := ⟨_, List.getElem?_eq_getElem hlt⟩
      obtain ⟨a', cap', h1, _, _, _, h5⟩ := HS.out.old (hx.old n0)
      obtain ⟨rfl, rfl⟩ : some y = a' ∧ cap = cap' := by simpa using h1
      have hc := (h5 y rfl (by omega)).2 k hlt q hq
      have HN := hid (HF.out q wr hx)
      have Hf := hid (take_filter (p := p) hq)
      clear hq h1 h5 hx
      go_wp2_with fail
      refine HN.out.mono ?_
      intro e w1 hx1
      obtain ⟨rfl, hx1⟩ := hx1
      have Hx1 := hid (Hx.out.trans hx1)
      have Hr1 := hid (Hr.out.ext hx1)
      clear HN hx1 Hx Hr hc
      cases he : p q with
      | true =>
        have Hn : Hid ((l.take (k + 1)).filter p = m ++ [q]) := hid (by rw [Hf.out, he, Hm.out]; rfl)
        clear he
        have hxa : Hid (Ext w (w1.alloc (.cells #[.int .i64 q] 3))) := hid (Hx1.out.alloc _)
        have Hra : Hid (IRow w.heap.size (w1.alloc (.cells #[.int .i64 q] 3)) (.slice a5 m.length c5) m) := hid (Hr1.out.ext ((Ext.refl _).alloc _))
        go_wp2_with (at_builtin; refine wpList_append_el w.heap.size hxa.out.size 45 3 (.int .i64 0) 1 8 Tryz.underlying45 ints_info rfl (by omega) (by omega) rfl _ _ rfl (.slice a5 m.length c5) m.length (icells m) rfl Hra.out w1.heap.size [.int .i64 q] rfl (by simp [Value.oneCell']) rfl (Blk.new _ _ _) (by omega) ?_; intro v' w' h1 h2 h4; obtain ⟨a', c', rfl⟩ := row_form h1; have h3 := hid (Keep.new hxa.out h2 (fun k hk => (Hra.out.lt hk).1)); have h1 := hid h1; clear h2 h4)
        go_roundw
        case rel => exact ⟨k + 1, by go_num, by omega, by rw [Hn.out]; have := h1.out; unfold IRow; rw [icells_append, List.length_append]; exact this, h3.out⟩
        case measure => simp [intOf]; omega
      | false =>
        have Hn : Hid ((l.take (k + 1)).filter p = m) := hid (by rw [Hf.out, he, Hm.out]; simp)
        clear he
        go_wp2
        go_roundw
        case rel => exact ⟨k + 1, by go_num, by omega, by rw [Hn.out]; exact Hr1.out, Hx1.out⟩
        case measure => simp [intOf]; omega
    · obtain rfl : k = l.length := by omega
      have Hn : Hid (m = l.filter p) := hid (by rw [Hm.out, List.take_of_length_le (Nat.le_refl _)])
      clear hx
      go_wp2
      go_ret
      exact ⟨_, rfl, Hx.out, by rw [← Hn.out]; exact Hr.out⟩
theorem setlessc_any (g : Nat) (vb : Value) (b : List Int) (n : Int) (w : World) (n0 : Nat) (hB : Blk w g #[vb] 45) (hb : IntsR w n0 vb b) :
    Calls Tryz.prog 89 #[.int .i64 n, .pointer (some ⟨g, 0, none⟩)] w fun e w' => e = .returned (.bool (!decide (n ∈ b))) ∧ Ext w w' := by
  have H := hid (sethas_any vb b n w n0 hb)
  generalize decide (n ∈ b) = d at *
  obtain ⟨a, cap, rfl, _⟩ := hb
  have c0 := hB.av 0 rfl
  simp only [qA0, qA1] at c0
  clear hB
  go_enter Tryz.func89, Tryz.ntmps89
  go_wp2_with fail
  refine H.out.mono ?_
  intro e w1 hx
  obtain ⟨rfl, rfl⟩ := hx
  clear H c0
  go_wp2
  go_ret
  exact ⟨rfl, Ext.refl _⟩
set_option maxRecDepth 100000 in
set_option maxHeartbeats 1600000 in
theorem setless_any (va vb : Value) (a b : List Int) (w : World) (n0 : Nat) (ad : Nat → Addr) (hE : ErrS w ad) (ha : IntsR w n0 va a) (hb : IntsR w n0 vb b) (hla : a.length ≤ 10000) :
    Calls Tryz.prog 37 #[va, vb] w fun e w' => ∃ t, e = .returned t ∧ TwoR ad a b (a.filter fun n => !decide (n ∈ b)) w.heap.size w' t ∧ Ext w w' := by
  obtain ⟨W, hW⟩ : ∃ W, W = w.alloc (.cells #[vb] 45) := ⟨_, rfl⟩
  have hxW : Ext w W := by rw [hW]; exact (Ext.refl _).alloc _
  have HBl : Hid (Blk W w.heap.size #[vb] 45) := hid (by rw [hW]; exact Blk.new _ _ _)
  have HK := hid (setboth_any va vb a b W n0 ad (hE.ext hxW) (ha.old (hxW.old n0)) (hb.old (hxW.old n0)))
  have HC := fun w1 (x : Ext W w1) => hid (setsome_less (.pointer (some ⟨w.heap.size, 0, none⟩)) (fun n => !decide (n ∈ b)) va a w1 n0 (ha.old ((hxW.trans x).old n0)) (fun n w2 x2 => setlessc_any w.heap.size vb b n w2 n0 (HBl.out.ext (x.trans x2)) (hb.old ((hxW.trans (x.trans x2)).old n0))) (by omega))
  have HxW := hid hxW
  obtain ⟨aa, ca, rfl, _⟩ := ha
  obtain ⟨ab, cb, rfl, _⟩ := hb
  have HWe := hid hW
  have c0 := HBl.out.av 0 rfl
  simp only [qA0, qA1] at c0
  clear hE hxW hW
  by_cases h0 : bothE a b = 0
  · rw [errv_no h0] at HK
    have H0 := hid h0
    clear h0
    go_enter Tryz.func37, Tryz.ntmps37
    go_wp2_with fail
    rw [← HWe.out]
    refine HK.out.mono ?_
    intro e w1 hx
    obtain ⟨rfl, hx1⟩ := hx
    have HC1 := HC w1 hx1
    have Hx1 := hid (HxW.out.trans hx1)
    clear HK HC hx1 c0
    go_wp2_with fail
    refine HC1.out.mono ?_
    intro e w2 hx
    obtain ⟨v2, rfl, hx2, hr2⟩ := hx
    obtain ⟨a2, p2, rfl⟩ := hr2.form
    have Hr2 := hid (hr2.base Hx1.out.size)
    have Hx2 := hid (Hx1.out.trans hx2)
    clear HC1 hx2 hr2
    go_wp2
    go_ret2
    exact ⟨_, rfl, .inl ⟨H0.out, _, rfl, Hr2.out⟩, Hx2.out⟩
  · rw [errv_yes h0] at HK
    have H0 := hid h0
    clear h0
    go_enter Tryz.func37, Tryz.ntmps37
    go_wp2_with fail
    rw [← HWe.out]
    refine HK.out.mono ?_
    intro e w1 hx
    obtain ⟨rfl, hx1⟩ := hx
    have Hx1 := hid (HxW.out.trans hx1)
    clear HK HC hx1 c0
    go_wp2
    go_ret2
    exact ⟨_, rfl, .inr ⟨H0.out, rfl⟩, Hx1.out⟩
set_option maxRecDepth 100000 in
set_option maxHeartbeats 800000 in
theorem indexfi_wi (b : Value) (p : Int → Bool) (v : Value) (l : List Int) (w : World) (n0 : Nat) (h : IntsR w n0 v l) (hF : ∀ n w1, Ext w w1 → Calls Tryz.prog 98 #[.int .i64 n, b] w1 fun e w' => e = .returned (.bool (p n)) ∧ Ext w1 w') :
    Calls Tryz.prog 138 #[v, .func (.func 98) #[] #[b]] w fun e w' => ∃ r : Int, e = .returned (.int .i64 r) ∧ IdxF p l r ∧ Ext w w' := by
  have HS := hid h
  have HF := hid hF
  obtain ⟨a, cap, rfl, h2, h3, h4, _⟩ := h
  have H4 := hid h4
  have hml : (l.length : Int) ≤ 9223372036854775807 := by omega
  clear h2 h3 h4 hF
  go_enter Tryz.func138, Tryz.ntmps138
  go_wp2
  go_loopw [8] (fun t8 wr => ∃ k : Nat, t8 = .int .i64 (k : Int) ∧ k ≤ l.length ∧ (∀ j t, j < k → l[j]? = some t → p t = false) ∧ Ext w wr) (fun t8 _ => l.length - (intOf t8).toNat)
  case atStart => exact ⟨0, rfl, Nat.zero_le _, fun j t h => by omega, Ext.refl _⟩
  case round =>
    obtain ⟨k, rfl, hk, hne, hx⟩ := hrel
    have Hne := hid hne
    clear hne
    by_cases hlt : k < l.length
    · obtain ⟨y, rfl⟩ := H4.out (by omega)
      have hxk : l[k]? = some (l[k]'hlt) := List.getElem?_eq_getElem hlt
      obtain ⟨t, ht⟩ : ∃ t, t = l[k]'hlt := ⟨_, rfl⟩
      rw [← ht] at hxk
      obtain ⟨a', cap', h1, _, _, _, h5⟩ := HS.out.old (hx.old n0)
      obtain ⟨rfl, rfl⟩ : some y = a' ∧ cap = cap' := by simpa using h1
      have hc := (h5 y rfl (by omega)).2 k hlt t hxk
      have HN := hid (HF.out t wr hx)
      have Hxk := hid hxk
      have Hx := hid hx
      clear hxk ht h1 h5 hx
      go_wp2_with fail
      refine HN.out.mono ?_
      intro e w1 hx1
      obtain ⟨rfl, hx1⟩ := hx1
      have Hx1 := hid (Hx.out.trans hx1)
      clear HN hx1 Hx hc
      cases he : p t with
      | true =>
        have Hin := hid (show IdxF p l (k : Int) from .inr ⟨k, t, rfl, hlt, Hxk.out, he, Hne.out⟩)
        go_wp2
        go_ret
        exact ⟨(k : Int), rfl, Hin.out, Hx1.out⟩
      | false =>
        have Hf := hid he
        clear he
        go_wp2
        go_roundw
        case rel =>
          refine ⟨k + 1, by go_num, by omega, fun j u hj hu => ?_, Hx1.out⟩
          by_cases hjk : j = k
          · subst hjk
            obtain rfl := Option.some.inj (Hxk.out.symm.trans hu)
            exact Hf.out
          · exact Hne.out j u (by omega) hu
        case measure => simp [intOf]; omega
    · obtain rfl : k = l.length := by omega
      have Hx := hid hx
      clear hx
      have Hnot := hid (show IdxF p l (-1) from .inl ⟨rfl, fun x hx => by
        obtain ⟨j, hj, e2⟩ := List.mem_iff_getElem.1 hx
        exact Hne.out j x hj (by rw [List.getElem?_eq_getElem hj, e2])⟩)
      go_wp2
      go_ret
      exact ⟨(-1 : Int), rfl, Hnot.out, Hx.out⟩
set_option maxRecDepth 100000 in
set_option maxHeartbeats 800000 in
theorem containsfi_wi (b : Value) (p : Int → Bool) (v : Value) (l : List Int) (w : World) (n0 : Nat) (h : IntsR w n0 v l) (hF : ∀ n w1, Ext w w1 → Calls Tryz.prog 98 #[.int .i64 n, b] w1 fun e w' => e = .returned (.bool (p n)) ∧ Ext w1 w') :
    Calls Tryz.prog 97 #[v, .func (.func 98) #[] #[b]] w fun e w' => e = .returned (.bool (l.any p)) ∧ Ext w w' := by
  have H := hid (indexfi_wi b p v l w n0 h hF)
  obtain ⟨a, cap, rfl, h2, h3, _⟩ := h
  have hml : (l.length : Int) ≤ 9223372036854775807 := by omega
  clear hF
  go_enter Tryz.func97, Tryz.ntmps97
  go_wp2_with fail
  refine H.out.mono ?_
  intro e w1 hx
  obtain ⟨r, rfl, hr, hx⟩ := hx
  clear H
  rcases hr with ⟨rfl, hr⟩ | ⟨i, x, rfl, hi, hxi, hp, _⟩
  · have Hr := hid (show l.any p = false from List.any_eq_false.2 fun x hx => by rw [hr x hx]; simp)
    clear hr
    go_wp2
    go_ret
    exact ⟨by rw [Hr.out]; rfl, hx⟩
  · have Hr := hid (show l.any p = true from List.any_eq_true.2 ⟨x, List.mem_of_getElem? hxi, hp⟩)
    clear hp hxi
    go_wp2
    go_ret
    exact ⟨by rw [Hr.out]; rfl, hx⟩
theorem setwithinc_any (g : Nat) (vb : Value) (b : List Int) (n : Int) (w : World) (n0 : Nat) (hB : Blk w g #[vb] 45) (hb : IntsR w n0 vb b) :
    Calls Tryz.prog 98 #[.int .i64 n, .pointer (some ⟨g, 0, none⟩)] w fun e w' => e = .returned (.bool (!decide (n ∈ b))) ∧ Ext w w' := by
  have H := hid (sethas_any vb b n w n0 hb)
  obtain ⟨a, cap, rfl, _⟩ := hb
  have c0 := hB.av 0 rfl
  simp only [qA0, qA1] at c0
  clear hB
  generalize decide (n ∈ b) = d at *
  go_enter Tryz.func98, Tryz.ntmps98
  go_wp2_with fail
  refine H.out.mono ?_
  intro e w1 hx
  obtain ⟨rfl, rfl⟩ := hx
  clear H c0
  go_wp2
  go_ret
  exact ⟨rfl, Ext.refl _⟩
set_option maxRecDepth 100000 in
set_option maxHeartbeats 800000 in
theorem setwithin_any (va vb : Value) (a b : List Int) (w : World) (n0 : Nat) (ha : IntsR w n0 va a) (hb : IntsR w n0 vb b) :
    Calls Tryz.prog 42 #[va, vb] w fun e w' => e = .returned (.bool (a.all fun n => decide (n ∈ b))) ∧ Ext w w' := by
  obtain ⟨W, hW⟩ : ∃ W, W = w.alloc (.cells #[vb] 45) := ⟨_, rfl⟩
  have hxW : Ext w W := by rw [hW]; exact (Ext.refl _).alloc _
  have HBl : Hid (Blk W w.heap.size #[vb] 45) := hid (by rw [hW]; exact Blk.new _ _ _)
  have HC := hid (containsfi_wi (.pointer (some ⟨w.heap.size, 0, none⟩)) (fun n => !decide (n ∈ b)) va a W n0 (ha.old (hxW.old n0)) (fun n w2 x2 => setwithinc_any w.heap.size vb b n w2 n0 (HBl.out.ext x2) (hb.old ((hxW.trans x2).old n0))))
  have HxW := hid hxW
  obtain ⟨aa, ca, rfl, _⟩ := ha
  obtain ⟨ab, cb, rfl, _⟩ := hb
  have HWe := hid hW
  obtain ⟨d, hd⟩ : ∃ d, d = a.any (fun n => !decide (n ∈ b)) := ⟨_, rfl⟩
  have Hd : Hid ((a.all fun n => decide (n ∈ b)) = !d) := hid (by
    rw [hd, List.any_eq_not_all_not, Bool.not_not]
    congr 1
    funext n
    rw [Bool.not_not])
  rw [← hd] at HC
  clear hxW hW hd
  go_enter Tryz.func42, Tryz.ntmps42
  go_wp2_with fail
  rw [← HWe.out]
  refine HC.out.mono ?_
  intro e w1 hx
  obtain ⟨rfl, hx1⟩ := hx
  have Hx1 := hid (HxW.out.trans hx1)
  clear HC hx1
  go_wp2
  go_ret
  exact ⟨by rw [Hd.out]; rfl, Hx1.out⟩
structure ErrT (w : World) (ad : Nat → Addr) : Prop where
  at1 : w.cell? ⟨4, 0, none⟩ = some (evOf ad 1)
  eS : ErrS w ad
theorem ErrT.ext {w w' : World} {ad : Nat → Addr} (h : ErrT w ad) (x : Ext w w') : ErrT w' ad := ⟨x.cellx h.at1, h.eS.ext x⟩
theorem sv_less (va vb : Value) (a b : List Int) (w : World) (ad : Nat → Addr) (hE : ErrS w ad) (ha : SV w va a) (hb : SV w vb b) :
    Calls Tryz.prog 37 #[va, vb] w fun e w' => ∃ v l, e = .returned (.tuple #[v, .nilIface]) ∧ l = (a.filter fun n => !decide (n ∈ b)) ∧ SV w' v l ∧ Ext w w' :=
  (setless_any va vb a b w w.heap.size ad hE ha.row hb.row (by have := ha.few; omega)).mono fun e w' ⟨t, he, ht, hx⟩ => by
    rcases ht with ⟨_, v, h1, h2⟩ | ⟨h, _⟩
    · obtain ⟨i1, i2⟩ := chkE_zero.1 ha.ok
      exact ⟨v, _, by rw [he, h1], rfl, ⟨IntsR.own h2 (Nat.le_refl _), chkE_zero.2 ⟨i1.filter _, i2.filter _⟩, Nat.le_trans (List.length_filter_le _ _) ha.few⟩, hx⟩
    · exact absurd (bothE_zero.2 ⟨ha.ok, hb.ok⟩) h
theorem join_small {l : List Int} (hin : InR l) (hl : l.length ≤ 1000) : (Lib.join ((numsS l).map (·.data.toList)) [44]).length ≤ 1000000 := by
  have h : ∀ ps : List (List UInt8), (∀ p ∈ ps, p.length ≤ 3) → (Lib.join ps [44]).length ≤ 4 * ps.length := by
    intro ps hp
    induction ps with
    | nil => simp [Lib.join, List.intercalate]
    | cons x r ih =>
      have h1 := hp x (List.mem_cons_self ..)
      have h2 := ih fun p hp2 => hp p (List.mem_cons_of_mem _ hp2)
      cases r with
      | nil => rw [Lib.join_one]; simp; omega
      | cons y r =>
        rw [join_two]
        simp only [List.length_append, List.length_cons, List.length_nil] at h2 ⊢
        omega
  have := h ((numsS l).map (·.data.toList)) (by
    intro p hp
    obtain ⟨q, hq, rfl⟩ := List.mem_map.1 hp
    obtain ⟨x, hx, rfl⟩ := List.mem_map.1 hq
    have hx2 := hin x hx
    obtain ⟨n, rfl⟩ : ∃ n : Nat, x = n := ⟨x.toNat, by omega⟩
    show (Lib.itoa (n : Int)).length ≤ 3
    rw [Lib.itoa_nonneg]
    exact dec_small n 3 (by omega) (by omega))
  rw [List.length_map, show (numsS l).length = l.length from List.length_map ..] at this
  omega
theorem txt_eq (l : List Int) : setBytes l = txtV l := by
  unfold setBytes txtV numsS
  rw [List.map_map]
  rfl
theorem txt_len {l : List Int} (hin : InR l) (hl : l.length ≤ 1000) : (setBytes l).length ≤ 1000002 := by
  unfold setBytes
  have := join_small hin hl
  simp only [List.length_cons, List.length_append, List.length_nil]
  omega
set_option maxRecDepth 100000 in
set_option maxHeartbeats 6400000 in
theorem lawsetlaws_any (va vb : Value) (a b : List Int) (w : World) (ad : Nat → Addr) (hA : ErrT w ad) (hT : ∀ w1, Ext w w1 → TabOk w1) (hV : AtoiOk w) (ha : IntsR w w.heap.size va a) (hb : IntsR w w.heap.size vb b) :
    Calls Tryz.prog 5 #[va, vb] w fun e w' => e = .returned (.bool true) ∧ Ext w w' := by
  obtain ⟨n0, hn0⟩ : ∃ n0, n0 = w.heap.size := ⟨_, rfl⟩
  rw [← hn0] at ha hb
  have Hn0 := hid hn0
  have HA := hid hA
  have HTb := hid hT
  have HVo := hid hV
  have HIa := hid ha
  have HIb := hid hb
  have HUn := hid (united_any w ad hA.eS)
  obtain ⟨aa, ca, rfl, _, ha3, ha4, ha5⟩ := id ha
  obtain ⟨ab, cb, rfl, _, hb3, _⟩ := id hb
  have H4 := hid ha4
  have hla : (a.length : Int) ≤ 9223372036854775807 := by omega
  have hlb : (b.length : Int) ≤ 9223372036854775807 := by omega
  clear hn0 ha hb hA hT hV ha3 ha4 ha5 hb3
  go_enter Tryz.func5, Tryz.ntmps5
  go_wp2_with fail
  refine HUn.out.mono ?_
  intro e w1 hx
  obtain ⟨rfl, hx⟩ := hx
  have Hx := hid hx
  clear HUn hx
  by_cases h1 : 60 < a.length
  · go_wp2
    go_ret
    exact ⟨rfl, Hx.out⟩
  by_cases h2 : 60 < b.length
  · go_wp2
    go_ret
    exact ⟨rfl, Hx.out⟩
  have HC := hid (own_of (.slice aa a.length ca) a w1 n0 (HIa.out.old (Hx.out.old n0)) (by omega))
  go_wp2_with fail
  refine HC.out.mono ?_
  intro e w2 hx
  obtain ⟨v, rfl, hx, hr, ax, cx, rfl⟩ := hx
  try replace HX := hid (HX.out.ext hx)
  try replace HY := hid (HY.out.ext hx)
  try replace HZ := hid (HZ.out.ext hx)
  try replace HP := hid (HP.out.ext hx)
  try replace HQ := hid (HQ.out.ext hx)
  try replace HR := hid (HR.out.ext hx)
  try replace HS := hid (HS.out.ext hx)
  try replace HT := hid (HT.out.ext hx)
  try replace HU := hid (HU.out.ext hx)
  try replace HV := hid (HV.out.ext hx)
  replace Hx := hid (Hx.out.trans hx)
  have HO := hid (setof_any _ a w2 w2.heap.size ad ((HA.out.ext Hx.out).eS) hr (by omega))
  clear HC hx hr
  go_wp2_with fail
  refine HO.out.mono ?_
  intro e w3 hx
  obtain ⟨t, rfl, ht, hx⟩ := hx
  try replace HX := hid (HX.out.ext hx)
  try replace HY := hid (HY.out.ext hx)
  try replace HZ := hid (HZ.out.ext hx)
  try replace HP := hid (HP.out.ext hx)
  try replace HQ := hid (HQ.out.ext hx)
  try replace HR := hid (HR.out.ext hx)
  try replace HS := hid (HS.out.ext hx)
  try replace HT := hid (HT.out.ext hx)
  try replace HU := hid (HU.out.ext hx)
  try replace HV := hid (HV.out.ext hx)
  replace Hx := hid (Hx.out.trans hx)
  clear HO hx
  rcases ht with ⟨hin, v, rfl, hr⟩ | ⟨hin, rfl⟩
  · obtain ⟨x, hxe⟩ : ∃ x, x = sset a := ⟨_, rfl⟩
    have hsv := SV.of hr
    rw [← hxe] at hsv
    obtain ⟨ax, cx, rfl⟩ := hsv.form
    have HX := hid hsv
    have HXe := hid hxe
    have Hin := hid hin
    clear hsv hr hxe hin
    have HC := hid (own_of (.slice ab b.length cb) b w3 n0 (HIb.out.old (Hx.out.old n0)) (by omega))
    go_wp2_with fail
    refine HC.out.mono ?_
    intro e w4 hx
    obtain ⟨v, rfl, hx, hr, ax, cx, rfl⟩ := hx
    try replace HX := hid (HX.out.ext hx)
    try replace HY := hid (HY.out.ext hx)
    try replace HZ := hid (HZ.out.ext hx)
    try replace HP := hid (HP.out.ext hx)
    try replace HQ := hid (HQ.out.ext hx)
    try replace HR := hid (HR.out.ext hx)
    try replace HS := hid (HS.out.ext hx)
    try replace HT := hid (HT.out.ext hx)
    try replace HU := hid (HU.out.ext hx)
    try replace HV := hid (HV.out.ext hx)
    replace Hx := hid (Hx.out.trans hx)
    have HO := hid (setof_any _ b w4 w4.heap.size ad ((HA.out.ext Hx.out).eS) hr (by omega))
    clear HC hx hr
    go_wp2_with fail
    refine HO.out.mono ?_
    intro e w5 hx
    obtain ⟨t, rfl, ht, hx⟩ := hx
    try replace HX := hid (HX.out.ext hx)
    try replace HY := hid (HY.out.ext hx)
    try replace HZ := hid (HZ.out.ext hx)
    try replace HP := hid (HP.out.ext hx)
    try replace HQ := hid (HQ.out.ext hx)
    try replace HR := hid (HR.out.ext hx)
    try replace HS := hid (HS.out.ext hx)
    try replace HT := hid (HT.out.ext hx)
    try replace HU := hid (HU.out.ext hx)
    try replace HV := hid (HV.out.ext hx)
    replace Hx := hid (Hx.out.trans hx)
    clear HO hx
    rcases ht with ⟨hinb, v, rfl, hrb⟩ | ⟨hinb, rfl⟩
    · obtain ⟨ly, ey⟩ : ∃ ly, ly = sset b := ⟨_, rfl⟩
      have hsv := SV.of hrb
      rw [← ey] at hsv
      obtain ⟨ay, cy, rfl⟩ := hsv.form
      have HY := hid hsv
      clear hsv hrb hinb ey
      have HC := hid (sv_union _ _ _ _ w5 ad ((HA.out.ext Hx.out).eS) HX.out HY.out)
      go_wp2_with fail
      refine HC.out.mono ?_
      intro e w6 hx
      obtain ⟨v, lp, rfl, ep, hn, hx⟩ := hx
      obtain ⟨alp, clp, rfl⟩ := hn.form
      try replace HX := hid (HX.out.ext hx)
      try replace HY := hid (HY.out.ext hx)
      try replace HZ := hid (HZ.out.ext hx)
      try replace HP := hid (HP.out.ext hx)
      try replace HQ := hid (HQ.out.ext hx)
      try replace HR := hid (HR.out.ext hx)
      try replace HS := hid (HS.out.ext hx)
      try replace HT := hid (HT.out.ext hx)
      try replace HU := hid (HU.out.ext hx)
      try replace HV := hid (HV.out.ext hx)
      have HP := hid hn
      replace Hx := hid (Hx.out.trans hx)
      replace ep := hid ep
      clear HC hn hx
      have HC := hid (sv_union _ _ _ _ w6 ad ((HA.out.ext Hx.out).eS) HY.out HX.out)
      go_wp2_with fail
      refine HC.out.mono ?_
      intro e w7 hx
      obtain ⟨v, lq, rfl, eq, hn, hx⟩ := hx
      obtain ⟨alq, clq, rfl⟩ := hn.form
      try replace HX := hid (HX.out.ext hx)
      try replace HY := hid (HY.out.ext hx)
      try replace HZ := hid (HZ.out.ext hx)
      try replace HP := hid (HP.out.ext hx)
      try replace HQ := hid (HQ.out.ext hx)
      try replace HR := hid (HR.out.ext hx)
      try replace HS := hid (HS.out.ext hx)
      try replace HT := hid (HT.out.ext hx)
      try replace HU := hid (HU.out.ext hx)
      try replace HV := hid (HV.out.ext hx)
      have HQ := hid hn
      replace Hx := hid (Hx.out.trans hx)
      replace eq := hid eq
      clear HC hn hx
      have HC := hid (sv_less _ _ _ _ w7 ad ((HA.out.ext Hx.out).eS) HX.out HY.out)
      go_wp2_with fail
      refine HC.out.mono ?_
      intro e w8 hx
      obtain ⟨v, lr, rfl, er, hn, hx⟩ := hx
      obtain ⟨alr, clr, rfl⟩ := hn.form
      try replace HX := hid (HX.out.ext hx)
      try replace HY := hid (HY.out.ext hx)
      try replace HZ := hid (HZ.out.ext hx)
      try replace HP := hid (HP.out.ext hx)
      try replace HQ := hid (HQ.out.ext hx)
      try replace HR := hid (HR.out.ext hx)
      try replace HS := hid (HS.out.ext hx)
      try replace HT := hid (HT.out.ext hx)
      try replace HU := hid (HU.out.ext hx)
      try replace HV := hid (HV.out.ext hx)
      have HR := hid hn
      replace Hx := hid (Hx.out.trans hx)
      replace er := hid er
      clear HC hn hx
      have HC := hid (sv_and _ _ _ _ w8 ad ((HA.out.ext Hx.out).eS) HX.out HY.out)
      go_wp2_with fail
      refine HC.out.mono ?_
      intro e w9 hx
      obtain ⟨v, ls, rfl, es, hn, hx⟩ := hx
      obtain ⟨als, cls, rfl⟩ := hn.form
      try replace HX := hid (HX.out.ext hx)
      try replace HY := hid (HY.out.ext hx)
      try replace HZ := hid (HZ.out.ext hx)
      try replace HP := hid (HP.out.ext hx)
      try replace HQ := hid (HQ.out.ext hx)
      try replace HR := hid (HR.out.ext hx)
      try replace HS := hid (HS.out.ext hx)
      try replace HT := hid (HT.out.ext hx)
      try replace HU := hid (HU.out.ext hx)
      try replace HV := hid (HV.out.ext hx)
      have HS := hid hn
      replace Hx := hid (Hx.out.trans hx)
      replace es := hid es
      clear HC hn hx
      have HC := hid (sv_union _ _ _ _ w9 ad ((HA.out.ext Hx.out).eS) HR.out HS.out)
      go_wp2_with fail
      refine HC.out.mono ?_
      intro e w10 hx
      obtain ⟨v, lt, rfl, et, hn, hx⟩ := hx
      obtain ⟨alt, clt, rfl⟩ := hn.form
      try replace HX := hid (HX.out.ext hx)
      try replace HY := hid (HY.out.ext hx)
      try replace HZ := hid (HZ.out.ext hx)
      try replace HP := hid (HP.out.ext hx)
      try replace HQ := hid (HQ.out.ext hx)
      try replace HR := hid (HR.out.ext hx)
      try replace HS := hid (HS.out.ext hx)
      try replace HT := hid (HT.out.ext hx)
      try replace HU := hid (HU.out.ext hx)
      try replace HV := hid (HV.out.ext hx)
      have HT := hid hn
      replace Hx := hid (Hx.out.trans hx)
      replace et := hid et
      clear HC hn hx
      have E1 : Hid (lp = lq) := hid (by rw [ep.out, eq.out]; exact union_turn)
      have E2 : Hid (lt = x) := hid (by rw [et.out, er.out, es.out]; exact union_parts ly HX.out.ok)
      have E3 : Hid (lp.length + ls.length = x.length + ly.length) := hid (by rw [ep.out, es.out]; exact union_len HX.out.ok HY.out.ok)
      have E4 : Hid ((x.all fun n => decide (n ∈ lp)) = true) := hid (by rw [ep.out]; exact within_left x ly HX.out.ok)
      have E5 : Hid ((ly.all fun n => decide (n ∈ lp)) = true) := hid (by rw [ep.out]; exact within_right x ly HY.out.ok)
      have E6 : Hid ((ls.all fun n => decide (n ∈ ly)) = true) := hid (by rw [es.out]; exact within_both x ly)
      have HC := hid (settext_any _ x w10 w10.heap.size ad ((HA.out.ext Hx.out).eS) HX.out.row HX.out.ok (fun w' y => HTb.out w' (Hx.out.trans y)) (join_small (chkE_zero.1 HX.out.ok).1 HX.out.few))
      go_wp2_with fail
      refine HC.out.mono ?_
      intro e w11 hx
      obtain ⟨t, rfl, htx, hx⟩ := hx
      try replace HX := hid (HX.out.ext hx)
      try replace HY := hid (HY.out.ext hx)
      try replace HZ := hid (HZ.out.ext hx)
      try replace HP := hid (HP.out.ext hx)
      try replace HQ := hid (HQ.out.ext hx)
      try replace HR := hid (HR.out.ext hx)
      try replace HS := hid (HS.out.ext hx)
      try replace HT := hid (HT.out.ext hx)
      try replace HU := hid (HU.out.ext hx)
      try replace HV := hid (HV.out.ext hx)
      replace Hx := hid (Hx.out.trans hx)
      have htd : t.data.toList = txtV x := by rw [← Lib.toList_data, htx]; exact txt_eq x
      have hts : t.size ≤ 1000002 := by
        have h9 := txt_len (chkE_zero.1 HX.out.ok).1 HX.out.few
        rw [← htx, Lib.toList_data, Array.length_toList] at h9
        exact h9
      have HC2 := hid (setread_any t w11 ad (HA.out.ext Hx.out).at1 (HA.out.ext Hx.out).eS hts (fun w' y => HTb.out w' (Hx.out.trans y)) (HVo.out.ext Hx.out))
      rw [htd, read_txt HX.out.ok] at HC2
      clear HC htx htd hts hx
      go_wp2_with fail
      refine HC2.out.mono ?_
      intro e w12 hx
      obtain ⟨v, c, l, rfl, hcl, hrow, hx⟩ := hx
      obtain ⟨rfl, rfl⟩ : 0 = c ∧ x = l := by simpa using hcl
      rw [errv_no rfl]
      try replace HX := hid (HX.out.ext hx)
      try replace HY := hid (HY.out.ext hx)
      try replace HZ := hid (HZ.out.ext hx)
      try replace HP := hid (HP.out.ext hx)
      try replace HQ := hid (HQ.out.ext hx)
      try replace HR := hid (HR.out.ext hx)
      try replace HS := hid (HS.out.ext hx)
      try replace HT := hid (HT.out.ext hx)
      try replace HU := hid (HU.out.ext hx)
      try replace HV := hid (HV.out.ext hx)
      replace Hx := hid (Hx.out.trans hx)
      obtain ⟨au, cu, rfl⟩ := hrow.form
      have HU : Hid (SV w12 (.slice au x.length cu) x) := hid ⟨IntsR.own hrow (Nat.le_refl _), HX.out.ok, HX.out.few⟩
      clear HC2 hx hrow hcl
      have HC := hid (sv_same _ _ lp lq w12 HP.out HQ.out)
      rw [decide_eq_true E1.out] at HC
      go_wp2_with fail
      refine (HC).out.mono ?_
      intro e w13 hx
      obtain ⟨rfl, hx⟩ := hx
      try replace HX := hid (HX.out.ext hx)
      try replace HY := hid (HY.out.ext hx)
      try replace HZ := hid (HZ.out.ext hx)
      try replace HP := hid (HP.out.ext hx)
      try replace HQ := hid (HQ.out.ext hx)
      try replace HR := hid (HR.out.ext hx)
      try replace HS := hid (HS.out.ext hx)
      try replace HT := hid (HT.out.ext hx)
      try replace HU := hid (HU.out.ext hx)
      try replace HV := hid (HV.out.ext hx)
      replace Hx := hid (Hx.out.trans hx)
      clear hx
      clear HC
      have HC := hid (sv_same _ _ lt x w13 HT.out HX.out)
      rw [decide_eq_true E2.out] at HC
      go_wp2_with fail
      refine (HC).out.mono ?_
      intro e w14 hx
      obtain ⟨rfl, hx⟩ := hx
      try replace HX := hid (HX.out.ext hx)
      try replace HY := hid (HY.out.ext hx)
      try replace HZ := hid (HZ.out.ext hx)
      try replace HP := hid (HP.out.ext hx)
      try replace HQ := hid (HQ.out.ext hx)
      try replace HR := hid (HR.out.ext hx)
      try replace HS := hid (HS.out.ext hx)
      try replace HT := hid (HT.out.ext hx)
      try replace HU := hid (HU.out.ext hx)
      try replace HV := hid (HV.out.ext hx)
      replace Hx := hid (Hx.out.trans hx)
      clear hx
      clear HC
      have HC := hid (sv_same _ _ x x w14 HU.out HX.out)
      rw [decide_eq_true rfl] at HC
      go_wp2_with fail
      refine (HC).out.mono ?_
      intro e w15 hx
      obtain ⟨rfl, hx⟩ := hx
      try replace HX := hid (HX.out.ext hx)
      try replace HY := hid (HY.out.ext hx)
      try replace HZ := hid (HZ.out.ext hx)
      try replace HP := hid (HP.out.ext hx)
      try replace HQ := hid (HQ.out.ext hx)
      try replace HR := hid (HR.out.ext hx)
      try replace HS := hid (HS.out.ext hx)
      try replace HT := hid (HT.out.ext hx)
      try replace HU := hid (HU.out.ext hx)
      try replace HV := hid (HV.out.ext hx)
      replace Hx := hid (Hx.out.trans hx)
      clear hx
      clear HC
      have HC := hid (setwithin_any _ _ x lp w15 w15.heap.size HX.out.row HP.out.row)
      rw [E4.out] at HC
      go_wp2_with fail
      refine (HC).out.mono ?_
      intro e w16 hx
      obtain ⟨rfl, hx⟩ := hx
      try replace HX := hid (HX.out.ext hx)
      try replace HY := hid (HY.out.ext hx)
      try replace HZ := hid (HZ.out.ext hx)
      try replace HP := hid (HP.out.ext hx)
      try replace HQ := hid (HQ.out.ext hx)
      try replace HR := hid (HR.out.ext hx)
      try replace HS := hid (HS.out.ext hx)
      try replace HT := hid (HT.out.ext hx)
      try replace HU := hid (HU.out.ext hx)
      try replace HV := hid (HV.out.ext hx)
      replace Hx := hid (Hx.out.trans hx)
      clear hx
      clear HC
      have HC := hid (setwithin_any _ _ ly lp w16 w16.heap.size HY.out.row HP.out.row)
      rw [E5.out] at HC
      go_wp2_with fail
      refine (HC).out.mono ?_
      intro e w17 hx
      obtain ⟨rfl, hx⟩ := hx
      try replace HX := hid (HX.out.ext hx)
      try replace HY := hid (HY.out.ext hx)
      try replace HZ := hid (HZ.out.ext hx)
      try replace HP := hid (HP.out.ext hx)
      try replace HQ := hid (HQ.out.ext hx)
      try replace HR := hid (HR.out.ext hx)
      try replace HS := hid (HS.out.ext hx)
      try replace HT := hid (HT.out.ext hx)
      try replace HU := hid (HU.out.ext hx)
      try replace HV := hid (HV.out.ext hx)
      replace Hx := hid (Hx.out.trans hx)
      clear hx
      clear HC
      have HC := hid (setwithin_any _ _ ls ly w17 w17.heap.size HS.out.row HY.out.row)
      rw [E6.out] at HC
      go_wp2_with fail
      refine (HC).out.mono ?_
      intro e w18 hx
      obtain ⟨rfl, hx⟩ := hx
      try replace HX := hid (HX.out.ext hx)
      try replace HY := hid (HY.out.ext hx)
      try replace HZ := hid (HZ.out.ext hx)
      try replace HP := hid (HP.out.ext hx)
      try replace HQ := hid (HQ.out.ext hx)
      try replace HR := hid (HR.out.ext hx)
      try replace HS := hid (HS.out.ext hx)
      try replace HT := hid (HT.out.ext hx)
      try replace HU := hid (HU.out.ext hx)
      try replace HV := hid (HV.out.ext hx)
      replace Hx := hid (Hx.out.trans hx)
      clear hx
      clear HC
      have f1 := HX.out.few
      have f2 := HY.out.few
      have f3 := HS.out.few
      have f4 := HP.out.few
      have f5 : (lp.length : Int) = (x.length : Int) + ly.length - ls.length := by have := E3.out; omega
      go_wp2
      clear f2 f3 f4 f5
      go_loop [20] (fun t20 => ∃ i : Nat, t20 = .int .i64 (i : Int) ∧ i ≤ a.length) (fun t20 => a.length - (intOf t20).toNat)
      case atStart => exact ⟨0, rfl, Nat.zero_le _⟩
      case round =>
        obtain ⟨i, rfl, hi⟩ := hrel
        by_cases hil : i < a.length
        · obtain ⟨y, q, hya, hqk, hcq⟩ := (HIa.out.old (Hx.out.old n0)).at hil
          subst hya
          have HC := hid (sethas_any _ x q w18 w18.heap.size HX.out.row)
          rw [decide_eq_true (by rw [HXe.out]; exact (mem_sset Hin.out).2 (List.mem_of_getElem? hqk))] at HC
          clear hqk
          go_wp2_with fail
          refine HC.out.mono ?_
          intro e w19 hx
          obtain ⟨rfl, rfl⟩ := hx
          clear HC
          go_wp2
          exact ⟨⟨i + 1, by go_num, by omega⟩, by simp [intOf]; omega⟩
        · have HC := hid (setwithin_any _ (.slice aa a.length ca) x a w18 w18.heap.size HX.out.row (ElR.lift (HIa.out.old (Hx.out.old n0)) (by rw [Hn0.out]; exact Hx.out.size)))
          rw [show (x.all fun n => decide (n ∈ a)) = true from by rw [HXe.out]; exact within_of a] at HC
          go_wp2_with fail
          refine (HC).out.mono ?_
          intro e w19 hx
          obtain ⟨rfl, hx⟩ := hx
          try replace HX := hid (HX.out.ext hx)
          try replace HY := hid (HY.out.ext hx)
          try replace HZ := hid (HZ.out.ext hx)
          try replace HP := hid (HP.out.ext hx)
          try replace HQ := hid (HQ.out.ext hx)
          try replace HR := hid (HR.out.ext hx)
          try replace HS := hid (HS.out.ext hx)
          try replace HT := hid (HT.out.ext hx)
          try replace HU := hid (HU.out.ext hx)
          try replace HV := hid (HV.out.ext hx)
          replace Hx := hid (Hx.out.trans hx)
          clear hx
          clear HC
          have HC := hid (setcheck_any _ x w19 w19.heap.size ad ((HA.out.ext Hx.out).eS) HX.out.row)
          rw [errv_no HX.out.ok] at HC
          go_wp2_with fail
          refine (HC).out.mono ?_
          intro e w20 hx
          obtain ⟨rfl, hx⟩ := hx
          try replace HX := hid (HX.out.ext hx)
          try replace HY := hid (HY.out.ext hx)
          try replace HZ := hid (HZ.out.ext hx)
          try replace HP := hid (HP.out.ext hx)
          try replace HQ := hid (HQ.out.ext hx)
          try replace HR := hid (HR.out.ext hx)
          try replace HS := hid (HS.out.ext hx)
          try replace HT := hid (HT.out.ext hx)
          try replace HU := hid (HU.out.ext hx)
          try replace HV := hid (HV.out.ext hx)
          replace Hx := hid (Hx.out.trans hx)
          clear hx
          clear HC
          go_wp2
          go_ret
          exact ⟨rfl, Hx.out⟩
    · unfold evOf
      go_wp2
      go_ret
      exact ⟨rfl, Hx.out⟩
  · unfold evOf
    have HC := hid (own_of (.slice ab b.length cb) b w3 n0 (HIb.out.old (Hx.out.old n0)) (by omega))
    go_wp2_with fail
    refine HC.out.mono ?_
    intro e w4 hx
    obtain ⟨v, rfl, hx, hr, ax, cx, rfl⟩ := hx
    try replace HX := hid (HX.out.ext hx)
    try replace HY := hid (HY.out.ext hx)
    try replace HZ := hid (HZ.out.ext hx)
    try replace HP := hid (HP.out.ext hx)
    try replace HQ := hid (HQ.out.ext hx)
    try replace HR := hid (HR.out.ext hx)
    try replace HS := hid (HS.out.ext hx)
    try replace HT := hid (HT.out.ext hx)
    try replace HU := hid (HU.out.ext hx)
    try replace HV := hid (HV.out.ext hx)
    replace Hx := hid (Hx.out.trans hx)
    have HO := hid (setof_any _ b w4 w4.heap.size ad ((HA.out.ext Hx.out).eS) hr (by omega))
    clear HC hx hr
    go_wp2_with fail
    refine HO.out.mono ?_
    intro e w5 hx
    obtain ⟨t, rfl, ht, hx⟩ := hx
    try replace HX := hid (HX.out.ext hx)
    try replace HY := hid (HY.out.ext hx)
    try replace HZ := hid (HZ.out.ext hx)
    try replace HP := hid (HP.out.ext hx)
    try replace HQ := hid (HQ.out.ext hx)
    try replace HR := hid (HR.out.ext hx)
    try replace HS := hid (HS.out.ext hx)
    try replace HT := hid (HT.out.ext hx)
    try replace HU := hid (HU.out.ext hx)
    try replace HV := hid (HV.out.ext hx)
    replace Hx := hid (Hx.out.trans hx)
    clear HO hx
    rcases ht with ⟨hinb, v, rfl, hrb⟩ | ⟨hinb, rfl⟩
    · obtain ⟨ay, cy, rfl⟩ := hrb.form
      clear hrb hinb
      go_wp2
      go_ret
      exact ⟨rfl, Hx.out⟩
    · unfold evOf
      go_wp2
      go_ret
      exact ⟨rfl, Hx.out⟩
theorem TabOk.ext {w w' : World} (h : TabOk w) (x : Ext w w') : TabOk w' := by
  unfold TabOk Lib.TabIs World.var? at *
  have hg : Tryz.prog.globalNamed "internal/strconv.uint64pow10" = some 17 := by kernel_rfl
  rw [hg] at h ⊢
  simp only [Option.bind_some] at h ⊢
  cases hb : w.heap[17]? with
  | none => rw [hb] at h; cases h
  | some o => rw [x.get hb]; rw [hb] at h; exact h
def tabL : List (String × DataW Unit) := [("internal/strconv.uint64pow10", Lib.tabData .u64 Lib.pow10Tab)]
theorem tab_of {W : World} (h : laidMetH Tryz.prog tabL W) : TabOk W := by
  have h1 := (laidMetH_iff.1 h).1
  rw [List.filter_eq_self.2 fun x hx => by
    obtain rfl := List.mem_singleton.1 hx
    simp [Lib.tabData, DataW.handleName?]] at h1
  exact Lib.tabIs_of_head (g := 17) (t := 286) (e := 218) (n := 20) (by kernel_rfl) (by kernel_rfl) (by kernel_rfl) (by kernel_rfl) (by kernel_rfl) (by kernel_rfl) h1
def conv2 : List (String × Nat × List UInt8) := [("strconv.ErrRange", 14, [118, 97, 108, 117, 101, 32, 111, 117, 116, 32, 111, 102, 32, 114, 97, 110, 103, 101]), ("strconv.ErrSyntax", 13, [105, 110, 118, 97, 108, 105, 100, 32, 115, 121, 110, 116, 97, 120])]
def convL : List (String × DataW Unit) := conv2.map fun x => (x.1, sentD x.2.2)
theorem conv_of {W : World} (h : laidMetH Tryz.prog convL W) : AtoiOk W := by
  have h1 := (laidMetH_iff.1 h).1
  rw [List.filter_eq_self.2 fun x hx => by
    obtain ⟨c, _, rfl⟩ := List.mem_map.1 hx
    simp [sent_noHandle]] at h1
  obtain ⟨pa, e1, e2, _⟩ := sents_met conv2 h1 (fun x hx => by
    rcases List.mem_cons.1 hx with rfl | hx
    · exact ⟨by kernel_rfl, by kernel_rfl⟩
    · obtain rfl := List.mem_singleton.1 hx
      exact ⟨by kernel_rfl, by kernel_rfl⟩)
  have hl : pa.length = 2 := e1
  have s0 := e2 0 _ pa[0] rfl (List.getElem?_eq_getElem (by omega))
  have s1 := e2 1 _ pa[1] rfl (List.getElem?_eq_getElem (by omega))
  exact ⟨⟨_, s1.var, .inr ⟨_, _, rfl⟩⟩, _, s0.var, .inr ⟨_, _, rfl⟩⟩
theorem errT_of {W : World} (h : laidMetH Tryz.prog (sentL [1, 2, 10]) W) : ∃ ad : Nat → Addr, ErrT W ad := by
  obtain ⟨ad, s1, _⟩ := sents_ad [1, 2, 10] (by decide) (met_plain h)
  exact ⟨ad, (s1 1 (by decide)).var, (s1 2 (by decide)).var, (s1 10 (by decide)).var⟩
end Go.Proofs.YtbagppdibncfdaaGreatDoor
