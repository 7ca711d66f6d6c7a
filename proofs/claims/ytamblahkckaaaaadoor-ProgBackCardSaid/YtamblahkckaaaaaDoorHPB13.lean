/- Texts of one proof, put together: E2 E4 X7 ZZZW ZZZX ZZZY MQ. -/
import Derived.Test.YtamblahkckaaaaaDoorHPB04
import Derived.Test.YtamblahkckaaaaaDoorHPB05
import Derived.Test.YtamblahkckaaaaaDoorHPB06
import Derived.Test.YtamblahkckaaaaaDoorHPB07
import Derived.Test.YtamblahkckaaaaaDoorHPB10
import Derived.Test.YtamblahkckaaaaaDoorHPB11
import Derived.Test.YtamblahkckaaaaaDoorHPB12
import Derived.Maps.Keyed
import Derived.Test.YtamblahkckaaaaaDoorHPB01
set_option linter.unusedSimpArgs false
set_option linter.unusedVariables false
namespace Go.Proofs.YtamblahkckaaaaaDoor
open Go Go.RowKit
def PP.iterV (P : PP) : Nat → List (List Int)
  | 0 => List.replicate P.nodesV []
  | n + 1 => P.roundV (P.iterV n)
theorem iterV_good {P : PP} (hw : P.Well) : ∀ n, P.GoodS (P.iterV n)
  | 0 => ⟨hw, by simp [PP.iterV], fun l hl => by
    obtain rfl := List.eq_of_mem_replicate hl
    exact setE_of (by decide) fun x hx => by cases hx⟩
  | n + 1 => roundV_good (iterV_good hw n)
theorem roundV_sub {P : PP} {has : List (List Int)} (hg : P.GoodS has) : Sub has (P.roundV has) := fun i x hx => by
  by_cases hi : i < has.length
  · exact (mem_roundV hg hi).2 (.inl hx)
  · rw [List.getD_eq_getElem?_getD, List.getElem?_eq_none (by omega)] at hx
    cases hx
theorem closed_of_round {P : PP} {has : List (List Int)} (hg : P.GoodS has) (h : P.roundV has = has) : ClosedP P has := by
  refine ⟨fun k hk hb => ?_, fun e he hne n hn => ?_⟩
  · have ha := rule_a_in hg.1 hk
    have hnv := nodes_vars P
    have hl := hg.2.1
    have hm : (P.ruleV k (P.stAt k)).b ∈ (P.roundV has).getD (P.ruleV k (P.stAt k)).a.toNat [] := (mem_roundV hg (by omega)).2 (.inr (.inl ⟨k, hk, hb, by omega, rfl⟩))
    rwa [h] at hm
  · obtain ⟨h1, h2, h3, h4⟩ := edges0_in hg.1 hg.ok e he
    have hl := hg.2.1
    obtain ⟨i, hi⟩ := List.mem_iff_getElem?.1 (((edgesL_are hg).mem e).2 ⟨he, hne⟩)
    have hil : i < (P.edgesL has).length := by
      rcases Nat.lt_or_ge i (P.edgesL has).length with g | g
      · exact g
      · rw [List.getElem?_eq_none g] at hi; cases hi
    have hm : n ∈ (P.roundV has).getD e.2.toNat [] := (mem_roundV hg (by omega)).2 (.inr (.inr ⟨i, e, hil, hi, by omega, hn⟩))
    rwa [h] at hm
theorem round_within {P : PP} {has ans : List (List Int)} (hg : P.GoodS has) (ga : P.GoodS ans) (hc : ClosedP P ans) (hs : Sub has ans) : Sub (P.roundV has) ans := fun i x hx => by
  by_cases hi : i < has.length
  · rcases (mem_roundV hg hi).1 hx with h | ⟨j, hj, h1, h2, h3⟩ | ⟨q, e, _, he, h2, h3⟩
    · exact hs i x h
    · have := hc.base j hj h1
      rw [h2, h3, Int.toNat_natCast] at this
      exact this
    · have h0 := ((edgesL_are hg).mem e).1 (List.mem_of_getElem? he)
      have h5 := hc.edge e (edges0_mono hs e h0.1) h0.2 x (hs _ _ h3)
      rw [h2, Int.toNat_natCast] at h5
      exact h5
  · rw [List.getD_eq_getElem?_getD, List.getElem?_eq_none (by rw [roundV_len]; omega)] at hx
    cases hx
theorem iter_within {P : PP} {ans : List (List Int)} (ga : P.GoodS ans) (hc : ClosedP P ans) : ∀ n, Sub (P.iterV n) ans
  | 0 => fun i x hx => by
    rw [List.getD_eq_getElem?_getD] at hx
    unfold PP.iterV at hx
    rw [List.getElem?_replicate] at hx
    split at hx <;> cases hx
  | n + 1 => round_within (iterV_good ga.1 n) ga hc (iter_within ga hc n)
def total (S : List (List Int)) : Nat := (S.map List.length).sum
theorem srt_len : ∀ {a b : List Int}, Srt a → Srt b → (∀ x, x ∈ a → x ∈ b) → a.length ≤ b.length ∧ (a.length = b.length → a = b)
  | [], b, _, _, _ => ⟨Nat.zero_le _, fun h => (List.eq_nil_of_length_eq_zero h.symm).symm⟩
  | x :: a, b, ha, hb, h => by
    obtain ⟨s, t, rfl⟩ := List.append_of_mem (h x List.mem_cons_self)
    have hb' := List.pairwise_append.1 hb
    have hbt := List.pairwise_cons.1 hb'.2.1
    have ih := srt_len ha.tail hbt.2 fun e he => by
      have hlt := ha.head e he
      rcases List.mem_append.1 (h e (List.mem_cons_of_mem _ he)) with g | g
      · have := hb'.2.2 e g x List.mem_cons_self
        omega
      · rcases List.mem_cons.1 g with g | g
        · omega
        · exact g
    rw [List.length_append, List.length_cons, List.length_cons]
    refine ⟨by omega, fun hl => ?_⟩
    have hs : s = [] := List.eq_nil_of_length_eq_zero (by omega)
    subst hs
    rw [List.nil_append, ih.2 (by simp at hl; omega)]
theorem total_sub : ∀ {S T : List (List Int)}, S.length = T.length → (∀ l ∈ S, Srt l) → (∀ l ∈ T, Srt l) → (∀ i x, x ∈ S.getD i [] → x ∈ T.getD i []) → total S ≤ total T ∧ (total S = total T → S = T)
  | [], [], _, _, _, _ => ⟨Nat.le_refl _, fun _ => rfl⟩
  | [], _ :: _, h, _, _, _ => by simp at h
  | _ :: _, [], h, _, _, _ => by simp at h
  | a :: S, b :: T, h, hs, ht, hm => by
    have h1 := srt_len (hs a List.mem_cons_self) (ht b List.mem_cons_self) fun x hx => by simpa using hm 0 x (by simpa using hx)
    have h2 := total_sub (S := S) (T := T) (by simpa using h) (fun l hl => hs l (List.mem_cons_of_mem _ hl)) (fun l hl => ht l (List.mem_cons_of_mem _ hl)) fun i x hx => by simpa using hm (i + 1) x (by simpa using hx)
    have e1 : total (a :: S) = a.length + total S := by unfold total; simp
    have e2 : total (b :: T) = b.length + total T := by unfold total; simp
    rw [e1, e2]
    refine ⟨by omega, fun he => ?_⟩
    rw [h1.2 (by omega), h2.2 (by omega)]
theorem total_few : ∀ {S : List (List Int)}, (∀ l ∈ S, l.length ≤ 1000) → total S ≤ S.length * 1000
  | [], _ => Nat.le_refl _
  | a :: S, h => by
    have h1 := h a List.mem_cons_self
    have h2 := total_few (S := S) fun l hl => h l (List.mem_cons_of_mem _ hl)
    have e1 : total (a :: S) = a.length + total S := by unfold total; simp
    rw [e1, List.length_cons]
    omega
theorem good_srt {P : PP} {has : List (List Int)} (hg : P.GoodS has) : ∀ l ∈ has, Srt l := fun l hl => (chkE_zero.1 (hg.ok.ok l hl).1).2
theorem iter_grows {P : PP} (hw : P.Well) (n : Nat) (h : P.iterV (n + 1) ≠ P.iterV n) : total (P.iterV n) + 1 ≤ total (P.iterV (n + 1)) := by
  have hg := iterV_good hw n
  have hg' := iterV_good hw (n + 1)
  have h1 := total_sub (S := P.iterV n) (T := P.iterV (n + 1)) (roundV_len P _).symm (good_srt hg) (good_srt hg') (roundV_sub hg)
  rcases Nat.lt_or_ge (total (P.iterV n)) (total (P.iterV (n + 1))) with g | g
  · exact g
  · exact absurd (h1.2 (by omega)).symm h
theorem iter_few {P : PP} (hw : P.Well) (n : Nat) : total (P.iterV n) ≤ 120000 := by
  have hg := iterV_good hw n
  have h1 := total_few (S := P.iterV n) fun l hl => srt_few (hg.ok.ok l hl).1
  have h2 := hg.2.1
  have h3 := nodesV_le P hw
  omega
structure LeastAt (P : PP) (n : Nat) (S : List (List Int)) : Prop where
  eq : S = P.iterV n
  fix : P.roundV S = S
  first : ∀ m, m < n → P.roundV (P.iterV m) ≠ P.iterV m
theorem LeastAt.uniq {P : PP} {n m : Nat} {S T : List (List Int)} (h : LeastAt P n S) (g : LeastAt P m T) : n = m ∧ S = T := by
  have hnm : n = m := by
    rcases Nat.lt_trichotomy n m with k | k | k
    · exact absurd (by rw [← h.eq]; exact h.fix) (g.first n k)
    · exact k
    · exact absurd (by rw [← g.eq]; exact g.fix) (h.first m k)
  subst hnm
  exact ⟨rfl, h.eq.trans g.eq.symm⟩
theorem LeastAt.good {P : PP} (hw : P.Well) {n : Nat} {S : List (List Int)} (h : LeastAt P n S) : P.GoodS S := by rw [h.eq]; exact iterV_good hw n
theorem LeastAt.closed {P : PP} (hw : P.Well) {n : Nat} {S : List (List Int)} (h : LeastAt P n S) : ClosedP P S := closed_of_round (h.good hw) h.fix
theorem LeastAt.within {P : PP} {n : Nat} {S ans : List (List Int)} (h : LeastAt P n S) (ga : P.GoodS ans) (hc : ClosedP P ans) : Sub S ans := by rw [h.eq]; exact iter_within ga hc n
theorem Made.put {w : World} {base g cap N : Nat} {vs : List Value} {L : List (List Int)} {n : Nat} {v : Value} {l : List Int} (hr : w.ownsRow base 37 1 (.slice (some ⟨g, 0, none⟩) N cap) N vs) (hm : Made w vs L) (hL : L.length = N) (hv : IntsT w v l) (hn : n < N) :
    (w.setCell ⟨g, n, none⟩ v).ownsRow base 37 1 (.slice (some ⟨g, 0, none⟩) N cap) N (vs.set n v) ∧ Made (w.setCell ⟨g, n, none⟩ v) (vs.set n v) (L.set n l) ∧ Keep (fun q => q = g) w (w.setCell ⟨g, n, none⟩ v) := by
  have k : Keep (fun q => q = g) w (w.setCell ⟨g, n, none⟩ v) := Keep.set (X := fun q => q = g) (Keep.refl _ _) rfl _
  have hni : ∀ b, b = g → ¬ IsInt w b := fun b e => by
    subst e
    obtain ⟨c, hc⟩ := own_ty hr (k := b) rfl
    exact notInt hc (by decide)
  have hvs := hm.1
  refine ⟨own_set hr n (by omega) v, ⟨by rw [List.length_set, List.length_set]; exact hvs, fun i u m hu hl => ?_⟩, k⟩
  by_cases hi : n = i
  · subst hi
    rw [List.getElem?_set_self (by omega)] at hu hl
    obtain rfl := Option.some.inj hu
    obtain rfl := Option.some.inj hl
    exact hv.keep k hni
  · rw [List.getElem?_set_ne hi] at hu hl
    exact (hm.2 i u m hu hl).keep k hni
theorem Made.one {w : World} {base g cap N : Nat} {vs : List Value} {S : List (List Int)} (hr : w.ownsRow base 37 1 (.slice (some ⟨g, 0, none⟩) N cap) N vs) (hm : Made w vs S) (hL : S.length = N) {n : Nat} (hn : n < N) : ∃ a c, w.cell? ⟨g, n, none⟩ = some (.slice a (S.getD n []).length c) ∧ IntsR w w.heap.size (.slice a (S.getD n []).length c) (S.getD n []) := by
  have hvs := hm.1
  have h1 : vs[n]? = some (vs[n]'(by omega)) := List.getElem?_eq_getElem (by omega)
  have h2 : S[n]? = some (S[n]'(by omega)) := List.getElem?_eq_getElem (by omega)
  have hT := hm.2 n _ _ h1 h2
  obtain ⟨a, c, ha⟩ := hT.form
  have e : S.getD n [] = S[n]'(by omega) := by rw [List.getD_eq_getElem?_getD, h2]; rfl
  rw [e]
  rw [ha] at h1
  exact ⟨a, c, own_get hr n h1, by rw [← ha]; exact hT.1⟩
theorem BagAt.inr {P : PP} {has : List (List Int)} {EL : List (Int × Int)} {k m : Nat} {B : List (List Int)} (h : BagAt P has EL k m B) {l : List Int} (hl : l ∈ B) : InR l := fun x hx => by
  obtain ⟨S, h1, h2, h3⟩ := h.set
  obtain ⟨i, hi, rfl⟩ := List.getElem_of_mem hl
  have hx' : x ∈ B.getD i [] := by rw [List.getD_eq_getElem?_getD, List.getElem?_eq_getElem hi]; exact hx
  exact (chkE_zero.1 (h1.ok _ (getD_mem (by rw [← h2]; exact hi)))).1 x ((h3 i x).1 hx')
theorem own_pos {w : World} {base g : Nat} {e : TypeId} {size n cap : Nat} {xs : List Value} (h : w.ownsRow base e size (.slice (some ⟨g, 0, none⟩) n cap) n xs) : ∃ c, Blk w g c e ∧ base ≤ g := by
  obtain ⟨c, h1, h2, _⟩ := own_blk h
  exact ⟨c, h1, h2⟩
def NewS (w : World) (base : Nat) (v : Value) : Prop := ∀ y n c, v = .slice (some y) n c → 0 < n → base ≤ y.block ∧ ∀ i u, i < n → w.cell? (y.add i) = some u → ∀ b, u.ownBlock = some b → base ≤ b
theorem NewS.ext {w w' : World} {base n0 : Nat} {v : Value} {L : List (List Int)} (h : NewS w base v) (hs : SetsR w n0 v L) (x : Ext w w') : NewS w' base v := by
  intro y n c e h0
  obtain ⟨k1, k2⟩ := h y n c e h0
  refine ⟨k1, fun i u hi hu b hb => ?_⟩
  obtain ⟨a, cap, g1, g2, g3, g4, g5⟩ := hs
  subst e
  obtain ⟨rfl, rfl, rfl⟩ : some y = a ∧ n = L.length ∧ c = cap := by simpa using g1
  obtain ⟨u0, hu0, _⟩ := (g5 y rfl h0).2 i hi _ (List.getElem?_eq_getElem hi)
  have := x.cellx hu0
  rw [hu] at this
  obtain rfl := Option.some.inj this
  exact k2 i _ hi hu0 b hb
theorem NewS.low {w : World} {base b2 : Nat} {v : Value} (h : NewS w base v) (hb : b2 ≤ base) : NewS w b2 v := fun y n c e h0 => ⟨Nat.le_trans hb (h y n c e h0).1, fun i u hi hu b hb' => Nat.le_trans hb ((h y n c e h0).2 i u hi hu b hb')⟩
theorem NewS.made {w : World} {base n : Nat} {v : Value} {vs : List Value} (h : w.ownsRow base 37 1 v n vs) (hn : ∀ u ∈ vs, ∀ b, u.ownBlock = some b → base ≤ b) : NewS w base v := by
  intro y m c e h0
  rcases h.2 with ⟨rfl, h0⟩ | ⟨g, cap, cur, rfl, hb, hg, hn', hc, hcs, ht⟩
  · cases e
  · obtain ⟨rfl, rfl, rfl⟩ : (⟨g, 0, none⟩ : Addr) = y ∧ n = m ∧ cap = c := by simpa using e
    refine ⟨hb, fun i u hi hu b hub => ?_⟩
    have hl : vs.length = n := by have := h.1; omega
    have h2 := own_get h i (List.getElem?_eq_getElem (show i < vs.length by omega))
    rw [show (⟨g, 0, none⟩ : Addr).add i = ⟨g, i, none⟩ from by by_cases h0 : i = 0 <;> simp [Addr.add, h0], h2] at hu
    obtain rfl := Option.some.inj hu
    exact hn _ (List.getElem_mem _) b hub
theorem Rdr.mem {w w' : World} {n1 b i : Nat} {vv fv sv x : Value} {P : PP} {fs : List F2} {ss : List S2} {pt : Nat} {c : Array Value} {o : Option Nat} (h : Rdr w n1 b vv fv sv P fs ss pt) (e : TypeId) (he : e ≠ 3) (her : e ≠ 64)
    (ho : ∀ q, o = some q → ∃ d, Blk w q d e) (k : Keep (fun q => o = some q) w w') (hc : c = #[vv, fv, sv, .int .i64 (pt : Int)].setIfInBounds i x) :
    Blk (w'.setCell ⟨b, i, none⟩ x) b c 64 ∧ (∀ v l, IntsT w v l → IntsT (w'.setCell ⟨b, i, none⟩ x) v l) ∧
    (∀ {base : Nat} {t : TypeId} {size : Nat} {v : Value} {n : Nat} {xs : List Value}, w'.ownsRow base t size v n xs → t ≠ 64 → (w'.setCell ⟨b, i, none⟩ x).ownsRow base t size v n xs) ∧
    (∀ {base : Nat} {t : TypeId} {size : Nat} {v : Value} {n : Nat} {xs : List Value}, w.ownsRow base t size v n xs → t ≠ e → w'.ownsRow base t size v n xs) := by
  have hb : Blk w' b #[vv, fv, sv, .int .i64 (pt : Int)] 64 := h.blk.keep k fun q => by
    obtain ⟨d, hd⟩ := ho _ q
    exact Blk.ty_ne hd h.blk her rfl
  have k2 : Keep (fun q => q = b) w' (w'.setCell ⟨b, i, none⟩ x) := Keep.set (X := fun q => q = b) (Keep.refl _ _) rfl _
  refine ⟨by rw [hc]; exact hb.set i x, fun v l hi => (hi.keep k fun q hq => ?_).keep k2 fun q hq => by subst hq; exact notInt hb (by decide), fun hr hne => row_keep hr k2 fun q hq e2 => ?_, fun hr hne => row_keep hr k fun q hq e2 => ?_⟩
  · obtain ⟨d, hd⟩ := ho _ hq
    exact notInt hd he
  · subst e2
    obtain ⟨d, hd⟩ := own_ty hr hq
    exact Blk.ty_ne hd hb hne rfl
  · obtain ⟨d, hd⟩ := own_ty hr hq
    obtain ⟨d2, hd2⟩ := ho _ e2
    exact Blk.ty_ne hd hd2 hne rfl
theorem Rdr.stmt {w w1 w' : World} {n1 b : Nat} {vv fv sv sv' : Value} {P : PP} {fs : List F2} {ss : List S2} {pt : Nat} (h : Rdr w n1 b vv fv sv P fs ss pt) (x : S2) (hx : IntsT w x.v x.s.args)
    (ho : w'.ownsRow n1 39 4 sv' (ss.length + 1) (ss.flatMap S2.cells ++ S2.cells x)) (k : Keep (fun q => sv.ownBlock = some q) w w') (hw : w1 = w'.setCell ⟨b, 2, none⟩ sv') : Rdr w1 n1 b vv fv sv' { P with stmts := P.stmts ++ [x.s] } fs (ss ++ [x]) pt := by
  subst hw
  obtain ⟨m1, m2, m3, m4⟩ := h.mem (x := sv') (i := 2) (c := #[vv, fv, sv', .int .i64 (pt : Int)]) 39 (by decide) (by decide) (fun q hq => own_ty h.stmts hq) k (by simp)
  refine ⟨h.hb, m1, m3 (m4 h.vars (by decide)) (by decide), m3 (m4 h.funs (by decide)) (by decide), m3 (by simpa using ho) (by decide), fun y hy => m2 _ _ (h.fi y hy), fun y hy => ?_, h.fm, by simp [h.sm]⟩
  rcases List.mem_append.1 hy with hy | hy
  · exact m2 _ _ (h.si y hy)
  · rw [List.mem_singleton.1 hy]; exact m2 _ _ hx
theorem Rdr.fun {w w1 w' : World} {n1 b : Nat} {vv fv sv fv' : Value} {P : PP} {fs : List F2} {ss : List S2} {pt : Nat} (h : Rdr w n1 b vv fv sv P fs ss pt) (x : F2) (hx : IntsT w x.v x.f.params)
    (ho : w'.ownsRow n1 43 3 fv' (fs.length + 1) (fs.flatMap F2.cells ++ F2.cells x)) (k : Keep (fun q => fv.ownBlock = some q) w w') (hw : w1 = w'.setCell ⟨b, 1, none⟩ fv') : Rdr w1 n1 b vv fv' sv { P with funs := P.funs ++ [x.f] } (fs ++ [x]) ss pt := by
  subst hw
  obtain ⟨m1, m2, m3, m4⟩ := h.mem (x := fv') (i := 1) (c := #[vv, fv', sv, .int .i64 (pt : Int)]) 43 (by decide) (by decide) (fun q hq => own_ty h.funs hq) k (by simp)
  refine ⟨h.hb, m1, m3 (m4 h.vars (by decide)) (by decide), m3 (by simpa using ho) (by decide), m3 (m4 h.stmts (by decide)) (by decide), fun y hy => ?_, fun y hy => m2 _ _ (h.si y hy), by simp [h.fm], h.sm⟩
  rcases List.mem_append.1 hy with hy | hy
  · exact m2 _ _ (h.fi y hy)
  · rw [List.mem_singleton.1 hy]; exact m2 _ _ hx
theorem Rdr.var {w w1 w' : World} {n1 b : Nat} {vv fv sv vv' : Value} {P : PP} {fs : List F2} {ss : List S2} {pt : Nat} (h : Rdr w n1 b vv fv sv P fs ss pt) (s : ByteArray)
    (ho : w'.ownsRow n1 9 1 vv' (P.vars.length + 1) (P.vars.map .string ++ [.string s])) (k : Keep (fun q => vv.ownBlock = some q) w w') (hw : w1 = w'.setCell ⟨b, 0, none⟩ vv') : Rdr w1 n1 b vv' fv sv { P with vars := P.vars ++ [s] } fs ss pt := by
  subst hw
  obtain ⟨m1, m2, m3, m4⟩ := h.mem (x := vv') (i := 0) (c := #[vv', fv, sv, .int .i64 (pt : Int)]) 9 (by decide) (by decide) (fun q hq => own_ty h.vars hq) k (by simp)
  exact ⟨h.hb, m1, m3 (by simpa using ho) (by decide), m3 (m4 h.funs (by decide)) (by decide), m3 (m4 h.stmts (by decide)) (by decide), fun y hy => m2 _ _ (h.fi y hy), fun y hy => m2 _ _ (h.si y hy), h.fm, h.sm⟩
def RdA (w0 w : World) (b : Nat) (P : PP) (pt : Nat) : Prop := (∃ vv fv sv fs ss, Rdr w w0.heap.size b vv fv sv P fs ss pt) ∧ Ext w0 w
def RdO (w0 w : World) (b : Nat) (r : PP × Nat) (pt : Nat) : Prop := Ext w0 w ∧ (r.2 = 0 → RdA w0 w b r.1 pt)
theorem RdO.no {w0 w : World} {b pt c : Nat} {P : PP} (h : Ext w0 w) (hc : c ≠ 0) : RdO w0 w b (P, c) pt := ⟨h, fun e => absurd e hc⟩
theorem RdO.yes {w0 w : World} {b pt : Nat} {vv fv sv : Value} {P : PP} {fs : List F2} {ss : List S2} (h : Rdr w w0.heap.size b vv fv sv P fs ss pt) (hx : Ext w0 w) : RdO w0 w b (P, 0) pt := ⟨hx, fun _ => ⟨⟨_, _, _, _, _, h⟩, hx⟩⟩
structure PP.Few (P : PP) : Prop where
  v : P.vars.length ≤ 10000
  f : P.funs.length ≤ 10000
  s : P.stmts.length ≤ 10000
theorem Rdr.keep_new {w0 w w' : World} {b i : Nat} {x : Value} {o : Option Nat} (hX : Ext w0 w) (hb : w0.heap.size ≤ b) (ho : ∀ q, o = some q → w0.heap.size ≤ q) (k : Keep (fun q => o = some q) w w') : Ext w0 (w'.setCell ⟨b, i, none⟩ x) :=
  Keep.new hX ((k.mono (Y := fun q => q = b ∨ o = some q) fun _ _ h => .inr h).set (.inl rfl) _) fun q h => by
    rcases h with h | h
    · rw [h]; exact hb
    · exact ho q h
def PP.twoR (P : PP) (kind x y : ByteArray) : PP × Nat :=
  if (P.varsR [x, y]).2 = 0 then ({ P with stmts := P.stmts ++ [⟨kind, (P.varsR [x, y]).1.getD 0 0, (P.varsR [x, y]).1.getD 1 0, []⟩] }, 0) else (P, (P.varsR [x, y]).2)
theorem PP.varsR_ok {P : PP} {l : List ByteArray} {ks : List Int} (h : P.varsR l = (ks, 0)) : ks = l.map (ixB P.vars) := by
  unfold PP.varsR at h
  split at h
  · simp at h
  · split at h
    · simp at h
    · exact (Prod.mk.inj h).1.symm
set_option maxRecDepth 100000 in
set_option maxHeartbeats 3200000 in
theorem rdrtwo_any (kind x y : ByteArray) (hx : x.size ≤ 1000000) (hy : y.size ≤ 1000000) (w0 w : World) (b : Nat) (P : PP) (pt : Nat) (ad : Nat → Addr) (hE : ErrR w0 ad) (h : RdA w0 w b P pt) (hfew : P.Few) :
    Calls Tryd.prog 59 #[.pointer (some ⟨b, 0, none⟩), .string kind, .string x, .string y] w fun e w' => e = .returned (errv (evOf ad) (P.twoR kind x y).2) ∧ RdO w0 w' b (P.twoR kind x y) pt := by
  obtain ⟨⟨vv, fv, sv, fs, ss, hR⟩, hX⟩ := h
  obtain ⟨W1, hW1⟩ : ∃ W1, W1 = w.alloc (.cells #[.string x, .string y] 9) := ⟨_, rfl⟩
  have hS : StrsR W1 W1.heap.size (.slice (some ⟨w.heap.size, 0, none⟩) 2 2) [x, y] := by
    have := StrsR.new w [x, y] (by simp)
    rw [hW1]
    exact this
  have hx1 : Ext w W1 := by rw [hW1]; exact (Ext.refl _).alloc _
  have HX1 := hid (hX.trans hx1)
  have HR1 := hid (hR.ext hx1)
  have HV := hid (rdrvariables_any _ [x, y] W1 _ _ b vv fv sv P fs ss pt ad (hE.ext HX1.out) HR1.out hS (by simp [hx, hy]) (by simp))
  have HW1 := hid hW1
  have Hfew := hid hfew.s
  clear hW1 hS hx1 hR hX hE hfew hx hy
  go_enter Tryd.func59, Tryd.ntmps59
  go_wp2_with fail
  rw [← HW1.out]
  refine HV.out.mono ?_
  rintro e w2 ⟨u, ks, c, rfl, hks, hr, hx2⟩
  have Hks := hid hks
  have HX2 := hid (HX1.out.trans hx2)
  have HR2 := hid (HR1.out.ext hx2)
  have Hr := hid hr
  clear HV hr hx2 HX1 HR1 hks
  obtain ⟨ua, uc, rfl⟩ := Hr.out.form
  by_cases hc : c = 0
  · subst hc
    have hkk := PP.varsR_ok Hks.out
    obtain ⟨i, j, rfl⟩ : ∃ i j, ks = [i, j] := ⟨_, _, hkk⟩
    have HT := hid (show P.twoR kind x y = ({ P with stmts := P.stmts ++ [⟨kind, i, j, []⟩] }, 0) by unfold PP.twoR; rw [Hks.out, if_pos rfl]; rfl)
    rw [errv_no rfl]
    obtain ⟨g, cp, hg⟩ := own_some Hr.out (by simp)
    simp only [Value.slice.injEq] at hg
    obtain ⟨rfl, -, rfl⟩ := hg
    obtain ⟨sa, sc, rfl⟩ := row_form HR2.out.stmts
    have hsl : ss.length = P.stmts.length := by rw [← HR2.out.sm, List.length_map]
    have Hsl : Hid (ss.length ≤ 1000000) := hid (by have := Hfew.out; omega)
    obtain ⟨gc, hgb, _⟩ := own_pos Hr.out
    have hn1 : ¬ (Value.slice sa ss.length sc).ownBlock = some g := fun e => by
      obtain ⟨d, hd⟩ := own_ty HR2.out.stmts e
      exact Blk.ty_ne hd hgb (by decide) rfl
    have hn2 : ¬ (Value.slice sa ss.length sc).ownBlock = some b := fun e => by
      obtain ⟨d, hd⟩ := own_ty HR2.out.stmts e
      exact Blk.ty_ne hd HR2.out.blk (by decide) rfl
    have c0 : ∀ w', Keep (fun q => (Value.slice sa ss.length sc).ownBlock = some q) w2 w' → w'.cell? ⟨g, 0, none⟩ = some (.int .i64 i) := fun w' k => k.cellx (own_get Hr.out 0 rfl) hn1
    have c1 : ∀ w', Keep (fun q => (Value.slice sa ss.length sc).ownBlock = some q) w2 w' → w'.cell? ⟨g, 1, none⟩ = some (.int .i64 j) := fun w' k => k.cellx (own_get Hr.out 1 rfl) hn1
    have g2 := HR2.out.blk.kc (X := fun q => (Value.slice sa ss.length sc).ownBlock = some q) hn2 2 rfl
    simp only [qA0, qA1, qA2] at g2
    have Hn2 := hid hn2
    simp only [List.length_cons, List.length_nil]
    clear hkk hgb hn1 hn2 hsl
    go_wp2
    refine wp_flowT (fun q => (Value.slice sa ss.length sc).ownBlock = some q) (by kernel_rfl) (by kernel_rfl) ?_
    repeat (apply FlowT.d; (intro w1 hk; unfold does; go_simp; (try go_ints); (first | exact DetR.mk | (simp only [↓IntWalk.iteOmega, Oper.doesUpon_value]; exact DetR.mk) | (simp only [↓IntWalk.iteOmega]; go_simp; (try go_ints); exact DetR.mk))); simp only [Act.put, qS0, qS1, qS2])
    refine FlowT.s (fun v' w' => ∃ d, v' = .slice (some ⟨d, 0, none⟩) 1 1 ∧ Blk w' d (S2.cells ⟨⟨kind, i, j, []⟩, .slice none 0 0⟩).toArray 39 ∧ Ext w2 w') 14 rfl (by kernel_rfl) (fun _ _ _ ⟨d, h1, h2, h3⟩ he => ⟨d, h1, h2.ext he, h3.trans he⟩) (fun w4 hC hk => ?_) (fun v2 hv2 => ?_)
    · unfold does
      go_simp
      exact ⟨hk.alloc _, _, rfl, Blk.new _ _ _, hC.alloc _⟩
    obtain ⟨_, d, rfl, _, _⟩ := hv2
    simp only [Act.put, qS0, qS1, qS2]
    refine FlowT.s (fun v' w' => w'.ownsRow w0.heap.size 39 4 v' (ss.length + 1) (ss.flatMap S2.cells ++ S2.cells ⟨⟨kind, i, j, []⟩, .slice none 0 0⟩)) 15 rfl (by kernel_rfl) (fun _ _ _ h he => own_ext h he) (fun w6 hC hk => ?_) (fun v3 hv3 => ?_)
    · obtain ⟨d', hd', hblk, hx⟩ := hC
      obtain rfl : d = d' := by simpa using hd'
      refine does_append_el w0.heap.size (Nat.le_trans HX2.out.size hx.size) 24 39 (.agg #[.string ⟨#[]⟩, .int .i64 0, .int .i64 0, .slice none 0 0]) 4 56 Tryd.underlying24 stmt_info rfl (by omega) (by omega) rfl _ _ rfl (.slice sa ss.length sc) ss.length (ss.flatMap S2.cells) rfl (own_ext HR2.out.stmts hx) d (S2.cells ⟨⟨kind, i, j, []⟩, .slice none 0 0⟩) rfl (by simp [S2.cells, Value.oneCell']) rfl hblk Hsl.out (fun v' w' h1 h2 h4 => ?_)
      exact ⟨(hx.keep _).trans h2, h1⟩
    obtain ⟨a5, c5, rfl⟩ : ∃ a5 c5, v3 = .slice a5 (ss.length + 1) c5 := by
      obtain ⟨_, h1⟩ := hv3
      exact row_form h1
    clear hv3
    simp only [Act.put, qS0, qS1, qS2]
    apply FlowT.l 16 rfl
    · intro w1; unfold does; go_simp; exact DetR.mk
    simp only [Act.put, qS0, qS1, qS2]
    repeat (apply FlowT.d; (intro w1 hk; unfold does; go_simp; (try go_ints); (first | exact DetR.mk | (simp only [↓IntWalk.iteOmega, Oper.doesUpon_value]; exact DetR.mk) | (simp only [↓IntWalk.iteOmega]; go_simp; (try go_ints); exact DetR.mk))); simp only [Act.put, qS0, qS1, qS2])
    refine FlowT.t (fun q => (Value.slice sa ss.length sc).ownBlock = some q ∨ q = b) (fun _ w' => Rdr w' w0.heap.size b vv fv (.slice a5 (ss.length + 1) c5) { P with stmts := P.stmts ++ [⟨kind, i, j, []⟩] } fs (ss ++ [⟨⟨kind, i, j, []⟩, .slice none 0 0⟩]) pt ∧ Ext w0 w') 19 rfl (by kernel_rfl) (by kernel_rfl) (fun _ _ _ h y => ⟨h.1.ext y, h.2.trans y⟩) (fun w6 hC hk => ?_) ?_
    · have q3 := g2 w6 hk
      have f3 := (HR2.out.blk.keep hk Hn2.out).free 2
      have HF := HR2.out.stmt ⟨⟨kind, i, j, []⟩, .slice none 0 0⟩ (IntsT.of_row (IRow.nil 0 w2)) hC hk rfl
      have HXF := Rdr.keep_new (i := 2) (x := .slice a5 (ss.length + 1) c5) HX2.out HR2.out.hb (fun q hq => (World.ownsRow.lt HR2.out.stmts q hq).1) hk
      have hk2 := (hk.mono (Y := fun q => (Value.slice sa ss.length sc).ownBlock = some q ∨ q = b) fun _ _ h => .inl h).set (p := ⟨b, 2, none⟩) (.inr rfl) (.slice a5 (ss.length + 1) c5)
      unfold does
      go_simp
      exact ⟨hk2, HF, HXF⟩
    rintro v _
    simp only [Act.put]
    refine FlowT.fin fun w7 hR _ => ?_
    have HF := hid hR
    clear c0 c1 g2 hR
    go_wp2
    go_ret
    rw [HT.out]
    exact ⟨rfl, RdO.yes HF.out.1 HF.out.2⟩
  · have HT := hid (show P.twoR kind x y = (P, c) by unfold PP.twoR; rw [Hks.out, if_neg hc])
    have HN := hid (RdO.no (b := b) (pt := pt) (P := P) HX2.out hc)
    have Hc := hid hc
    rw [errv_yes hc]
    clear hc
    go_wp2
    go_ret
    rw [HT.out]
    exact ⟨by rw [errv_yes (show (P, c).2 ≠ 0 from Hc.out)]; rfl, HN.out⟩
def PP.namedR (P : PP) (x f : ByteArray) : PP × Nat :=
  if anyBad [x, f] = true then (P, 1) else if ixB P.vars x < 0 then (P, 6) else if ixB (P.funs.map PF.name) f < 0 then (P, 6) else ({ P with stmts := P.stmts ++ [⟨⟨#[102, 117, 110]⟩, ixB P.vars x, ixB (P.funs.map PF.name) f, []⟩] }, 0)
theorem errv_p {ad : Nat → Addr} {P : PP} {c : Nat} (h : c ≠ 0) : errv (evOf ad) ((P, c) : PP × Nat).2 = .iface 130 (.pointer (some (ad c))) := errv_yes h
theorem Rdr.funs_at {w : World} {n1 b : Nat} {vv fv sv : Value} {P : PP} {fs : List F2} {ss : List S2} {pt : Nat} (h : Rdr w n1 b vv fv sv P fs ss pt) : FunsR w w.heap.size fv P.funs := FunsR.own h.funs h.fm h.fi
theorem Rdr.fl {w : World} {n1 b : Nat} {vv fv sv : Value} {P : PP} {fs : List F2} {ss : List S2} {pt : Nat} (h : Rdr w n1 b vv fv sv P fs ss pt) : fs.length = P.funs.length := by rw [← h.fm, List.length_map]
theorem Rdr.sl {w : World} {n1 b : Nat} {vv fv sv : Value} {P : PP} {fs : List F2} {ss : List S2} {pt : Nat} (h : Rdr w n1 b vv fv sv P fs ss pt) : ss.length = P.stmts.length := by rw [← h.sm, List.length_map]
set_option maxRecDepth 100000 in
set_option maxHeartbeats 3200000 in
theorem rdrnamed_any (x f : ByteArray) (hx : x.size ≤ 1000000) (hf : f.size ≤ 1000000) (w0 w : World) (b : Nat) (P : PP) (pt : Nat) (ad : Nat → Addr) (hE : ErrR w0 ad) (h : RdA w0 w b P pt) (hfew : P.Few) (hff : P.funs.length ≤ 1000) :
    Calls Tryd.prog 60 #[.pointer (some ⟨b, 0, none⟩), .string x, .string f] w fun e w' => e = .returned (errv (evOf ad) (P.namedR x f).2) ∧ RdO w0 w' b (P.namedR x f) pt := by
  obtain ⟨⟨vv, fv, sv, fs, ss, hR⟩, hX⟩ := h
  obtain ⟨W1, hW1⟩ : ∃ W1, W1 = w.alloc (.cells #[.string x, .string f] 9) := ⟨_, rfl⟩
  have hS : StrsR W1 W1.heap.size (.slice (some ⟨w.heap.size, 0, none⟩) 2 2) [x, f] := by
    have := StrsR.new w [x, f] (by simp)
    rw [hW1]
    exact this
  have hx1 : Ext w W1 := by rw [hW1]; exact (Ext.refl _).alloc _
  have HX1 := hid (hX.trans hx1)
  have HR1 := hid (hR.ext hx1)
  have HF := hid (progform_any _ [x, f] W1 _ ad (hE.ext HX1.out).at1 hS (by simp [hx, hf]))
  have HE := hid hE
  have HW1 := hid hW1
  have Hfew := hid hfew.s
  have Hz := hid hx
  clear hW1 hS hx1 hR hX hE hfew hx hf
  rcases formE_of (l := [x, f]) with ⟨hfo, hb⟩ | ⟨hfo, hb⟩
  · rw [hfo, errv_no rfl] at HF
    have hnx := anyBad_ok hb x (by simp)
    have Hb := hid hb
    clear hfo hb
    go_enter Tryd.func60, Tryd.ntmps60
    go_wp2_with fail
    rw [← HW1.out]
    refine HF.out.mono ?_
    rintro e w2 ⟨rfl, hx2⟩
    have HX2 := hid (HX1.out.trans hx2)
    have HR2 := hid (HR1.out.ext hx2)
    have HV := hid (rdrvariable_any x Hz.out w2 _ b vv fv sv P fs ss pt ad (HE.out.ext HX2.out) HR2.out)
    clear HF hx2 HX1 HR1
    go_wp2_with fail
    refine HV.out.mono ?_
    rintro e w3 ⟨i, c, rfl, hv, hx3⟩
    have HX3 := hid (HX2.out.trans hx3)
    have HR3 := hid (HR2.out.ext hx3)
    unfold PP.varR at hv
    rw [hnx, if_pos rfl] at hv
    clear HV hx3 HX2 HR2 hnx
    by_cases h0 : ixB P.vars x < 0
    · rw [if_pos h0] at hv
      obtain ⟨rfl, rfl⟩ : (0 : Int) = i ∧ 6 = c := by simpa using hv
      have HT := hid (show P.namedR x f = (P, 6) by unfold PP.namedR; rw [Hb.out, if_neg (by decide), if_pos h0])
      rw [errv_yes (by decide)]
      clear hv h0
      go_wp2
      go_ret
      rw [HT.out]
      exact ⟨by rw [errv_p (by decide)]; rfl, RdO.no HX3.out (by decide)⟩
    · rw [if_neg h0] at hv
      obtain ⟨hi, rfl⟩ : ixB P.vars x = i ∧ 0 = c := by simpa using hv
      obtain ⟨va, vc, rfl⟩ := row_form HR3.out.vars
      obtain ⟨fa, fc, hfv⟩ := row_form HR3.out.funs
      rw [HR3.out.fl] at hfv
      subst hfv
      obtain ⟨sa, sc, rfl⟩ := row_form HR3.out.stmts
      have hsl := HR3.out.sl
      have Hsl : Hid (ss.length ≤ 1000000) := hid (by have := Hfew.out; omega)
      have g0 := HR3.out.blk.av 0 rfl
      have g1 := HR3.out.blk.av 1 rfl
      have g2 := HR3.out.blk.av 2 rfl
      simp only [qA0, qA1, qA2] at g0 g1 g2
      have HN := hid (pfunnames_any va fa sa vc fc sc P w3 _ HR3.out.funs_at hff)
      unfold pval at HN
      rw [← hsl] at HN
      rw [errv_no rfl]
      have Hi := hid hi
      have H0 := hid h0
      clear hv hsl hff hi h0
      go_wp2_with fail
      refine HN.out.mono ?_
      rintro e w4 ⟨u, rfl, hn, hx4⟩
      have HX4 := hid (HX3.out.trans hx4)
      have HR4 := hid (HR3.out.ext hx4)
      have HI := hid (indexs_at u (P.funs.map PF.name) f w4 w4.heap.size (StrsR.own (by simpa using hn) (Nat.le_refl _)))
      obtain ⟨ua, uc, rfl⟩ := row_form hn
      clear HN hn hx4 HX3 HR3 g0 g1 g2
      obtain ⟨k, hk⟩ : ∃ k, k = ixB (P.funs.map PF.name) f := ⟨_, rfl⟩
      rw [← hk] at HI
      have Hk := hid hk
      clear hk
      go_wp2_with fail
      refine HI.out.mono ?_
      rintro e w5 ⟨rfl, rfl⟩
      clear HI
      by_cases hk0 : k < 0
      · have HT := hid (show P.namedR x f = (P, 6) by unfold PP.namedR; rw [Hb.out, if_neg (by decide), if_neg (Int.not_lt.2 H0.out), ← Hk.out, if_pos hk0])
        have g6 := (HE.out.ext HX4.out).at6
        unfold evOf at g6
        go_wp2
        go_ret
        rw [HT.out]
        exact ⟨by rw [errv_p (by decide)]; rfl, RdO.no HX4.out (by decide)⟩
      · have HT := hid (show P.namedR x f = ({ P with stmts := P.stmts ++ [⟨⟨#[102, 117, 110]⟩, i, k, []⟩] }, 0) by unfold PP.namedR; rw [Hb.out, if_neg (by decide), if_neg (Int.not_lt.2 H0.out), ← Hk.out, if_neg hk0, Hi.out])
        have g2 := HR4.out.blk.av 2 rfl
        simp only [qA0, qA1, qA2] at g2
        have Hn8 : Hid (w0.heap.size ≤ (w4.alloc (.cells #[.string ⟨#[102, 117, 110]⟩, .int .i64 i, .int .i64 k, .slice none 0 0] 39)).heap.size) := hid (HX4.out.alloc _).size
        go_wp2_with (at_builtin; refine wpList_append_el w0.heap.size Hn8.out 24 39 (.agg #[.string ⟨#[]⟩, .int .i64 0, .int .i64 0, .slice none 0 0]) 4 56 Tryd.underlying24 stmt_info rfl (by omega) (by omega) rfl _ _ rfl (.slice sa ss.length sc) ss.length (ss.flatMap S2.cells) rfl (own_ext HR4.out.stmts ((Ext.refl _).alloc _)) w4.heap.size (S2.cells ⟨⟨⟨#[102, 117, 110]⟩, i, k, []⟩, .slice none 0 0⟩) rfl (by simp [S2.cells, Value.oneCell']) rfl (Blk.new _ _ _) Hsl.out ?_; intro v9 w9 ho9 hk9 hl9; obtain ⟨a9, c9, rfl⟩ := row_form ho9; have HO8 := hid (HR4.out.ext ((Ext.refl w4).alloc (.cells #[.string ⟨#[102, 117, 110]⟩, .int .i64 i, .int .i64 k, .slice none 0 0] 39))); have Hk9 := hid hk9; have Ho9 := hid ho9; have hb9 := HO8.out.blk.keep hk9 (fun e => by obtain ⟨c, hc⟩ := own_ty HO8.out.stmts e; exact Blk.ty_ne hc HO8.out.blk (by decide) rfl); have s1 := hb9.av 2 rfl; have t1 := hb9.free 2; clear ho9 hk9 hb9)
        have HF := hid (HO8.out.stmt ⟨⟨⟨#[102, 117, 110]⟩, i, k, []⟩, .slice none 0 0⟩ (IntsT.of_row (IRow.nil 0 _)) Ho9.out Hk9.out rfl)
        have HXF := hid (Rdr.keep_new (i := 2) (x := .slice a9 (ss.length + 1) c9) (HX4.out.alloc (.cells #[.string ⟨#[102, 117, 110]⟩, .int .i64 i, .int .i64 k, .slice none 0 0] 39)) HO8.out.hb (fun q hq => (World.ownsRow.lt HO8.out.stmts q hq).1) Hk9.out)
        go_ret
        rw [HT.out]
        exact ⟨rfl, RdO.yes HF.out HXF.out⟩
  · rw [hfo, errv_yes (by decide)] at HF
    have HT := hid (show P.namedR x f = (P, 1) by unfold PP.namedR; rw [if_pos hb])
    clear hfo hb
    go_enter Tryd.func60, Tryd.ntmps60
    go_wp2_with fail
    rw [← HW1.out]
    refine HF.out.mono ?_
    rintro e w2 ⟨rfl, hx2⟩
    have HX2 := hid (HX1.out.trans hx2)
    have g1 := (HE.out.ext HX2.out).at1
    unfold evOf at g1
    clear HF hx2
    go_wp2
    go_ret
    rw [HT.out]
    exact ⟨by rw [errv_p (by decide)]; rfl, RdO.no HX2.out (by decide)⟩
def PP.calledR (P : PP) (x s : ByteArray) : PP × Nat :=
  if (!(splitP s).2.2.2 || !((splitP s).2.2.1.toList == []) || anyBad (x :: (splitP s).1 :: (splitP s).2.1)) = true then (P, 1)
  else if (P.varsR (x :: (splitP s).1 :: (splitP s).2.1)).2 = 0 then
    ({ P with stmts := P.stmts ++ [⟨⟨#[99, 97, 108, 108]⟩, (P.varsR (x :: (splitP s).1 :: (splitP s).2.1)).1.getD 0 0, (P.varsR (x :: (splitP s).1 :: (splitP s).2.1)).1.getD 1 0, (P.varsR (x :: (splitP s).1 :: (splitP s).2.1)).1.drop 2⟩] }, 0)
  else (P, (P.varsR (x :: (splitP s).1 :: (splitP s).2.1)).2)
theorem own_lit (w : World) (l : List Value) (e : TypeId) (hl : l.length ≤ 1000000) : (w.alloc (.cells l.toArray e)).ownsRow w.heap.size e 1 (.slice (some ⟨w.heap.size, 0, none⟩) l.length l.length) l.length l := by
  have hb := Blk.new w l.toArray e
  unfold Blk at hb
  exact ⟨by simp, .inr ⟨_, _, _, rfl, Nat.le_refl _, hb, Nat.le_refl _, by unfold maxLen; omega, by simp, by simp⟩⟩
theorem IntsT.tail {w : World} {base g n cp : Nat} {l : List Int} (h : IRow base w (.slice (some ⟨g, 0, none⟩) n cp) l) (hn : n = l.length) (hcp : n ≤ cp) (hcm : (cp : Int) ≤ 9223372036854775807) (o : Nat) (k c : Nat) (ho : o = k ∨ n = k) (hc : n - k ≤ c ∧ c ≤ cp) : IntsT w (.slice (some ⟨g, o, none⟩) (n - k) c) (l.drop k) := by
  obtain ⟨cc, hb, _⟩ := own_pos (show w.ownsRow base 3 1 (.slice (some ⟨g, 0, none⟩) n cp) n (icells l) by rw [hn]; rw [hn] at h; exact h)
  refine ⟨⟨some ⟨g, o, none⟩, c, by rw [List.length_drop, hn], by rw [List.length_drop]; omega, by omega, fun _ => ⟨_, rfl⟩, fun y hy h0 => ?_⟩, fun b hb2 => ?_⟩
  · obtain rfl := Option.some.inj hy
    refine ⟨hb.lt, fun i hi s hs => ?_⟩
    rw [List.length_drop] at h0
    have ho : o = k := by omega
    rw [List.getElem?_drop] at hs
    have := own_get (show w.ownsRow base 3 1 (.slice (some ⟨g, 0, none⟩) n cp) n (icells l) by rw [hn]; rw [hn] at h; exact h) (k + i) (u := .int .i64 s) (by unfold icells; rw [List.getElem?_map, hs]; rfl)
    rw [show (⟨g, o, none⟩ : Addr).add i = ⟨g, k + i, none⟩ from by
      subst ho
      by_cases h0 : i = 0
      · subst h0; simp [Addr.add]
      · simp [Addr.add, h0]]
    exact this
  · obtain rfl := Option.some.inj hb2
    exact ⟨cc, _, hb⟩
set_option maxRecDepth 100000 in
set_option maxHeartbeats 6400000 in
theorem rdrcalled_any (x s : ByteArray) (hx : x.size ≤ 100000) (hs : s.size ≤ 100000) (w0 w : World) (b : Nat) (P : PP) (pt : Nat) (ad : Nat → Addr) (hE : ErrM w0 ad) (h : RdA w0 w b P pt) (hfew : P.Few) (hl : (splitP s).2.1.length ≤ 10000) (hz : (splitP s).1.size ≤ 100000 ∧ ∀ q ∈ (splitP s).2.1, q.size ≤ 100000) :
    Calls Tryd.prog 61 #[.pointer (some ⟨b, 0, none⟩), .string x, .string s] w fun e w' => e = .returned (errv (evOf ad) (P.calledR x s).2) ∧ RdO w0 w' b (P.calledR x s) pt := by
  obtain ⟨⟨vv, fv, sv, fs, ss, hR⟩, hX⟩ := h
  have HS := hid (progsplit_any s hs w ad (hE.ext hX))
  obtain ⟨y, l, bh, is, hsp⟩ : ∃ y l bh is, splitP s = (y, l, bh, is) := ⟨_, _, _, _, rfl⟩
  rw [hsp] at HS hl hz
  simp only at HS hl hz
  obtain ⟨A, hA⟩ : ∃ A, A = x :: y :: l := ⟨_, rfl⟩
  have hC : P.calledR x s = if (!is || !(bh.toList == []) || anyBad A) = true then (P, 1) else if (P.varsR A).2 = 0 then ({ P with stmts := P.stmts ++ [⟨⟨#[99, 97, 108, 108]⟩, (P.varsR A).1.getD 0 0, (P.varsR A).1.getD 1 0, (P.varsR A).1.drop 2⟩] }, 0) else (P, (P.varsR A).2) := by
    unfold PP.calledR
    rw [hsp]
    simp only
    rw [← hA]
  have hAl : 2 + l.length = A.length := by rw [hA]; simp; omega
  have hAv : [Value.string x, .string y] ++ l.map .string = A.map .string := by rw [hA]; rfl
  have HAz := hid (show ∀ q ∈ A, q.size ≤ 1000000 by
    rw [hA]
    intro q hq
    simp only [List.mem_cons] at hq
    rcases hq with e | e | e
    · rw [e]; omega
    · rw [e]; omega
    · have := hz.2 q e; omega)
  have HA := hid hA
  have HAf : Hid (2 ≤ A.length ∧ A.length ≤ 10002) := hid (by omega)
  have HC := hid hC
  have HAl := hid hAl
  have HAv := hid hAv
  have HE := hid hE
  have HX := hid hX
  have HR := hid hR
  have Hfew := hid hfew.s
  have hlv : 2 + l.length ≤ 1000000 := by omega
  clear hsp hA hC hAl hAv hz hE hX hR hfew hx hs
  go_enter Tryd.func61, Tryd.ntmps61
  go_wp2_with fail
  refine HS.out.mono ?_
  rintro e w1 ⟨v, rfl, hS1, hx1, _⟩
  have HX1 := hid (HX.out.trans hx1)
  have HR1 := hid (HR.out.ext hx1)
  obtain ⟨la, lc, rfl, _⟩ := id hS1
  obtain ⟨W2, hW2⟩ : ∃ W2, W2 = w1.alloc (.cells #[.string x, .string y] 9) := ⟨_, rfl⟩
  have hx2 : Ext w1 W2 := by rw [hW2]; exact (Ext.refl _).alloc _
  have HL2 : Hid (W2.ownsRow w1.heap.size 9 1 (.slice (some ⟨w1.heap.size, 0, none⟩) 2 2) 2 [.string x, .string y]) := hid (by
    rw [hW2]
    exact own_lit w1 [.string x, .string y] 9 (by simp))
  have Hsrc := hid ((hS1.old (hx2.old _)).src)
  have HW2 := hid hW2
  have Hx2 := hid hx2
  clear HS hS1 hx1 hW2 hx2 HR HX
  cases is with
  | false =>
    have HT := hid (show P.calledR x s = (P, 1) by rw [HC.out]; rfl)
    go_wp2_with (at_builtin; rw [← HW2.out]; refine wpList_append_src w1.heap.size Hx2.out.size 22 9 (.string ⟨#[]⟩) 1 16 Tryd.underlying22 str_info rfl (by omega) (by omega) rfl _ _ rfl (.slice (some ⟨w1.heap.size, 0, none⟩) 2 2) 2 [.string x, .string y] rfl HL2.out la l.length lc (l.map .string) rfl Hsrc.out hlv ?_; intro v3 w3 h1 h2 h4; rw [HAl.out, HAv.out] at h1; obtain ⟨va, vc, rfl⟩ := row_form h1; have hx3 : Ext w1 w3 := Keep.new Hx2.out h2 (fun q hq => by (obtain rfl := Option.some.inj hq; exact Nat.le_refl _)); have HX3 := hid (HX1.out.trans hx3); have HR3 := hid (HR1.out.ext hx3); have HS3 := hid (StrsR.own h1 (Nat.le_refl _)); clear h1 h2 h4 hx3; have g1 := (HE.out.er.ext HX3.out).at1; unfold evOf at g1)
    go_ret
    rw [HT.out]
    exact ⟨by rw [errv_p (by decide)]; rfl, RdO.no HX3.out (by decide)⟩
  | true =>
    cases hb0 : (bh.toList == []) with
    | false =>
      have HT := hid (show P.calledR x s = (P, 1) by rw [HC.out, hb0]; rfl)
      go_wp2_with (at_builtin; rw [← HW2.out]; refine wpList_append_src w1.heap.size Hx2.out.size 22 9 (.string ⟨#[]⟩) 1 16 Tryd.underlying22 str_info rfl (by omega) (by omega) rfl _ _ rfl (.slice (some ⟨w1.heap.size, 0, none⟩) 2 2) 2 [.string x, .string y] rfl HL2.out la l.length lc (l.map .string) rfl Hsrc.out hlv ?_; intro v3 w3 h1 h2 h4; rw [HAl.out, HAv.out] at h1; obtain ⟨va, vc, rfl⟩ := row_form h1; have hx3 : Ext w1 w3 := Keep.new Hx2.out h2 (fun q hq => by (obtain rfl := Option.some.inj hq; exact Nat.le_refl _)); have HX3 := hid (HX1.out.trans hx3); have HR3 := hid (HR1.out.ext hx3); have HS3 := hid (StrsR.own h1 (Nat.le_refl _)); clear h1 h2 h4 hx3; have g1 := (HE.out.er.ext HX3.out).at1; unfold evOf at g1)
      go_ret
      rw [HT.out]
      exact ⟨by rw [errv_p (by decide)]; rfl, RdO.no HX3.out (by decide)⟩
    | true =>
      rcases formE_of (l := A) with ⟨hfo, hbad⟩ | ⟨hfo, hbad⟩
      · have HC2 : Hid (P.calledR x s = if (P.varsR A).2 = 0 then ({ P with stmts := P.stmts ++ [⟨⟨#[99, 97, 108, 108]⟩, (P.varsR A).1.getD 0 0, (P.varsR A).1.getD 1 0, (P.varsR A).1.drop 2⟩] }, 0) else (P, (P.varsR A).2)) := hid (by rw [HC.out, hb0, hbad, if_neg (by decide)])
        have Hfo := hid hfo
        clear HC hfo hbad
        go_wp2_with (at_builtin; rw [← HW2.out]; refine wpList_append_src w1.heap.size Hx2.out.size 22 9 (.string ⟨#[]⟩) 1 16 Tryd.underlying22 str_info rfl (by omega) (by omega) rfl _ _ rfl (.slice (some ⟨w1.heap.size, 0, none⟩) 2 2) 2 [.string x, .string y] rfl HL2.out la l.length lc (l.map .string) rfl Hsrc.out hlv ?_; intro v3 w3 h1 h2 h4; rw [HAl.out, HAv.out] at h1; obtain ⟨va, vc, rfl⟩ := row_form h1; have hx3 : Ext w1 w3 := Keep.new Hx2.out h2 (fun q hq => by (obtain rfl := Option.some.inj hq; exact Nat.le_refl _)); have HX3 := hid (HX1.out.trans hx3); have HR3 := hid (HR1.out.ext hx3); have HS3 := hid (StrsR.own h1 (Nat.le_refl _)); clear h1 h2 h4 hx3; have g1 := (HE.out.er.ext HX3.out).at1; unfold evOf at g1)
        have HF := hid (progform_any (.slice va A.length vc) A w3 _ ad (HE.out.er.ext HX3.out).at1 HS3.out HAz.out)
        rw [Hfo.out, errv_no rfl] at HF
        clear g1
        go_wp2_with fail
        refine HF.out.mono ?_
        rintro e w4 ⟨rfl, hx4⟩
        have HX4 := hid (HX3.out.trans hx4)
        have HR4 := hid (HR3.out.ext hx4)
        have HV := hid (rdrvariables_any (.slice va A.length vc) A w4 _ _ b vv fv sv P fs ss pt ad (HE.out.er.ext HX4.out) HR4.out (HS3.out.old (hx4.old _)) HAz.out (by have := HAf.out; omega))
        clear HF hx4 HX3 HR3 HS3
        go_wp2_with fail
        refine HV.out.mono ?_
        rintro e w5 ⟨u, ks, c, rfl, hks, hr, hx5⟩
        have HX5 := hid (HX4.out.trans hx5)
        have HR5 := hid (HR4.out.ext hx5)
        have Hks := hid hks
        have Hr := hid hr
        clear HV hr hx5 HX4 HR4 hks
        by_cases hc : c = 0
        · subst hc
          have hkk := PP.varsR_ok Hks.out
          obtain ⟨i, j, rs, rfl⟩ : ∃ i j rs, ks = i :: j :: rs := by
            rw [hkk, HA.out]
            exact ⟨_, _, _, rfl⟩
          have HT := hid (show P.calledR x s = ({ P with stmts := P.stmts ++ [⟨⟨#[99, 97, 108, 108]⟩, i, j, rs⟩] }, 0) by rw [HC2.out, Hks.out, if_pos rfl]; rfl)
          have hnl : (i :: j :: rs).length ≤ 10002 := by rw [hkk, List.length_map]; exact HAf.out.2
          obtain ⟨n, hn⟩ : ∃ n, n = (i :: j :: rs).length := ⟨_, rfl⟩
          obtain ⟨g, cp, hg⟩ := own_some Hr.out (by simp)
          rw [← hn] at hg hnl
          subst hg
          have h2 : 2 ≤ n := by rw [hn]; simp
          have hcp := Hr.out.cur
          have hcp1 : n ≤ cp := by have := hcp.2.2.1; omega
          have hcp2 : (cp : Int) ≤ 9223372036854775807 := by
            have h := hcp.2.2.2.1
            unfold maxLen at h
            omega
          have hrow : w5.ownsRow w4.heap.size 3 1 (.slice (some ⟨g, 0, none⟩) n cp) n (icells (i :: j :: rs)) := by
            have := Hr.out
            unfold IRow at this
            rw [← hn] at this
            exact this
          have HIT : Hid (∀ o k c, (o = k ∨ n = k) → (n - k ≤ c ∧ c ≤ cp) → IntsT w5 (.slice (some ⟨g, o, none⟩) (n - k) c) ((i :: j :: rs).drop k)) := hid fun o k c h1 h2 => IntsT.tail Hr.out hn hcp1 hcp2 o k c h1 h2
          obtain ⟨sa, sc, rfl⟩ := row_form HR5.out.stmts
          have hsl := HR5.out.sl
          have Hsl : Hid (ss.length ≤ 1000000) := hid (by have := Hfew.out; omega)
          obtain ⟨gc, hgb, _⟩ := own_pos hrow
          have hn1 : ¬ (Value.slice sa ss.length sc).ownBlock = some g := fun e => by
            obtain ⟨d, hd⟩ := own_ty HR5.out.stmts e
            exact Blk.ty_ne hd hgb (by decide) rfl
          have hn2 : ¬ (Value.slice sa ss.length sc).ownBlock = some b := fun e => by
            obtain ⟨d, hd⟩ := own_ty HR5.out.stmts e
            exact Blk.ty_ne hd HR5.out.blk (by decide) rfl
          have c0 : ∀ w', Keep (fun q => (Value.slice sa ss.length sc).ownBlock = some q) w5 w' → w'.cell? ⟨g, 0, none⟩ = some (.int .i64 i) := fun w' k => k.cellx (own_get hrow 0 rfl) hn1
          have c1 : ∀ w', Keep (fun q => (Value.slice sa ss.length sc).ownBlock = some q) w5 w' → w'.cell? ⟨g, 1, none⟩ = some (.int .i64 j) := fun w' k => k.cellx (own_get hrow 1 rfl) hn1
          have g2 := HR5.out.blk.kc (X := fun q => (Value.slice sa ss.length sc).ownBlock = some q) hn2 2 rfl
          simp only [qA0, qA1, qA2] at g2
          have Hn2 := hid hn2
          clear hkk hgb hn1 hn2 hsl hcp hnl hrow hn Hr
          rw [errv_no rfl]
          by_cases h22 : cp = 2
          · subst h22
            obtain rfl : n = 2 := by omega
            have HI := hid (HIT.out 0 2 0 (.inr rfl) ⟨by omega, by omega⟩)
            simp only [List.drop_succ_cons, List.drop_zero, Nat.sub_self] at HI
            go_wp2
            refine wp_flowT (fun q => (Value.slice sa ss.length sc).ownBlock = some q) (by kernel_rfl) (by kernel_rfl) ?_
            repeat (apply FlowT.d; (intro w1 hk; unfold does; go_simp; (try go_ints); (first | exact DetR.mk | (simp only [↓IntWalk.iteOmega, Oper.doesUpon_value]; exact DetR.mk) | (simp only [↓IntWalk.iteOmega]; go_simp; (try go_ints); exact DetR.mk))); simp only [Act.put, qS0, qS1, qS2])
            refine FlowT.s (fun v' w' => ∃ d, v' = .slice (some ⟨d, 0, none⟩) 1 1 ∧ Blk w' d (S2.cells ⟨⟨⟨#[99, 97, 108, 108]⟩, i, j, rs⟩, .slice (some ⟨g, 0, none⟩) 0 0⟩).toArray 39 ∧ Ext w5 w') 15 rfl (by kernel_rfl) (fun _ _ _ ⟨d, h1, h2, h3⟩ he => ⟨d, h1, h2.ext he, h3.trans he⟩) (fun w6 hC hk => ?_) (fun v2 hv2 => ?_)
            · unfold does
              go_simp
              exact ⟨hk.alloc _, _, rfl, Blk.new _ _ _, hC.alloc _⟩
            obtain ⟨_, d, rfl, _, _⟩ := hv2
            simp only [Act.put, qS0, qS1, qS2]
            refine FlowT.s (fun v' w' => w'.ownsRow w0.heap.size 39 4 v' (ss.length + 1) (ss.flatMap S2.cells ++ S2.cells ⟨⟨⟨#[99, 97, 108, 108]⟩, i, j, rs⟩, .slice (some ⟨g, 0, none⟩) 0 0⟩)) 16 rfl (by kernel_rfl) (fun _ _ _ h he => own_ext h he) (fun w6 hC hk => ?_) (fun v3 hv3 => ?_)
            · obtain ⟨d', hd', hblk, hx⟩ := hC
              obtain rfl : d = d' := by simpa using hd'
              refine does_append_el w0.heap.size (Nat.le_trans HX5.out.size hx.size) 24 39 (.agg #[.string ⟨#[]⟩, .int .i64 0, .int .i64 0, .slice none 0 0]) 4 56 Tryd.underlying24 stmt_info rfl (by omega) (by omega) rfl _ _ rfl (.slice sa ss.length sc) ss.length (ss.flatMap S2.cells) rfl (own_ext HR5.out.stmts hx) d (S2.cells ⟨⟨⟨#[99, 97, 108, 108]⟩, i, j, rs⟩, .slice (some ⟨g, 0, none⟩) 0 0⟩) rfl (by simp [S2.cells, Value.oneCell']) rfl hblk Hsl.out (fun v' w' h1 h2 h4 => ?_)
              exact ⟨(hx.keep _).trans h2, h1⟩
            obtain ⟨a5, c5, rfl⟩ : ∃ a5 c5, v3 = .slice a5 (ss.length + 1) c5 := by
              obtain ⟨_, h1⟩ := hv3
              exact row_form h1
            clear hv3
            simp only [Act.put, qS0, qS1, qS2]
            apply FlowT.l 17 rfl
            · intro w1; unfold does; go_simp; exact DetR.mk
            simp only [Act.put, qS0, qS1, qS2]
            repeat (apply FlowT.d; (intro w1 hk; unfold does; go_simp; (try go_ints); (first | exact DetR.mk | (simp only [↓IntWalk.iteOmega, Oper.doesUpon_value]; exact DetR.mk) | (simp only [↓IntWalk.iteOmega]; go_simp; (try go_ints); exact DetR.mk))); simp only [Act.put, qS0, qS1, qS2])
            refine FlowT.t (fun q => (Value.slice sa ss.length sc).ownBlock = some q ∨ q = b) (fun _ w' => Rdr w' w0.heap.size b vv fv (.slice a5 (ss.length + 1) c5) { P with stmts := P.stmts ++ [⟨⟨#[99, 97, 108, 108]⟩, i, j, rs⟩] } fs (ss ++ [⟨⟨⟨#[99, 97, 108, 108]⟩, i, j, rs⟩, .slice (some ⟨g, 0, none⟩) 0 0⟩]) pt ∧ Ext w0 w') 20 rfl (by kernel_rfl) (by kernel_rfl) (fun _ _ _ h y => ⟨h.1.ext y, h.2.trans y⟩) (fun w6 hC hk => ?_) ?_
            · have q3 := g2 w6 hk
              have f3 := (HR5.out.blk.keep hk Hn2.out).free 2
              have HF := HR5.out.stmt ⟨⟨⟨#[99, 97, 108, 108]⟩, i, j, rs⟩, .slice (some ⟨g, 0, none⟩) 0 0⟩ HI.out hC hk rfl
              have HXF := Rdr.keep_new (i := 2) (x := .slice a5 (ss.length + 1) c5) HX5.out HR5.out.hb (fun q hq => (World.ownsRow.lt HR5.out.stmts q hq).1) hk
              have hk2 := (hk.mono (Y := fun q => (Value.slice sa ss.length sc).ownBlock = some q ∨ q = b) fun _ _ h => .inl h).set (p := ⟨b, 2, none⟩) (.inr rfl) (.slice a5 (ss.length + 1) c5)
              unfold does
              go_simp
              exact ⟨hk2, HF, HXF⟩
            rintro v _
            simp only [Act.put]
            refine FlowT.fin fun w7 hR _ => ?_
            have HF := hid hR
            clear c0 c1 g2 hR
            go_wp2
            go_ret
            rw [HT.out]
            exact ⟨rfl, RdO.yes HF.out.1 HF.out.2⟩
          · have h3 : 2 < cp := by omega
            have HI := hid (HIT.out 2 2 (cp - 2) (.inl rfl) ⟨by omega, by omega⟩)
            simp only [List.drop_succ_cons, List.drop_zero] at HI
            go_wp2
            refine wp_flowT (fun q => (Value.slice sa ss.length sc).ownBlock = some q) (by kernel_rfl) (by kernel_rfl) ?_
            repeat (apply FlowT.d; (intro w1 hk; unfold does; go_simp; (try go_ints); (first | exact DetR.mk | (simp only [↓IntWalk.iteOmega, Oper.doesUpon_value]; exact DetR.mk) | (simp only [↓IntWalk.iteOmega]; go_simp; (try go_ints); exact DetR.mk))); simp only [Act.put, qS0, qS1, qS2])
            refine FlowT.s (fun v' w' => ∃ d, v' = .slice (some ⟨d, 0, none⟩) 1 1 ∧ Blk w' d (S2.cells ⟨⟨⟨#[99, 97, 108, 108]⟩, i, j, rs⟩, .slice (some ⟨g, 2, none⟩) (n - 2) (cp - 2)⟩).toArray 39 ∧ Ext w5 w') 15 rfl (by kernel_rfl) (fun _ _ _ ⟨d, h1, h2, h3⟩ he => ⟨d, h1, h2.ext he, h3.trans he⟩) (fun w6 hC hk => ?_) (fun v2 hv2 => ?_)
            · unfold does
              go_simp
              exact ⟨hk.alloc _, _, rfl, Blk.new _ _ _, hC.alloc _⟩
            obtain ⟨_, d, rfl, _, _⟩ := hv2
            simp only [Act.put, qS0, qS1, qS2]
            refine FlowT.s (fun v' w' => w'.ownsRow w0.heap.size 39 4 v' (ss.length + 1) (ss.flatMap S2.cells ++ S2.cells ⟨⟨⟨#[99, 97, 108, 108]⟩, i, j, rs⟩, .slice (some ⟨g, 2, none⟩) (n - 2) (cp - 2)⟩)) 16 rfl (by kernel_rfl) (fun _ _ _ h he => own_ext h he) (fun w6 hC hk => ?_) (fun v3 hv3 => ?_)
            · obtain ⟨d', hd', hblk, hx⟩ := hC
              obtain rfl : d = d' := by simpa using hd'
              refine does_append_el w0.heap.size (Nat.le_trans HX5.out.size hx.size) 24 39 (.agg #[.string ⟨#[]⟩, .int .i64 0, .int .i64 0, .slice none 0 0]) 4 56 Tryd.underlying24 stmt_info rfl (by omega) (by omega) rfl _ _ rfl (.slice sa ss.length sc) ss.length (ss.flatMap S2.cells) rfl (own_ext HR5.out.stmts hx) d (S2.cells ⟨⟨⟨#[99, 97, 108, 108]⟩, i, j, rs⟩, .slice (some ⟨g, 2, none⟩) (n - 2) (cp - 2)⟩) rfl (by simp [S2.cells, Value.oneCell']) rfl hblk Hsl.out (fun v' w' h1 h2 h4 => ?_)
              exact ⟨(hx.keep _).trans h2, h1⟩
            obtain ⟨a5, c5, rfl⟩ : ∃ a5 c5, v3 = .slice a5 (ss.length + 1) c5 := by
              obtain ⟨_, h1⟩ := hv3
              exact row_form h1
            clear hv3
            simp only [Act.put, qS0, qS1, qS2]
            apply FlowT.l 17 rfl
            · intro w1; unfold does; go_simp; exact DetR.mk
            simp only [Act.put, qS0, qS1, qS2]
            repeat (apply FlowT.d; (intro w1 hk; unfold does; go_simp; (try go_ints); (first | exact DetR.mk | (simp only [↓IntWalk.iteOmega, Oper.doesUpon_value]; exact DetR.mk) | (simp only [↓IntWalk.iteOmega]; go_simp; (try go_ints); exact DetR.mk))); simp only [Act.put, qS0, qS1, qS2])
            refine FlowT.t (fun q => (Value.slice sa ss.length sc).ownBlock = some q ∨ q = b) (fun _ w' => Rdr w' w0.heap.size b vv fv (.slice a5 (ss.length + 1) c5) { P with stmts := P.stmts ++ [⟨⟨#[99, 97, 108, 108]⟩, i, j, rs⟩] } fs (ss ++ [⟨⟨⟨#[99, 97, 108, 108]⟩, i, j, rs⟩, .slice (some ⟨g, 2, none⟩) (n - 2) (cp - 2)⟩]) pt ∧ Ext w0 w') 20 rfl (by kernel_rfl) (by kernel_rfl) (fun _ _ _ h y => ⟨h.1.ext y, h.2.trans y⟩) (fun w6 hC hk => ?_) ?_
            · have q3 := g2 w6 hk
              have f3 := (HR5.out.blk.keep hk Hn2.out).free 2
              have HF := HR5.out.stmt ⟨⟨⟨#[99, 97, 108, 108]⟩, i, j, rs⟩, .slice (some ⟨g, 2, none⟩) (n - 2) (cp - 2)⟩ HI.out hC hk rfl
              have HXF := Rdr.keep_new (i := 2) (x := .slice a5 (ss.length + 1) c5) HX5.out HR5.out.hb (fun q hq => (World.ownsRow.lt HR5.out.stmts q hq).1) hk
              have hk2 := (hk.mono (Y := fun q => (Value.slice sa ss.length sc).ownBlock = some q ∨ q = b) fun _ _ h => .inl h).set (p := ⟨b, 2, none⟩) (.inr rfl) (.slice a5 (ss.length + 1) c5)
              unfold does
              go_simp
              exact ⟨hk2, HF, HXF⟩
            rintro v _
            simp only [Act.put]
            refine FlowT.fin fun w7 hR _ => ?_
            have HF := hid hR
            clear c0 c1 g2 hR
            go_wp2
            go_ret
            rw [HT.out]
            exact ⟨rfl, RdO.yes HF.out.1 HF.out.2⟩
        · have HT := hid (show P.calledR x s = (P, c) by rw [HC2.out, Hks.out, if_neg hc])
          have HN := hid (RdO.no (b := b) (pt := pt) (P := P) HX5.out hc)
          have Hc := hid hc
          rw [errv_yes hc]
          obtain ⟨ua, uc, rfl⟩ := Hr.out.form
          clear hc
          go_wp2
          go_ret
          rw [HT.out]
          exact ⟨by rw [errv_p Hc.out]; rfl, HN.out⟩
      · have HT := hid (show P.calledR x s = (P, 1) by rw [HC.out, hb0, hbad]; rfl)
        have Hfo := hid hfo
        clear HC hfo hbad
        go_wp2_with (at_builtin; rw [← HW2.out]; refine wpList_append_src w1.heap.size Hx2.out.size 22 9 (.string ⟨#[]⟩) 1 16 Tryd.underlying22 str_info rfl (by omega) (by omega) rfl _ _ rfl (.slice (some ⟨w1.heap.size, 0, none⟩) 2 2) 2 [.string x, .string y] rfl HL2.out la l.length lc (l.map .string) rfl Hsrc.out hlv ?_; intro v3 w3 h1 h2 h4; rw [HAl.out, HAv.out] at h1; obtain ⟨va, vc, rfl⟩ := row_form h1; have hx3 : Ext w1 w3 := Keep.new Hx2.out h2 (fun q hq => by (obtain rfl := Option.some.inj hq; exact Nat.le_refl _)); have HX3 := hid (HX1.out.trans hx3); have HR3 := hid (HR1.out.ext hx3); have HS3 := hid (StrsR.own h1 (Nat.le_refl _)); clear h1 h2 h4 hx3; have g1 := (HE.out.er.ext HX3.out).at1; unfold evOf at g1)
        have HF := hid (progform_any (.slice va A.length vc) A w3 _ ad (HE.out.er.ext HX3.out).at1 HS3.out HAz.out)
        rw [Hfo.out, errv_yes (by decide)] at HF
        clear g1
        go_wp2_with fail
        refine HF.out.mono ?_
        rintro e w4 ⟨rfl, hx4⟩
        have HX4 := hid (HX3.out.trans hx4)
        have g1 := (HE.out.er.ext HX4.out).at1
        unfold evOf at g1
        clear HF hx4
        go_wp2
        go_ret
        rw [HT.out]
        exact ⟨by rw [errv_p (by decide)]; rfl, RdO.no HX4.out (by decide)⟩
end Go.Proofs.YtamblahkckaaaaaDoor
namespace Go.Proofs.YtamblahkckaaaaaDoor
open Go Go.RowKit Go.MapKept
open Go.Maps (Keyed)
section
variable {κ : Type} [DecidableEq κ]
def kget (m : List (κ × Value)) (k : κ) : Option Value := (m.find? fun x => decide (x.1 = k)).map (·.2)
def KMap (P : Program) (kt : TypeId) (enc : κ → Value) (w : World) (b : Nat) (f : κ → Option Value) : Prop :=
  ∃ es clock, ∃ m : List (κ × Value), w.heap[b]? = some (.map es clock) ∧ es.toList.map (fun x => (x.key, x.val)) = m.map (fun x => (enc x.1, x.2)) ∧ (m.map (·.1)).Nodup ∧ (∀ x ∈ m, ∃ l, keyOf P kt (enc x.1) = some l) ∧ ∀ k, kget m k = f k
variable {P : Program} {kt : TypeId} {enc : κ → Value} {w : World} {b : Nat} {f : κ → Option Value}
theorem KMap.keep {X : Nat → Prop} {w' : World} (h : KMap P kt enc w b f) (x : Keep X w w') (hx : ¬ X b) : KMap P kt enc w' b f := by
  obtain ⟨es, c, m, hb, he⟩ := h
  exact ⟨es, c, m, Keep.get x hb hx, he⟩
theorem KMap.ext {w' : World} (h : KMap P kt enc w b f) (x : Ext w w') : KMap P kt enc w' b f := by
  obtain ⟨es, c, m, hb, he⟩ := h
  exact ⟨es, c, m, Ext.get x hb, he⟩
theorem KMap.lt (h : KMap P kt enc w b f) : b < w.heap.size := by
  obtain ⟨es, c, m, hb, he⟩ := h
  exact (Array.getElem?_eq_some_iff.1 hb).1
theorem KMap.ne {g : Nat} (h : KMap P kt enc w b f) {c : Array Value} {e : TypeId} (hb : Blk w g c e) : g ≠ b := by
  rintro rfl
  obtain ⟨es, c, m, h1, _⟩ := h
  have := h1.symm.trans hb
  cases this
theorem KMap.eq {g : κ → Option Value} (h : KMap P kt enc w b f) (e : ∀ k, f k = g k) : KMap P kt enc w b g := by
  obtain ⟨es, c, m, h1, h2, h3, h4, h5⟩ := h
  exact ⟨es, c, m, h1, h2, h3, h4, fun k => (h5 k).trans (e k)⟩
theorem KMap.new (P : Program) (kt : TypeId) (enc : κ → Value) (w : World) : KMap P kt enc (w.alloc (.map #[] 0)) w.heap.size (fun _ => none) := ⟨#[], 0, [], heap_alloc_new w _, rfl, List.nodup_nil, fun _ h => by simp at h, fun _ => rfl⟩
omit [DecidableEq κ] in
theorem KMap.found (K : Keyed P kt) (hinj : ∀ a c : κ, enc a = enc c → a = c) {es : Array MapEntry} {m : List (κ × Value)} (he : es.toList.map (fun x => (x.key, x.val)) = m.map (fun x => (enc x.1, x.2))) (hn : (m.map (·.1)).Nodup) (hk : ∀ x ∈ m, ∃ l, keyOf P kt (enc x.1) = some l)
    {k : κ} {l : Lit} (hl : keyOf P kt (enc k) = some l) : ((Instr.findKey kt (enc k) es.toList).run P w = .ok none w ∧ ∀ x ∈ m, x.1 ≠ k) ∨ ∃ j e v, (Instr.findKey kt (enc k) es.toList).run P w = .ok (some (j, v)) w ∧ m[j]? = some (k, v) ∧ es[j]? = some e ∧ e.key = enc k := by
  have hall : ∀ e ∈ es.toList, ∃ l, keyOf P kt e.key = some l := fun e h => by
    have : (e.key, e.val) ∈ m.map (fun x => (enc x.1, x.2)) := by rw [← he]; exact List.mem_map.2 ⟨e, h, rfl⟩
    obtain ⟨x, hx, h2⟩ := List.mem_map.1 this
    obtain ⟨l, hl⟩ := hk x hx
    exact ⟨l, by rw [← (Prod.mk.inj h2).1]; exact hl⟩
  rcases K.find w hl es.toList hall with ⟨h1, h2⟩ | ⟨j, e, h1, h2, h3⟩
  · refine .inl ⟨h1, fun x hx hxk => ?_⟩
    have : (enc x.1, x.2) ∈ es.toList.map (fun x => (x.key, x.val)) := by rw [he]; exact List.mem_map.2 ⟨x, hx, rfl⟩
    obtain ⟨e, he1, he2⟩ := List.mem_map.1 this
    exact h2 e he1 (by rw [(Prod.mk.inj he2).1, hxk])
  · have h2' : es.toList[j]? = some e := by simpa using h2
    have h4 : (es.toList.map (fun x => (x.key, x.val)))[j]? = some (e.key, e.val) := by rw [List.getElem?_map, h2']; rfl
    rw [he, List.getElem?_map] at h4
    obtain ⟨x, hx⟩ : ∃ x, m[j]? = some x := by
      cases hx : m[j]? with
      | none => rw [hx] at h4; simp at h4
      | some x => exact ⟨x, rfl⟩
    rw [hx] at h4
    obtain ⟨q1, q2⟩ := Prod.mk.inj (Option.some.inj h4)
    refine .inr ⟨j, e, e.val, h1, ?_, by simpa using h2', h3⟩
    rw [hx]
    have : x.1 = k := hinj _ _ (by rw [q1, h3])
    rw [← this, ← q2]
variable {ops : Array Oper} {Q : Exit → Act → World → Prop} {rest : List Oper} {o : Oper} {a : Act}
end
end Go.Proofs.YtamblahkckaaaaaDoor
