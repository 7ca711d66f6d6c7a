
/- The reference's ring: a message comes. -/
import Derived.Test.YtcfopaopcbjkeaaDoorG4
namespace Go.Proofs.YtcfopaopcbjkeaaDoor
set_option linter.unusedSimpArgs false
set_option linter.unusedVariables false
open Go Go.RowKit

/-- append of several that lie at an address, in a sequence. -/
theorem wpList_append_many {ops : Array Oper} {Q : Exit → Act → World → Prop} {rest : List Oper} {o : Oper} {a : Act} {w : World} (base : Nat) (hbase : base ≤ w.heap.size) (t e : TypeId) (z : Value) (bytes : Nat) (ht : Tryd.prog.underlying t = some (.slice e)) (hinf : (Tryd.prog.info? e).map (fun i => (i.zero, i.size, i.bytes)) = some (some z, 1, bytes)) (hz1 : z.cells.size = 1)
    (hb8 : bytes ≤ 8) (hg : o.guard = none) (s x : Operand) (ho : o.op = .call { callee := .builtin .append, args := #[s, x], argTypes := #[t, t] })
    (v : Value) (n : Nat) (xs : List Value) (hs : a.eval s = v) (hown : w.ownsRow base e 1 v n xs) (ad : Addr) (m c : Nat) (news : List Value) (hx : a.eval x = .slice (some ad) m c) (hm : news.length = m) (hnews : ∀ j u, news[j]? = some u → w.cell? (ad.add j) = some u) (hone : ∀ u ∈ news, u.oneCell' = true) (hl : n + m ≤ 1000000)
    (h : ∀ v' w', w'.ownsRow base e 1 v' (n + m) (xs ++ news) → Keep (fun k => v.ownBlock = some k) w w' → wpList Tryd.prog ops Q rest (a.put o.dst v') w') : wpList Tryd.prog ops Q (o :: rest) a w := by
  obtain ⟨ti, hi, hz0, hz, hz2⟩ := info_parts hinf
  obtain ⟨v', w', hr, h2, h3, _, h4⟩ := run_append_own_at (P := Tryd.prog) w base t o.type e ti z 1 bytes ht hi hz0 hz hz2 hz1 (by omega) v n xs hown ad m c news (by simpa using hm) hnews hone (by simp only [maxLen]; omega) (by
      have : (n + m) * bytes ≤ (n + m) * 8 := Nat.mul_le_mul_left _ hb8
      omega) hbase
  refine wpList_plain hg fun K hK => ?_
  unfold Oper.wp
  rw [run_exec_append s x t ho hs hx hr]
  exact hK _ _ (h v' w' h2 (grown_keep h3))

theorem cell_own {w : World} {e : TypeId} {g L cap : Nat} {xs : List Value} (h : w.ownsRow 0 e 1 (.slice (some ⟨g, 0, none⟩) L cap) L xs) : ∀ w1, Ext w w1 → ∀ j u, xs[j]? = some u → w1.cell? ⟨g, j, none⟩ = some u := by
  intro w1 hx j u hu
  rcases h.2 with ⟨h2, _⟩ | ⟨g', cap', cur, h2, _, hg, _, _, _, htake⟩
  · cases h2
  · simp only [Value.slice.injEq, Option.some.injEq, Addr.mk.injEq] at h2
    obtain ⟨⟨rfl, _⟩, _, _⟩ := h2
    have hb : Blk w g cur e := hg
    rw [(hb.ext hx).cell j]
    rw [← htake] at hu
    rw [List.getElem?_take] at hu
    split at hu
    · simpa using hu
    · cases hu
theorem own_form {w : World} {base : Nat} {e : TypeId} {v : Value} {n : Nat} {xs : List Value} (h : w.ownsRow base e 1 v n xs) (hn : 0 < n) : ∃ g cap, v = .slice (some ⟨g, 0, none⟩) n cap ∧ n ≤ cap ∧ cap ≤ 9223372036854775807 := by
  rcases h.2 with ⟨_, h3⟩ | ⟨g, cap, cur, hv, _, _, hnc, hm, _⟩
  · omega
  · exact ⟨g, cap, hv, hnc, hm⟩

theorem Ext.trans_keep_new {X : Nat → Prop} {a b c : World} (h : Ext a b) (k : Keep X b c) (hx : ∀ n, X n → a.heap.size ≤ n) : Ext a c := Keep.new h k hx

set_option maxRecDepth 100000 in
set_option maxHeartbeats 6400000 in
theorem ref_come_yes (s : RS) (m : Nat) (ok : s.Ok m) (hm : m ≤ 1000000) (v : Int) (w : World) (p b1 b2 b3 k1 k2 k3 : Nat) (su : Value) (h : RefAt w p b1 b2 b3 k1 k2 k3 su s) (hv0 : 0 ≤ v) (hv1 : v ≤ 9223372036854775807) (hto : ¬ s.told = true) (hv4 : v % 4 = 1) (hu : 0 < s.un.length) :
    Calls Tryd.prog 27 #[.pointer (some ⟨p, 0, none⟩), .int .i64 v] w (RQ w p b1 b2 b3 k1 k2 k3 su (s.does v)) := by
  have ht : s.told = false := by simpa using hto
  have hs : s.does v = s.come (v / 4).toNat := by
    unfold RS.does
    rw [if_neg (by simp [ht]; omega)]
    simp only [hv4]
    rfl
  rw [hs]
  clear hs
  have c9 := h.hp.av 9 rfl
  rw [ht] at c9
  obtain ⟨q, hq⟩ : ∃ q : Nat, (q : Int) = v / 4 := ⟨(v / 4).toNat, by omega⟩
  have hqt : (v / 4).toNat = q := by omega
  (try rw [hqt])
  have hq9 : (q : Int) ≤ 9223372036854775807 := by omega
  have hv0' : ¬ v < 0 := by omega
  have hq' : v / 4 = (q : Int) := hq.symm
  have hlo := ok.lo
  have hhi := ok.hi
  have hul := ok.ul
  have hla := ok.la
  have hlt : q % s.un.length < s.un.length := Nat.mod_lt _ hu
  have hs : s.come q = { s with un := s.un.eraseIdx (q % s.un.length), ps := s.ps.set (s.un.getD (q % s.un.length) 0) (s.cnt (s.un.getD (q % s.un.length) 0) - 1, true), ac := s.ac.set (s.un.getD (q % s.un.length) 0) true } := by
    unfold RS.come; rw [if_neg (by omega)]
  have Hs := hid hs
  have hfr : (q : Int) % (s.un.length : Int) = ((q % s.un.length : Nat) : Int) := rfl
  obtain ⟨k, hk⟩ : ∃ k, k = q % s.un.length := ⟨_, rfl⟩
  rw [← hk] at hlt Hs hfr
  obtain ⟨to, hto'⟩ : ∃ to, to = s.un.getD k 0 := ⟨_, rfl⟩
  rw [← hto'] at Hs
  have htn : to < s.n := by
    rw [hto', List.getD_eq_getElem?_getD, List.getElem?_eq_getElem hlt]
    exact ok.un _ (List.getElem_mem _)
  have hcb := ok.cb to
  obtain ⟨g, cap, rfl, hLc, hcm⟩ := own_form h.hu hu
  have hcell := cell_own h.hu
  obtain ⟨us, hus⟩ : ∃ us, us = s.un.map fun t : Nat => Value.int .i64 (t : Int) := ⟨_, rfl⟩
  have husl : us.length = s.un.length := by rw [hus]; simp
  have huk : us[k]? = some (.int .i64 (to : Int)) := by rw [hus, hto']; simp [List.getD_eq_getElem?_getD, List.getElem?_eq_getElem hlt]
  have hone : ∀ u ∈ us, u.oneCell' = true := fun u hu => by
    rw [hus] at hu
    obtain ⟨t, _, rfl⟩ := List.mem_map.1 hu
    rfl
  rw [← hus] at hcell
  have ck := hcell w (Ext.refl _) k _ huk
  obtain ⟨L, hL⟩ : ∃ L, L = s.un.length := ⟨_, rfl⟩
  have c4 := h.hp.av 4 rfl
  rw [← hL] at c4 hlt hul husl hLc hfr hu
  have hfr0 : (0 : Int) ≤ (q : Int) % (L : Int) := by omega
  have hfr1 : (q : Int) % (L : Int) < (L : Int) := by omega
  have htm : (q : Int).tmod (L : Int) = (k : Int) := by rw [Int.tmod_eq_emod_of_nonneg (by omega), hfr]
  have Htm := hid htm
  have hL0 : ((L : Int) == 0) = false := by simp; omega
  have Hus := hid hus
  have HL := hid hL
  have Hto := hid hto'
  have Hcell := hid hcell
  have Hone := hid hone
  have Husl := hid husl
  clear ht hq hqt hto hk hto' htm hs hus hL hcell hone husl
  have hk' : (k : Int) < (L : Int) := by omega
  have hk1 : (k : Int) + 1 ≤ (L : Int) := by omega
  have hkc : (k : Int) ≤ (cap : Int) := by omega
  have Hlen1 : Hid ((us.take k).length = k) := hid (by rw [List.length_take, Husl.out]; omega)
  have Hc1 : Hid (∀ j u, (us.take k)[j]? = some u → w.cell? ((⟨g, 0, none⟩ : Addr).add j) = some u) := hid fun j u hu => by
    rw [show (⟨g, 0, none⟩ : Addr).add j = ⟨g, j, none⟩ from by by_cases h0 : j = 0 <;> simp [Addr.add, h0]]
    rw [List.getElem?_take] at hu
    split at hu
    · exact Hcell.out w (Ext.refl _) j u hu
    · cases hu
  have Hone1 : Hid (∀ u ∈ us.take k, u.oneCell' = true) := hid fun u hu => Hone.out u (List.mem_of_mem_take hu)
  have Hone2 : Hid (∀ u ∈ us.drop (k + 1), u.oneCell' = true) := hid fun u hu => Hone.out u (List.mem_of_mem_drop hu)
  have Hlen2 : Hid ((us.drop (k + 1)).length = L - (k + 1)) := hid (by rw [List.length_drop, Husl.out])
  have Hc2 : Hid (∀ w1, Ext w w1 → ∀ j u, (us.drop (k + 1))[j]? = some u → w1.cell? ((⟨g, k + 1, none⟩ : Addr).add j) = some u) := hid fun w1 hx j u hu => by
    rw [show (⟨g, k + 1, none⟩ : Addr).add j = ⟨g, k + 1 + j, none⟩ from by by_cases h0 : j = 0 <;> simp [Addr.add, h0]]
    rw [List.getElem?_drop] at hu
    exact Hcell.out w1 hx _ u hu
  have hpl := h.hp.lt
  by_cases hcap : cap = k + 1
  · obtain rfl : L = k + 1 := by omega
    have HdE : Hid (us.drop (k + 1) = []) := hid (List.drop_eq_nil_of_le (by rw [Husl.out]; exact Nat.le_refl _))
    subst hcap
    simp only [Int.natCast_add, Int.natCast_one] at hfr hfr0 hfr1 hL0 hk' hk1 hkc
    have Htm' : Hid ((q : Int).tmod ((k : Int) + 1) = (k : Int)) := hid Htm.out
    go_enter Tryd.func27, Tryd.ntmps27
    go_wp2_with (first | (at_builtin; refine wpList_append_many w.heap.size (Nat.le_refl _) 58 124 (.agg #[.int .i64 0]) 8 Tryd.underlying58 message_info rfl (by omega) rfl _ _ rfl _ 0 [] rfl (World.ownsRow_nil _ _ _ _) ⟨g, 0, none⟩ k _ (us.take k) rfl Hlen1.out Hc1.out Hone1.out (by omega) ?_; intro v9 w9 ho9 hk9; have hE9 := Keep.new (Ext.refl w) hk9 (fun i hi => by cases hi); rw [List.nil_append, Nat.zero_add] at ho9; have e4 := (h.hp.ext hE9).av 4 rfl; rw [← HL.out] at e4; have hsz9 := hE9.size) | (at_builtin; refine wpList_append_many w.heap.size hsz9 58 124 (.agg #[.int .i64 0]) 8 Tryd.underlying58 message_info rfl (by omega) rfl _ _ rfl v9 k (us.take k) rfl ho9 _ _ _ (us.drop (k + 1)) rfl (by rw [HdE.out]; rfl) (fun j u hu => by rw [HdE.out] at hu; cases hu) Hone2.out (by omega) ?_; intro v10 w10 ho10 hk10; rw [Nat.add_zero] at ho10; obtain ⟨a10, c10, rfl⟩ := slice_of_own ho10; have hE10 := hE9.trans_keep_new hk10 (fun i hi => (own_ne ho9 hi).1); have f10 := h.hp.ext hE10; have g10 := f10.av 4 rfl; rw [← HL.out] at g10; have z10 := f10.free))
    have hp4 := f10.set 4 (.slice a10 k c10)
    simp only [List.setIfInBounds_toArray, List.set_cons_zero, List.set_cons_succ] at hp4
    have hkk : Keep (fun i => i = p ∨ (Value.slice (some ⟨g, 0, none⟩) s.un.length (k + 1)).ownBlock = some i) w (w10.setCell ⟨p, 4, none⟩ (.slice a10 k c10)) :=
      Keep.set (X := fun i => i = p ∨ (Value.slice (some ⟨g, 0, none⟩) s.un.length (k + 1)).ownBlock = some i) (hE10.keep _) (.inl rfl) _
    have hloc : ∀ i, (Value.slice a10 k c10).ownBlock = some i → w.heap.size ≤ i := fun i hi => (own_ne ho10 hi).1
    have hlen : k = (s.un.eraseIdx k).length := by rw [List.length_eraseIdx, ← HL.out, if_pos hlt]; omega
    have hus2 : us.take k ++ us.drop (k + 1) = (s.un.eraseIdx k).map fun t : Nat => Value.int .i64 (t : Int) := by
      rw [Hus.out, List.eraseIdx_eq_take_drop_succ]; simp [List.map_take, List.map_drop]
    have fin := h.setUn hkk (s.un.eraseIdx k) hp4 (by
      have h0 : w10.ownsRow 0 124 1 (.slice a10 k c10) k (us.take k ++ us.drop (k + 1)) := ⟨ho10.1, ho10.2.imp id fun ⟨g', cap', cur, q1, _, q3⟩ => ⟨g', cap', cur, q1, Nat.zero_le _, q3⟩⟩
      have h1 := ownsRow_keep (X := fun i => i = p) h0 (Keep.set (X := fun i => i = p) (Keep.refl _ _) rfl _) (w' := w10.setCell ⟨p, 4, none⟩ (.slice a10 k c10)) fun i hi e => by
        have := hloc i hi
        omega
      rw [hus2] at h1
      rw [← hlen]
      exact h1) fun i hi => .inr (hloc i hi)
    have hkf : Keep (fq p b1 b2 b3 (Value.slice (some ⟨g, 0, none⟩) s.un.length (k + 1))) w (w10.setCell ⟨p, 4, none⟩ (.slice a10 k c10)) := hkk.mono fun i _ hi => hi.elim .inl fun h => .inr (.inr (.inr (.inr h)))
    have Hloc := hid hloc
    clear hp4 hkk hlen hus2 f10 g10 z10 ho10 hE10 hk10 e4 ho9 hk9 hE9 hsz9 Hc1 Hc2 Hlen1 Hlen2 Hone1 Hone2 c4 c9 ck Hcell Hone h hloc
    generalize w10.setCell ⟨p, 4, none⟩ (.slice a10 k c10) = W1 at *
    generalize Value.slice a10 k c10 = su1 at *
    obtain ⟨c, hcd⟩ : ∃ c, c = s.cnt to := ⟨_, rfl⟩
    have hr1 := map_cnt { s with un := s.un.eraseIdx k } (i := to) htn
    rw [show ({ s with un := s.un.eraseIdx k } : RS).cnt to = c from hcd.symm] at hr1
    rw [← hcd] at hcb
    have q1 := fin.hp.kc (X := fun _ => False) (fun e => e) 1 rfl
    have r1 : ∀ w1, Keep (fun _ => False) W1 w1 → w1.cell? ⟨b1, to, none⟩ = some (.int .i64 c) := fun w1 hk => (fin.h1.keep hk (fun e => e)).cell to hr1
    have Hcd := hid hcd
    have htn' : (to : Int) < (s.n : Int) := by omega
    have hnn : ({ s with un := s.un.eraseIdx k } : RS).n = s.n := rfl
    clear hcd hr1
    refine wp_flowT (fun _ => False) (by kernel_rfl) (by kernel_rfl) ?_
    repeat (apply FlowT.d; (intro w1 hk; unfold does; go_simp; (try go_ints); (first | exact DetR.mk | (simp only [↓IntWalk.iteOmega, Oper.doesUpon_value]; exact DetR.mk) | (simp only [↓IntWalk.iteOmega]; go_simp; (try go_ints); exact DetR.mk))); simp only [Act.put, List.setIfInBounds_toArray, List.set_cons_zero, List.set_cons_succ])
    refine FlowT.last (fun _ w' => ∃ w1, Ext W1 w1 ∧ w' = w1.setCell ⟨b1, to, none⟩ (.int .i64 (c - 1))) 14 rfl (by kernel_rfl) (by kernel_rfl) (fun w1 hC hk => ?_) (fun _ W2 hR => ?_)
    · have z1 := r1 w1 hk
      have f1 := (fin.h1.ext hC).free to
      unfold does
      go_simp
      exact ⟨w1, hC, rfl⟩
    obtain ⟨w1, hx1, rfl⟩ := hR
    simp only [Act.put]
    obtain ⟨S, hS⟩ : ∃ S : RS, S = { s with un := s.un.eraseIdx k, ps := s.ps.set to (c - 1, s.blk to) } := ⟨_, rfl⟩
    have hA : RefAt (w1.setCell ⟨b1, to, none⟩ (.int .i64 (c - 1))) p b1 b2 b3 k1 k2 k3 su1 S := by rw [hS]; exact (fin.ext hx1).setCnt to htn (c - 1)
    have hkA : Keep (fq p b1 b2 b3 (Value.slice (some ⟨g, 0, none⟩) s.un.length (k + 1))) w (w1.setCell ⟨b1, to, none⟩ (.int .i64 (c - 1))) := Keep.set (hkf.ext_r hx1) (.inr (.inl rfl)) _
    clear q1 r1 hx1 hkf fin
    generalize w1.setCell ⟨b1, to, none⟩ (.int .i64 (c - 1)) = W2 at *
    have hnA : S.n = s.n := by rw [hS]; simp [RS.n]
    have hlS : S.ac.length = s.n := by rw [hS]; exact hla
    have hcS : S.cnt to = c - 1 := by
      have : to < s.ps.length := htn
      rw [hS]; simp [RS.cnt, this]
    have hfS : ({ S with ps := S.ps.set to (S.cnt to, true), ac := S.ac.set to true } : RS) = s.come q := by
      rw [Hs.out, hcS, hS, Hcd.out]
      simp
    have HfS := hid hfS
    have hB := hA.setBlk to (by rw [hnA]; exact htn) true
    have hC := hB.setAct to (by simp only; rw [hlS]; exact htn) true
    have hC' : RefAt ((W2.setCell ⟨b2, to, none⟩ (.bool true)).setCell ⟨b3, to, none⟩ (.bool true)) p b1 b2 b3 k1 k2 k3 su1 (s.come q) := by rw [← hfS]; exact hC
    have hkC : Keep (fq p b1 b2 b3 (Value.slice (some ⟨g, 0, none⟩) s.un.length (k + 1))) w ((W2.setCell ⟨b2, to, none⟩ (.bool true)).setCell ⟨b3, to, none⟩ (.bool true)) := Keep.set (Keep.set hkA (.inr (.inr (.inl rfl))) _) (.inr (.inr (.inr (.inl rfl)))) _
    obtain ⟨n1, n2, n3, n4, n5, n6⟩ := hA.d
    have c2 := hA.hp.av 2 rfl
    have c3 := hA.hp.av 3 rfl
    simp only [List.getElem_toArray, List.getElem_cons_zero, List.getElem_cons_succ, hnA] at c2 c3
    have x2 := hA.h2.cell to (map_blk _ (by rw [hnA]; exact htn))
    have x3 := hA.h3.cell to (map_act _ (by rw [hlS]; exact htn))
    have z2 := hA.h2.free
    have z3 := hA.h3.free
    have HC := hid hC'
    have HkC := hid hkC
    have m1 : ¬ b2 = p := fun e => n2 e.symm
    have m2 : ¬ b3 = p := fun e => n3 e.symm
    have m3 : ¬ b3 = b2 := fun e => n6 e.symm
    clear hA hB hC hC' hkC hkA hfS hcS hS hlS hnA
    generalize hx2 : RS.blk _ to = y2 at x2
    generalize hx3 : RS.act _ to = y3 at x3
    clear hx2 hx3
    go_wp2
    go_end0
    exact ⟨rfl, su1, HC.out, HkC.out, fun i hi => .inr (Hloc.out i hi)⟩
  · go_enter Tryd.func27, Tryd.ntmps27
    go_wp2_with (first | (at_builtin; refine wpList_append_many w.heap.size (Nat.le_refl _) 58 124 (.agg #[.int .i64 0]) 8 Tryd.underlying58 message_info rfl (by omega) rfl _ _ rfl _ 0 [] rfl (World.ownsRow_nil _ _ _ _) ⟨g, 0, none⟩ k _ (us.take k) rfl Hlen1.out Hc1.out Hone1.out (by omega) ?_; intro v9 w9 ho9 hk9; have hE9 := Keep.new (Ext.refl w) hk9 (fun i hi => by cases hi); rw [List.nil_append, Nat.zero_add] at ho9; have e4 := (h.hp.ext hE9).av 4 rfl; rw [← HL.out] at e4; have hsz9 := hE9.size) | (at_builtin; refine wpList_append_many w.heap.size hsz9 58 124 (.agg #[.int .i64 0]) 8 Tryd.underlying58 message_info rfl (by omega) rfl _ _ rfl v9 k (us.take k) rfl ho9 _ _ _ (us.drop (k + 1)) rfl Hlen2.out (Hc2.out w9 hE9) Hone2.out (by omega) ?_; intro v10 w10 ho10 hk10; skip; obtain ⟨a10, c10, rfl⟩ := slice_of_own ho10; have hE10 := hE9.trans_keep_new hk10 (fun i hi => (own_ne ho9 hi).1); have f10 := h.hp.ext hE10; have g10 := f10.av 4 rfl; rw [← HL.out] at g10; have z10 := f10.free))
    have hp4 := f10.set 4 (.slice a10 (k + (L - (k + 1))) c10)
    simp only [List.setIfInBounds_toArray, List.set_cons_zero, List.set_cons_succ] at hp4
    have hkk : Keep (fun i => i = p ∨ (Value.slice (some ⟨g, 0, none⟩) s.un.length cap).ownBlock = some i) w (w10.setCell ⟨p, 4, none⟩ (.slice a10 (k + (L - (k + 1))) c10)) :=
      Keep.set (X := fun i => i = p ∨ (Value.slice (some ⟨g, 0, none⟩) s.un.length cap).ownBlock = some i) (hE10.keep _) (.inl rfl) _
    have hloc : ∀ i, (Value.slice a10 (k + (L - (k + 1))) c10).ownBlock = some i → w.heap.size ≤ i := fun i hi => (own_ne ho10 hi).1
    have hlen : (k + (L - (k + 1))) = (s.un.eraseIdx k).length := by rw [List.length_eraseIdx, ← HL.out, if_pos hlt]; omega
    have hus2 : us.take k ++ us.drop (k + 1) = (s.un.eraseIdx k).map fun t : Nat => Value.int .i64 (t : Int) := by
      rw [Hus.out, List.eraseIdx_eq_take_drop_succ]; simp [List.map_take, List.map_drop]
    have fin := h.setUn hkk (s.un.eraseIdx k) hp4 (by
      have h0 : w10.ownsRow 0 124 1 (.slice a10 (k + (L - (k + 1))) c10) (k + (L - (k + 1))) (us.take k ++ us.drop (k + 1)) := ⟨ho10.1, ho10.2.imp id fun ⟨g', cap', cur, q1, _, q3⟩ => ⟨g', cap', cur, q1, Nat.zero_le _, q3⟩⟩
      have h1 := ownsRow_keep (X := fun i => i = p) h0 (Keep.set (X := fun i => i = p) (Keep.refl _ _) rfl _) (w' := w10.setCell ⟨p, 4, none⟩ (.slice a10 (k + (L - (k + 1))) c10)) fun i hi e => by
        have := hloc i hi
        omega
      rw [hus2] at h1
      rw [← hlen]
      exact h1) fun i hi => .inr (hloc i hi)
    have hkf : Keep (fq p b1 b2 b3 (Value.slice (some ⟨g, 0, none⟩) s.un.length cap)) w (w10.setCell ⟨p, 4, none⟩ (.slice a10 (k + (L - (k + 1))) c10)) := hkk.mono fun i _ hi => hi.elim .inl fun h => .inr (.inr (.inr (.inr h)))
    have Hloc := hid hloc
    clear hp4 hkk hlen hus2 f10 g10 z10 ho10 hE10 hk10 e4 ho9 hk9 hE9 hsz9 Hc1 Hc2 Hlen1 Hlen2 Hone1 Hone2 c4 c9 ck Hcell Hone h hloc
    generalize w10.setCell ⟨p, 4, none⟩ (.slice a10 (k + (L - (k + 1))) c10) = W1 at *
    generalize Value.slice a10 (k + (L - (k + 1))) c10 = su1 at *
    obtain ⟨c, hcd⟩ : ∃ c, c = s.cnt to := ⟨_, rfl⟩
    have hr1 := map_cnt { s with un := s.un.eraseIdx k } (i := to) htn
    rw [show ({ s with un := s.un.eraseIdx k } : RS).cnt to = c from hcd.symm] at hr1
    rw [← hcd] at hcb
    have q1 := fin.hp.kc (X := fun _ => False) (fun e => e) 1 rfl
    have r1 : ∀ w1, Keep (fun _ => False) W1 w1 → w1.cell? ⟨b1, to, none⟩ = some (.int .i64 c) := fun w1 hk => (fin.h1.keep hk (fun e => e)).cell to hr1
    have Hcd := hid hcd
    have htn' : (to : Int) < (s.n : Int) := by omega
    have hnn : ({ s with un := s.un.eraseIdx k } : RS).n = s.n := rfl
    clear hcd hr1
    refine wp_flowT (fun _ => False) (by kernel_rfl) (by kernel_rfl) ?_
    repeat (apply FlowT.d; (intro w1 hk; unfold does; go_simp; (try go_ints); (first | exact DetR.mk | (simp only [↓IntWalk.iteOmega, Oper.doesUpon_value]; exact DetR.mk) | (simp only [↓IntWalk.iteOmega]; go_simp; (try go_ints); exact DetR.mk))); simp only [Act.put, List.setIfInBounds_toArray, List.set_cons_zero, List.set_cons_succ])
    refine FlowT.last (fun _ w' => ∃ w1, Ext W1 w1 ∧ w' = w1.setCell ⟨b1, to, none⟩ (.int .i64 (c - 1))) 14 rfl (by kernel_rfl) (by kernel_rfl) (fun w1 hC hk => ?_) (fun _ W2 hR => ?_)
    · have z1 := r1 w1 hk
      have f1 := (fin.h1.ext hC).free to
      unfold does
      go_simp
      exact ⟨w1, hC, rfl⟩
    obtain ⟨w1, hx1, rfl⟩ := hR
    simp only [Act.put]
    obtain ⟨S, hS⟩ : ∃ S : RS, S = { s with un := s.un.eraseIdx k, ps := s.ps.set to (c - 1, s.blk to) } := ⟨_, rfl⟩
    have hA : RefAt (w1.setCell ⟨b1, to, none⟩ (.int .i64 (c - 1))) p b1 b2 b3 k1 k2 k3 su1 S := by rw [hS]; exact (fin.ext hx1).setCnt to htn (c - 1)
    have hkA : Keep (fq p b1 b2 b3 (Value.slice (some ⟨g, 0, none⟩) s.un.length cap)) w (w1.setCell ⟨b1, to, none⟩ (.int .i64 (c - 1))) := Keep.set (hkf.ext_r hx1) (.inr (.inl rfl)) _
    clear q1 r1 hx1 hkf fin
    generalize w1.setCell ⟨b1, to, none⟩ (.int .i64 (c - 1)) = W2 at *
    have hnA : S.n = s.n := by rw [hS]; simp [RS.n]
    have hlS : S.ac.length = s.n := by rw [hS]; exact hla
    have hcS : S.cnt to = c - 1 := by
      have : to < s.ps.length := htn
      rw [hS]; simp [RS.cnt, this]
    have hfS : ({ S with ps := S.ps.set to (S.cnt to, true), ac := S.ac.set to true } : RS) = s.come q := by
      rw [Hs.out, hcS, hS, Hcd.out]
      simp
    have HfS := hid hfS
    have hB := hA.setBlk to (by rw [hnA]; exact htn) true
    have hC := hB.setAct to (by simp only; rw [hlS]; exact htn) true
    have hC' : RefAt ((W2.setCell ⟨b2, to, none⟩ (.bool true)).setCell ⟨b3, to, none⟩ (.bool true)) p b1 b2 b3 k1 k2 k3 su1 (s.come q) := by rw [← hfS]; exact hC
    have hkC : Keep (fq p b1 b2 b3 (Value.slice (some ⟨g, 0, none⟩) s.un.length cap)) w ((W2.setCell ⟨b2, to, none⟩ (.bool true)).setCell ⟨b3, to, none⟩ (.bool true)) := Keep.set (Keep.set hkA (.inr (.inr (.inl rfl))) _) (.inr (.inr (.inr (.inl rfl)))) _
    obtain ⟨n1, n2, n3, n4, n5, n6⟩ := hA.d
    have c2 := hA.hp.av 2 rfl
    have c3 := hA.hp.av 3 rfl
    simp only [List.getElem_toArray, List.getElem_cons_zero, List.getElem_cons_succ, hnA] at c2 c3
    have x2 := hA.h2.cell to (map_blk _ (by rw [hnA]; exact htn))
    have x3 := hA.h3.cell to (map_act _ (by rw [hlS]; exact htn))
    have z2 := hA.h2.free
    have z3 := hA.h3.free
    have HC := hid hC'
    have HkC := hid hkC
    have m1 : ¬ b2 = p := fun e => n2 e.symm
    have m2 : ¬ b3 = p := fun e => n3 e.symm
    have m3 : ¬ b3 = b2 := fun e => n6 e.symm
    clear hA hB hC hC' hkC hkA hfS hcS hS hlS hnA
    generalize hx2 : RS.blk _ to = y2 at x2
    generalize hx3 : RS.act _ to = y3 at x3
    clear hx2 hx3
    go_wp2
    go_end0
    exact ⟨rfl, su1, HC.out, HkC.out, fun i hi => .inr (Hloc.out i hi)⟩
end Go.Proofs.YtcfopaopcbjkeaaDoor
