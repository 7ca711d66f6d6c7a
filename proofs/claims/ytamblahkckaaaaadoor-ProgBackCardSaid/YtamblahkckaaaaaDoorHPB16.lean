/- Texts of one proof, put together: ZZ3 ZZ4 ZZZZA ZZZZB ZZZZC WG. -/
import Derived.Test.YtamblahkckaaaaaDoorHPB01
import Derived.Test.YtamblahkckaaaaaDoorHPB07
import Derived.Test.YtamblahkckaaaaaDoorHPB08
import Derived.Test.YtamblahkckaaaaaDoorHPB13
import Derived.Test.YtamblahkckaaaaaDoorHPB15
set_option linter.unusedSimpArgs false
set_option linter.unusedVariables false
namespace Go.Proofs.YtamblahkckaaaaaDoor
open Go Go.RowKit
theorem Core.push {P : PP} {S : List (List Int)} {s : SV} (h : Core P S s) {r : RV} (n1 : r.kind.toList ≠ bBase.toList) (n2 : r.kind.toList ≠ kCopy) : Core P S { s with rules := s.rules ++ [r] } :=
  ⟨h.len, h.row, h.wait, h.bit, h.edge, h.along, fun q hq hk => by
      rcases List.mem_append.1 hq with hq | hq
      · exact h.base q hq hk
      · obtain rfl := List.mem_singleton.1 hq
        exact absurd hk n1, fun q hq hk => by
      rcases List.mem_append.1 hq with hq | hq
      · exact h.copy q hq hk
      · obtain rfl := List.mem_singleton.1 hq
        exact absurd hk n2⟩
theorem bnd_push {P : PP} {s : SV} (b : s.Bnd P) (r : RV) (h : s.rules.length < 80) : SV.Bnd P { s with rules := s.rules ++ [r] } := by
  have h1 := b.le
  refine ⟨b.nd, by simp only [List.length_append, List.length_singleton]; omega, ?_⟩
  have e : SV.tot P { s with rules := s.rules ++ [r] } = s.tot P := tot_has rfl
  rw [e]
  simp only [List.length_append, List.length_singleton]
  omega
theorem bnd_fires {P : PP} {S : List (List Int)} (hg : P.GoodS S) (hc : ClosedP P S) {r : RV} (hr : r ∈ P.rulesV) (hf : r.fired = true) : ∀ (l : List Int) {s : SV}, Core P S s → s.Bnd P → (∀ o ∈ l, o ∈ S.getD r.pivot.toNat []) → (l.foldl (fun s o => s.fire P r o) s).Bnd P
  | [], _, _, b, _ => b
  | o :: l, _, h, b, hs => bnd_fires hg hc hr hf l (h.fire hg hc hr hf (hs o List.mem_cons_self)).1 (bnd_fire hg hc h b hr hf (hs o List.mem_cons_self)) fun q hq => hs q (List.mem_cons_of_mem _ hq)
theorem bnd_add {P : PP} {S : List (List Int)} {s : SV} (hg : P.GoodS S) (hc : ClosedP P S) (h : Full P S s) (b : s.Bnd P) {r : RV} (hr : r ∈ P.rulesV) (h80 : s.rules.length < 80) : (s.add P r).Bnd P := by
  unfold SV.add
  cases h1 : (r.kind.toList == bBase.toList) with
  | true =>
    rw [cond_true]
    have h2 := b.le
    refine ⟨b.nd, by simp only [List.length_append, List.length_singleton]; omega, ?_⟩
    have e : SV.tot P { s with rules := s.rules ++ [r], wait := s.wait ++ [(r.a, r.b)] } = s.tot P := tot_has rfl
    rw [e]
    simp only [List.length_append, List.length_singleton]
    omega
  | false =>
  have n1 : r.kind.toList ≠ bBase.toList := fun e => by rw [e] at h1; simp at h1
  rw [cond_false]
  have hb := bnd_push b r h80
  cases h2 : (r.kind.toList == kCopy) with
  | true =>
    rw [cond_true]
    have hm : SV.edge { s with rules := s.rules ++ [r] } (r.a, r.b) = { s.edge (r.a, r.b) with rules := s.rules ++ [r] } := by unfold SV.edge; split <;> rfl
    have := (b.edgeTo h.core (r.a, r.b))
    rw [hm]
    have h5 := bnd_push (s := s.edge (r.a, r.b)) this r (by rw [edge_rules]; exact h80)
    rw [edge_rules] at h5
    exact h5
  | false =>
  have n2 : r.kind.toList ≠ kCopy := fun e => by rw [e] at h2; simp at h2
  have hf : r.fired = true := by
    rcases rule_kinds hg.1 hr with g | g | g
    · exact absurd g n1
    · exact absurd g n2
    · exact g
  rw [cond_false]
  refine bnd_fires hg hc hr hf _ (h.core.push n1 n2) hb fun o ho => ?_
  obtain ⟨h0, hb⟩ := mem_objs.1 ho
  exact h.core.bit (r.pivot, o) hb h0
theorem SolvOk.add {P : PP} {S : List (List Int)} {s : SV} (hg : P.GoodS S) (hc : ClosedP P S) (h : SolvOk P S s) {r : RV} (hr : r ∈ P.rulesV) (h80 : s.rules.length < 80) : SolvOk P S (s.add P r) := ⟨(h.full.added hg hc hr).1, bnd_add hg hc h.full h.bnd hr h80⟩
set_option maxRecDepth 100000 in
set_option maxHeartbeats 800000 in
theorem clonestr_any (v : Value) (l : List ByteArray) (w : World) (n0 : Nat) (h : StrsR w n0 v l) (hl : l.length ≤ 100000) :
    Calls Tryd.prog 56 #[v] w fun e w' => ∃ v', e = .returned v' ∧ Ext w w' ∧ w'.ownsRow w.heap.size 9 1 v' l.length (l.map .string) := by
  obtain ⟨a, cap, rfl, h2, h3, h4, h5⟩ := id h
  have hl2 : 0 + l.length ≤ 1000000 := by omega
  cases a with
  | none =>
    have h0 : l.length = 0 := by
      rcases Nat.eq_zero_or_pos l.length with e | e
      · exact e
      · obtain ⟨x, hx⟩ := h4 e; cases hx
    obtain rfl : l = [] := List.eq_nil_of_length_eq_zero h0
    have he := Lib.run_eql_slice_nil (P := Tryd.prog) w 22 9 none 0 cap 0 0 Tryd.underlying22
    clear h h2 h3 h4 h5 h0
    go_enter Tryd.func56, Tryd.ntmps56
    go_wp2
    go_ret
    exact ⟨_, rfl, Ext.refl _, World.ownsRow_nil _ _ _ _⟩
  | some x =>
    have Hs := hid h.src
    have hnil : (w.alloc (.cells #[] 9)).ownsRow w.heap.size 9 1 (.slice (some ⟨w.heap.size, 0, none⟩) 0 0) 0 [] := World.ownsRow_made w #[] 0 (Nat.le_refl _) (by unfold maxLen; omega) rfl
    have Hnil := hid hnil
    have hb : w.heap.size ≤ (w.alloc (.cells #[] 9)).heap.size := by simp
    have hx1 : Hid (Ext w (w.alloc (.cells #[] 9))) := hid ((Ext.refl _).alloc _)
    have hs1 : Hid (Src (w.alloc (.cells #[] 9)) (some x) l.length 1 (l.map .string)) := hid (StrsR.old h ((hx1.out).old n0)).src
    have he := Lib.run_eql_slice_nil (P := Tryd.prog) w 22 9 (some x) l.length cap 0 0 Tryd.underlying22
    clear h h2 h3 h4 h5 hnil
    go_enter Tryd.func56, Tryd.ntmps56
    go_wp2_with (at_builtin; refine wpList_append_src w.heap.size hb 22 9 (.string ⟨#[]⟩) 1 16 Tryd.underlying22 str_info rfl (by omega) (by omega) rfl _ _ rfl (.slice (some ⟨w.heap.size, 0, none⟩) 0 0) 0 [] rfl Hnil.out (some x) l.length cap (l.map .string) rfl hs1.out hl2 ?_; intro v' w' h1 h2 h4; have h3 := Keep.new hx1.out h2 (fun k hk => by simp [Value.ownBlock] at hk; omega))
    go_ret
    exact ⟨_, rfl, h3, by simpa using h1⟩
def cpB (s p : ByteArray) : ByteArray × Bool := (⟨(Lib.trimPrefix s.data.toList p.data.toList).toArray⟩, Lib.hasPrefix s.data.toList p.data.toList)
theorem cutpre_any (s p : ByteArray) (w : World) : Calls Tryd.prog 40 #[.string s, .string p] w fun e w' => e = .returned (.tuple #[.string (cpB s p).1, .bool (cpB s p).2]) ∧ w' = w := Tryd.strings_CutPrefix s p w
theorem cpB_size (s p : ByteArray) : (cpB s p).1.size ≤ s.size := by
  have e : (cpB s p).1.size = (Lib.trimPrefix s.data.toList p.data.toList).length := rfl
  rw [e, ← bs_list s]
  unfold Lib.trimPrefix
  split
  · rw [List.length_drop]; exact Nat.sub_le _ _
  · exact Nat.le_refl _
theorem StrsR.keep {X : Nat → Prop} {w w' : World} {n0 : Nat} {v : Value} {l : List ByteArray} (h : StrsR w n0 v l) (k : Keep X w w') (hX : ∀ q, v.ownBlock = some q → ¬ X q) : StrsR w' n0 v l := by
  obtain ⟨a, cap, rfl, h2, h3, h4, h5⟩ := h
  refine ⟨a, cap, rfl, h2, h3, h4, fun y hy h0 => ⟨(h5 y hy h0).1, fun i hi s hs => ?_⟩⟩
  subst hy
  exact k.cellx ((h5 y rfl h0).2 i hi s hs) (hX _ (by rw [add_block]; rfl))
theorem wpList_append_elW {ops : Array Oper} {Q : Exit → Act → World → Prop} {rest : List Oper} {o : Oper} {a : Act} {w : World} (base : Nat) (hbase : base ≤ w.heap.size) (t e : TypeId) (z : Value) (size bytes : Nat) (ht : Tryd.prog.underlying t = some (.slice e)) (hinf : (Tryd.prog.info? e).map (fun i => (i.zero, i.size, i.bytes)) = some (some z, size, bytes)) (hz1 : z.cells.size = size) (hsz : 0 < size)
    (hb8 : bytes ≤ 64) (hg : Region.wanted o (yielded ops a.tmps) = true) (s x : Operand) (ho : o.op = .call { callee := .builtin .append, args := #[s, x], argTypes := #[t, t] })
    (v : Value) (n : Nat) (xs : List Value) (hs : a.eval s = v) (hown : w.ownsRow base e size v n xs) (g : Nat) (us : List Value) (hul : us.length = size) (hu : ∀ u ∈ us, u.oneCell' = true) (hx : a.eval x = .slice (some ⟨g, 0, none⟩) 1 1) (hb : Blk w g us.toArray e) (hl : n ≤ 1000000)
    (h : ∀ v' w', w'.ownsRow base e size v' (n + 1) (xs ++ us) → Keep (fun k => v.ownBlock = some k) w w' → (v'.ownBlock = v.ownBlock ∨ v'.ownBlock = some w.heap.size) → wpList Tryd.prog ops Q rest (a.put o.dst v') w') : wpList Tryd.prog ops Q (o :: rest) a w := by
  obtain ⟨ti, hi, hz0, hz, hz2⟩ := info_parts hinf
  obtain ⟨v', w', hr, h2, h3, _, h4⟩ := run_append_own_at (P := Tryd.prog) w base t o.type e ti z size bytes ht hi hz0 hz hz2 hz1 hsz v n xs hown ⟨g, 0, none⟩ 1 1 us (by rw [hul]; omega) (fun j q hq => by
    rw [show (⟨g, 0, none⟩ : Addr).add j = ⟨g, j, none⟩ from by by_cases h0 : j = 0 <;> simp [Addr.add, h0], hb.cell j]
    simpa using hq) hu (by simp only [maxLen]; omega) (by
      have : (n + 1) * bytes ≤ (n + 1) * 64 := Nat.mul_le_mul_left _ hb8
      omega) hbase
  refine wpList_step fun K hK => ?_
  rw [if_pos hg]
  unfold Oper.wp
  rw [run_exec_append s x t ho hs hx hr]
  exact hK _ _ (h v' w' h2 (grown_keep h3) h4)
def PP.funR (P : PP) (pt : Nat) (s : ByteArray) : PP × Nat :=
  if (!(splitP s).2.2.2 || !(cpB (splitP s).2.2.1 ⟨#[32]⟩).2 || !nameOk (splitP s).1 || anyBad ((splitP s).2.1 ++ [(cpB (splitP s).2.2.1 ⟨#[32]⟩).1]) || decide (1 < pt)) = true then (P, 1)
  else if (P.varsR (splitP s).2.1).2 ≠ 0 then (P, (P.varsR (splitP s).2.1).2)
  else if (P.varR (cpB (splitP s).2.2.1 ⟨#[32]⟩).1).2 ≠ 0 then (P, (P.varR (cpB (splitP s).2.2.1 ⟨#[32]⟩).1).2)
  else ({ P with funs := P.funs ++ [⟨(splitP s).1, (P.varsR (splitP s).2.1).1, (P.varR (cpB (splitP s).2.2.1 ⟨#[32]⟩).1).1⟩] }, 0)
set_option maxRecDepth 100000 in
set_option maxHeartbeats 6400000 in
theorem rdrfun_any (s : ByteArray) (hs : s.size ≤ 100000) (w0 w : World) (b : Nat) (P : PP) (pt : Nat) (ad : Nat → Addr) (hE : ErrM w0 ad) (h : RdA w0 w b P pt) (hfew : P.Few) (hl : (splitP s).2.1.length ≤ 10000) (hz : (splitP s).1.size ≤ 100000 ∧ (splitP s).2.2.1.size ≤ 100000 ∧ ∀ q ∈ (splitP s).2.1, q.size ≤ 100000) :
    Calls Tryd.prog 42 #[.pointer (some ⟨b, 0, none⟩), .string s] w fun e w' => e = .returned (errv (evOf ad) (P.funR pt s).2) ∧ RdO w0 w' b (P.funR pt s) 1 := by
  obtain ⟨⟨vv, fv, sv, fs, ss, hR⟩, hX⟩ := h
  have HS := hid (progsplit_any s hs w ad (hE.ext hX))
  obtain ⟨y, l, r0, is, hsp⟩ : ∃ y l r0 is, splitP s = (y, l, r0, is) := ⟨_, _, _, _, rfl⟩
  rw [hsp] at HS hl hz
  simp only at HS hl hz
  have HCP := fun w1 => hid (cutpre_any r0 ⟨#[32]⟩ w1)
  have hrz := cpB_size r0 ⟨#[32]⟩
  obtain ⟨r, sp, hcp⟩ : ∃ r sp, cpB r0 ⟨#[32]⟩ = (r, sp) := ⟨_, _, rfl⟩
  rw [hcp] at HCP hrz
  simp only at HCP hrz
  have hC : P.funR pt s = if (!is || !sp || !nameOk y || anyBad (l ++ [r]) || decide (1 < pt)) = true then (P, 1) else if (P.varsR l).2 ≠ 0 then (P, (P.varsR l).2) else if (P.varR r).2 ≠ 0 then (P, (P.varR r).2) else ({ P with funs := P.funs ++ [⟨y, (P.varsR l).1, (P.varR r).1⟩] }, 0) := by
    unfold PP.funR
    rw [hsp]
    simp only
    rw [hcp]
  have HAz := hid (show ∀ q ∈ l ++ [r], q.size ≤ 1000000 by
    intro q hq
    rcases List.mem_append.1 hq with e | e
    · have := hz.2.2 q e; omega
    · rw [List.mem_singleton.1 e]; have := hz.2.1; omega)
  have HNm := fun w1 => hid (name_any y w1 (by have := hz.1; omega))
  have HC := hid hC
  have HE := hid hE
  have HX := hid hX
  have HR := hid hR
  have Hfew := hid hfew.f
  have Hll := hid hl
  clear hsp hcp hrz hC hz hE hX hR hfew hs hl
  go_enter Tryd.func42, Tryd.ntmps42
  go_wp2_with fail
  refine HS.out.mono ?_
  rintro e w1 ⟨v, rfl, hS1, hx1, hv1⟩
  have HX1 := hid (HX.out.trans hx1)
  have HR1 := hid (HR.out.ext hx1)
  obtain ⟨la, lc, rfl, _⟩ := id hS1
  have HS1 := hid hS1
  have HV1 := hid (show ∀ q, (Value.slice la l.length lc).ownBlock = some q → q ≠ b from fun q hq e => by
    have h1 := hv1 q hq
    have h2 := HR.out.blk.lt
    omega)
  have HP1 := HCP w1
  clear HS hS1 hx1 hv1 HR HX HCP
  go_wp2_with fail
  refine HP1.out.mono ?_
  rintro e w2 ⟨rfl, rfl⟩
  clear HP1
  cases is with
  | false =>
    have HT := hid (show P.funR pt s = (P, 1) by rw [HC.out]; rfl)
    have g1 := (HE.out.er.ext HX1.out).at1
    unfold evOf at g1
    go_wp2
    go_ret
    rw [HT.out]
    exact ⟨by rw [errv_p (by decide)]; rfl, RdO.no HX1.out (by decide)⟩
  | true =>
  cases sp with
  | false =>
    have HT := hid (show P.funR pt s = (P, 1) by rw [HC.out]; rfl)
    have g1 := (HE.out.er.ext HX1.out).at1
    unfold evOf at g1
    go_wp2
    go_ret
    rw [HT.out]
    exact ⟨by rw [errv_p (by decide)]; rfl, RdO.no HX1.out (by decide)⟩
  | true =>
  have HN2 := HNm w2
  clear HNm
  go_wp2_with fail
  refine HN2.out.mono ?_
  rintro e w3 ⟨rfl, hx3⟩
  have HX3 := hid (HX1.out.trans hx3)
  have HR3 := hid (HR1.out.ext hx3)
  have HS3 := hid (HS1.out.old (hx3.old _))
  clear HN2 hx3 HX1 HR1 HS1
  cases hnm : nameOk y with
  | false =>
    have HT := hid (show P.funR pt s = (P, 1) by rw [HC.out, hnm]; rfl)
    have g1 := (HE.out.er.ext HX3.out).at1
    unfold evOf at g1
    go_wp2
    go_ret
    rw [HT.out]
    exact ⟨by rw [errv_p (by decide)]; rfl, RdO.no HX3.out (by decide)⟩
  | true =>
  have Hnm := hid hnm
  clear hnm
  rcases formE_of (l := l ++ [r]) with ⟨hfo, hbad⟩ | ⟨hfo, hbad⟩
  · have Hfo := hid hfo
    have Hbad := hid hbad
    clear hfo hbad
    have HCl := hid (clonestr_any _ l w3 _ HS3.out (by have := Hll.out; omega))
    go_wp2_with fail
    refine HCl.out.mono ?_
    rintro e w4 ⟨v4, rfl, hx4, hrow4⟩
    obtain ⟨va, vc, rfl⟩ := row_form hrow4
    obtain ⟨W5, hW5⟩ : ∃ W5, W5 = w4.alloc (.cells #[.string r] 9) := ⟨_, rfl⟩
    have hx5 : Ext w4 W5 := by rw [hW5]; exact (Ext.refl _).alloc _
    have HB5 : Hid (Blk W5 w4.heap.size #[.string r] 9) := hid (by rw [hW5]; exact Blk.new _ _ _)
    have HW5 := hid hW5
    have HX35 := hid (hx4.trans hx5)
    have HRow5 := hid (own_ext hrow4 hx5)
    have Hls : Hid (l.length ≤ 1000000) := hid (by have := Hll.out; omega)
    clear HCl hW5 hx4 hx5 hrow4
    go_wp2_with (at_builtin; rw [← HW5.out]; refine wpList_append_elW w3.heap.size HX35.out.size 22 9 (.string ⟨#[]⟩) 1 16 Tryd.underlying22 str_info rfl (by omega) (by omega) rfl _ _ rfl (.slice va l.length vc) l.length (l.map .string) rfl HRow5.out w4.heap.size [.string r] rfl (by simp [Value.oneCell']) rfl HB5.out Hls.out ?_; intro v6 w6 h1 h2 h4; obtain ⟨a6, c6, rfl⟩ := row_form h1; have hx6 : Ext w3 w6 := Keep.new HX35.out h2 (fun q hq => (World.ownsRow.lt HRow5.out q hq).1); have HX6 := hid (HX3.out.trans hx6); have HR6 := hid (HR3.out.ext hx6); have HL6 := hid (HS3.out.old (hx6.old _)); have HS6 : Hid (StrsR w6 w6.heap.size (.slice a6 (l.length + 1) c6) (l ++ [r])) := hid (StrsR.own (by simpa using h1) (Nat.le_refl _)); clear h1 h2 h4 hx6)
    have HF := hid (progform_any _ (l ++ [r]) w6 _ ad (HE.out.er.ext HX6.out).at1 HS6.out HAz.out)
    rw [Hfo.out, errv_no rfl] at HF
    go_wp2_with fail
    refine HF.out.mono ?_
    rintro e w7 ⟨rfl, hx7⟩
    have HX7 := hid (HX6.out.trans hx7)
    have HR7 := hid (HR6.out.ext hx7)
    have HL7 := hid (HL6.out.old (hx7.old _))
    have HTo := hid (show Calls Tryd.prog 41 #[.pointer (some ⟨b, 0, none⟩), .int .i64 1] w7 _ from rdrto_any w7 _ b vv fv sv P fs ss pt 1 HR7.out)
    clear HF hx7 HX6 HR6 HL6 HS6
    go_wp2_with fail
    refine HTo.out.mono ?_
    rintro e w8 (⟨hp, rfl, rfl⟩ | ⟨hp, rfl, hR8, hk8⟩)
    · have HT := hid (show P.funR pt s = (P, 1) by rw [HC.out, if_pos (by simp [hp])])
      clear HTo
      have g1 := (HE.out.er.ext HX7.out).at1
      unfold evOf at g1
      go_wp2
      go_ret
      rw [HT.out]
      exact ⟨by rw [errv_p (by decide)]; rfl, RdO.no HX7.out (by decide)⟩
    · have HC2 : Hid (P.funR pt s = if (P.varsR l).2 ≠ 0 then (P, (P.varsR l).2) else if (P.varR r).2 ≠ 0 then (P, (P.varR r).2) else ({ P with funs := P.funs ++ [⟨y, (P.varsR l).1, (P.varR r).1⟩] }, 0)) := hid (by rw [HC.out, if_neg (by simp [Hnm.out, Hbad.out]; omega)])
      have HX8 := hid (Keep.new HX7.out hk8 (fun q hq => by rw [hq]; exact hR8.hb))
      have HR8 := hid hR8
      have HL8 := hid (HL7.out.keep hk8 fun q hq e => HV1.out q hq e)
      have HV := hid (rdrvariables_any _ l w8 _ _ b vv fv sv P fs ss 1 ad (HE.out.er.ext HX8.out) HR8.out HL8.out (fun q hq => HAz.out q (List.mem_append_left _ hq)) (by have := Hll.out; omega))
      clear HTo hR8 hk8 HX7 HR7 HL7 hp
      go_wp2_with fail
      refine HV.out.mono ?_
      rintro e w9 ⟨u, ks, c, rfl, hks, hr, hx9⟩
      have HX9 := hid (HX8.out.trans hx9)
      have HR9 := hid (HR8.out.ext hx9)
      have Hks := hid hks
      have Hr := hid hr
      obtain ⟨ua, uc, rfl⟩ := hr.form
      clear HV hr hx9 HX8 HR8 hks
      by_cases hc : c = 0
      · subst hc
        rw [errv_no rfl]
        have HV2 := hid (rdrvariable_any r (HAz.out r (List.mem_append_right _ (List.mem_singleton.2 rfl))) w9 _ b vv fv sv P fs ss 1 ad (HE.out.er.ext HX9.out) HR9.out)
        go_wp2_with fail
        refine HV2.out.mono ?_
        rintro e w10 ⟨i, c, rfl, hv, hx10⟩
        have HX10 := hid (HX9.out.trans hx10)
        have HR10 := hid (HR9.out.ext hx10)
        have HI10 := hid (IntsT.of_row (Hr.out.ext hx10))
        clear HV2 hx10 HX9 HR9 Hr
        by_cases hc : c = 0
        · subst hc
          have HT := hid (show P.funR pt s = ({ P with funs := P.funs ++ [⟨y, ks, i⟩] }, 0) by rw [HC2.out, Hks.out, hv]; rfl)
          rw [errv_no rfl]
          obtain ⟨fa, fc, rfl⟩ := row_form HR10.out.funs
          have hfl := HR10.out.fl
          have Hfl : Hid (fs.length ≤ 1000000) := hid (by have := Hfew.out; omega)
          have g1 := HR10.out.blk.av 1 rfl
          simp only [qA0, qA1, qA2] at g1
          have Hn8 : Hid (w0.heap.size ≤ (w10.alloc (.cells #[.string y, .slice ua ks.length uc, .int .i64 i] 43)).heap.size) := hid (HX10.out.alloc _).size
          clear hv hfl
          go_wp2_with (at_builtin; refine wpList_append_el w0.heap.size Hn8.out 23 43 (.agg #[.string ⟨#[]⟩, .slice none 0 0, .int .i64 0]) 3 48 Tryd.underlying23 fun_info rfl (by omega) (by omega) rfl _ _ rfl (.slice fa fs.length fc) fs.length (fs.flatMap F2.cells) rfl (own_ext HR10.out.funs ((Ext.refl _).alloc _)) w10.heap.size (F2.cells ⟨⟨y, ks, i⟩, .slice ua ks.length uc⟩) rfl (by simp [F2.cells, Value.oneCell']) rfl (Blk.new _ _ _) Hfl.out ?_; intro v9 w9 ho9 hk9 hl9; obtain ⟨a9, c9, rfl⟩ := row_form ho9; have HO8 := hid (HR10.out.ext ((Ext.refl w10).alloc (.cells #[.string y, .slice ua ks.length uc, .int .i64 i] 43))); have Hk9 := hid hk9; have Ho9 := hid ho9; have hb9 := HO8.out.blk.keep hk9 (fun e => by obtain ⟨c, hc⟩ := own_ty HO8.out.funs e; exact Blk.ty_ne hc HO8.out.blk (by decide) rfl); have s1 := hb9.av 1 rfl; have t1 := hb9.free 1; clear ho9 hk9 hb9)
          have HF := hid (HO8.out.fun ⟨⟨y, ks, i⟩, .slice ua ks.length uc⟩ (HI10.out.ext ((Ext.refl w10).alloc _)) Ho9.out Hk9.out rfl)
          have HXF := hid (Rdr.keep_new (i := 1) (x := .slice a9 (fs.length + 1) c9) (HX10.out.alloc (.cells #[.string y, .slice ua ks.length uc, .int .i64 i] 43)) HO8.out.hb (fun q hq => (World.ownsRow.lt HO8.out.funs q hq).1) Hk9.out)
          go_ret
          rw [HT.out]
          exact ⟨rfl, RdO.yes HF.out HXF.out⟩
        · have HT := hid (show P.funR pt s = (P, c) by rw [HC2.out, Hks.out, hv, if_neg (by simp), if_pos hc])
          have HN := hid (RdO.no (b := b) (pt := 1) (P := P) HX10.out hc)
          have Hc := hid hc
          rw [errv_yes hc]
          clear hc hv
          go_wp2
          go_ret
          rw [HT.out]
          exact ⟨by rw [errv_p Hc.out]; rfl, HN.out⟩
      · have HT := hid (show P.funR pt s = (P, c) by rw [HC2.out, Hks.out, if_pos hc])
        have HN := hid (RdO.no (b := b) (pt := 1) (P := P) HX9.out hc)
        have Hc := hid hc
        rw [errv_yes hc]
        clear hc
        go_wp2
        go_ret
        rw [HT.out]
        exact ⟨by rw [errv_p Hc.out]; rfl, HN.out⟩
  · have HT := hid (show P.funR pt s = (P, 1) by rw [HC.out, hbad, if_pos (by simp)])
    have Hfo := hid hfo
    clear hfo hbad
    have HCl := hid (clonestr_any _ l w3 _ HS3.out (by have := Hll.out; omega))
    go_wp2_with fail
    refine HCl.out.mono ?_
    rintro e w4 ⟨v4, rfl, hx4, hrow4⟩
    obtain ⟨va, vc, rfl⟩ := row_form hrow4
    obtain ⟨W5, hW5⟩ : ∃ W5, W5 = w4.alloc (.cells #[.string r] 9) := ⟨_, rfl⟩
    have hx5 : Ext w4 W5 := by rw [hW5]; exact (Ext.refl _).alloc _
    have HB5 : Hid (Blk W5 w4.heap.size #[.string r] 9) := hid (by rw [hW5]; exact Blk.new _ _ _)
    have HW5 := hid hW5
    have HX35 := hid (hx4.trans hx5)
    have HRow5 := hid (own_ext hrow4 hx5)
    have Hls : Hid (l.length ≤ 1000000) := hid (by have := Hll.out; omega)
    clear HCl hW5 hx4 hx5 hrow4
    go_wp2_with (at_builtin; rw [← HW5.out]; refine wpList_append_elW w3.heap.size HX35.out.size 22 9 (.string ⟨#[]⟩) 1 16 Tryd.underlying22 str_info rfl (by omega) (by omega) rfl _ _ rfl (.slice va l.length vc) l.length (l.map .string) rfl HRow5.out w4.heap.size [.string r] rfl (by simp [Value.oneCell']) rfl HB5.out Hls.out ?_; intro v6 w6 h1 h2 h4; obtain ⟨a6, c6, rfl⟩ := row_form h1; have hx6 : Ext w3 w6 := Keep.new HX35.out h2 (fun q hq => (World.ownsRow.lt HRow5.out q hq).1); have HX6 := hid (HX3.out.trans hx6); have HR6 := hid (HR3.out.ext hx6); have HL6 := hid (HS3.out.old (hx6.old _)); have HS6 : Hid (StrsR w6 w6.heap.size (.slice a6 (l.length + 1) c6) (l ++ [r])) := hid (StrsR.own (by simpa using h1) (Nat.le_refl _)); clear h1 h2 h4 hx6)
    have HF := hid (progform_any _ (l ++ [r]) w6 _ ad (HE.out.er.ext HX6.out).at1 HS6.out HAz.out)
    rw [Hfo.out, errv_yes (by decide)] at HF
    go_wp2_with fail
    refine HF.out.mono ?_
    rintro e w7 ⟨rfl, hx7⟩
    have HX7 := hid (HX6.out.trans hx7)
    clear HF hx7
    have g1 := (HE.out.er.ext HX7.out).at1
    unfold evOf at g1
    go_wp2
    go_ret
    rw [HT.out]
    exact ⟨by rw [errv_p (by decide)]; rfl, RdO.no HX7.out (by decide)⟩
theorem splitP_ok (s : ByteArray) (hs : s.size ≤ 5000) : (splitP s).2.1.length ≤ 10000 ∧ (splitP s).1.size ≤ 100000 ∧ (splitP s).2.2.1.size ≤ 100000 ∧ ∀ q ∈ (splitP s).2.1, q.size ≤ 100000 := by
  have h1 := cutB_size s opB
  have h2 := cutB_size (cutB s opB).2.1 clB
  have h3 := piecesB_few (cutB (cutB s opB).2.1 clB).1
  refine ⟨?_, ?_, ?_, fun q hq => ?_⟩
  · show (piecesB (cutB (cutB s opB).2.1 clB).1).length ≤ 10000
    omega
  · show (cutB s opB).1.size ≤ 100000
    omega
  · show (cutB (cutB s opB).2.1 clB).2.1.size ≤ 100000
    omega
  · have := piecesB_size _ q hq
    omega
def PP.stmtR (P : PP) (s : ByteArray) : PP × Nat :=
  if (cutB s ⟨#[32, 61, 32]⟩).2.2 = false then (P, 1)
  else if (cpB (cutB s ⟨#[32, 61, 32]⟩).1 ⟨#[42]⟩).2 = true then P.twoR ⟨#[115, 116, 111, 114, 101]⟩ (cpB (cutB s ⟨#[32, 61, 32]⟩).1 ⟨#[42]⟩).1 (cutB s ⟨#[32, 61, 32]⟩).2.1
  else if ((cutB s ⟨#[32, 61, 32]⟩).2.1.toList == [110, 101, 119]) = true then
    (if (P.varR (cutB s ⟨#[32, 61, 32]⟩).1).2 = 0 then ({ P with stmts := P.stmts ++ [⟨⟨#[110, 101, 119]⟩, (P.varR (cutB s ⟨#[32, 61, 32]⟩).1).1, 0, []⟩] }, 0) else (P, (P.varR (cutB s ⟨#[32, 61, 32]⟩).1).2))
  else if (cpB (cutB s ⟨#[32, 61, 32]⟩).2.1 ⟨#[38]⟩).2 = true then P.twoR ⟨#[97, 100, 100, 114]⟩ (cutB s ⟨#[32, 61, 32]⟩).1 (cpB (cutB s ⟨#[32, 61, 32]⟩).2.1 ⟨#[38]⟩).1
  else if (cpB (cutB s ⟨#[32, 61, 32]⟩).2.1 ⟨#[42]⟩).2 = true then P.twoR ⟨#[108, 111, 97, 100]⟩ (cutB s ⟨#[32, 61, 32]⟩).1 (cpB (cutB s ⟨#[32, 61, 32]⟩).2.1 ⟨#[42]⟩).1
  else if (cpB (cutB s ⟨#[32, 61, 32]⟩).2.1 ⟨#[102, 110, 32]⟩).2 = true then P.namedR (cutB s ⟨#[32, 61, 32]⟩).1 (cpB (cutB s ⟨#[32, 61, 32]⟩).2.1 ⟨#[102, 110, 32]⟩).1
  else if (cpB (cutB s ⟨#[32, 61, 32]⟩).2.1 ⟨#[99, 97, 108, 108, 32]⟩).2 = true then P.calledR (cutB s ⟨#[32, 61, 32]⟩).1 (cpB (cutB s ⟨#[32, 61, 32]⟩).2.1 ⟨#[99, 97, 108, 108, 32]⟩).1
  else P.twoR ⟨#[99, 111, 112, 121]⟩ (cutB s ⟨#[32, 61, 32]⟩).1 (cutB s ⟨#[32, 61, 32]⟩).2.1
theorem bool_ne {b : Bool} (h : b = false) : ¬ b = true := by rw [h]; decide
set_option maxRecDepth 100000 in
set_option maxHeartbeats 6400000 in
theorem rdrstmt_any (s : ByteArray) (hs : s.size ≤ 5000) (w0 w : World) (b : Nat) (P : PP) (pt : Nat) (hpt : pt ≤ 2) (ad : Nat → Addr) (hE : ErrM w0 ad) (h : RdA w0 w b P pt) (hfew : P.Few) (hff : P.funs.length ≤ 1000) :
    Calls Tryd.prog 43 #[.pointer (some ⟨b, 0, none⟩), .string s] w fun e w' => e = .returned (errv (evOf ad) (P.stmtR s).2) ∧ RdO w0 w' b (P.stmtR s) 2 := by
  have HS := hid (scut_any s ⟨#[32, 61, 32]⟩ w ad (hE.ext h.2) (by omega))
  have hz := cutB_size s ⟨#[32, 61, 32]⟩
  have HC : Hid (∀ x y is, cutB s ⟨#[32, 61, 32]⟩ = (x, y, is) → P.stmtR s = if is = false then (P, 1)
      else if (cpB x ⟨#[42]⟩).2 = true then P.twoR ⟨#[115, 116, 111, 114, 101]⟩ (cpB x ⟨#[42]⟩).1 y
      else if (y.toList == [110, 101, 119]) = true then (if (P.varR x).2 = 0 then ({ P with stmts := P.stmts ++ [⟨⟨#[110, 101, 119]⟩, (P.varR x).1, 0, []⟩] }, 0) else (P, (P.varR x).2))
      else if (cpB y ⟨#[38]⟩).2 = true then P.twoR ⟨#[97, 100, 100, 114]⟩ x (cpB y ⟨#[38]⟩).1
      else if (cpB y ⟨#[42]⟩).2 = true then P.twoR ⟨#[108, 111, 97, 100]⟩ x (cpB y ⟨#[42]⟩).1
      else if (cpB y ⟨#[102, 110, 32]⟩).2 = true then P.namedR x (cpB y ⟨#[102, 110, 32]⟩).1
      else if (cpB y ⟨#[99, 97, 108, 108, 32]⟩).2 = true then P.calledR x (cpB y ⟨#[99, 97, 108, 108, 32]⟩).1
      else P.twoR ⟨#[99, 111, 112, 121]⟩ x y) := hid fun x y is h => by
    unfold PP.stmtR
    rw [h]
  obtain ⟨x, y, is, hc⟩ : ∃ x y is, cutB s ⟨#[32, 61, 32]⟩ = (x, y, is) := ⟨_, _, _, rfl⟩
  rw [hc] at HS hz
  simp only at HS hz
  have HC := hid (HC.out x y is hc)
  have HE := hid hE
  have H := hid h
  have Hfew := hid hfew
  have Hff := hid hff
  have Hxz : Hid (x.size ≤ 5000) := hid (by omega)
  have Hyz : Hid (y.size ≤ 5000) := hid (by omega)
  clear hc hz h hE hfew hff hs
  go_enter Tryd.func43, Tryd.ntmps43
  go_wp2_with fail
  refine HS.out.mono ?_
  rintro e w1 ⟨rfl, hx1⟩
  have HX1 := hid (H.out.2.trans hx1)
  cases is with
  | false =>
    have HT := hid (show P.stmtR s = (P, 1) by rw [HC.out, if_pos rfl])
    have g1 := (HE.out.er.ext HX1.out).at1
    unfold evOf at g1
    clear HS H hx1
    go_wp2
    go_ret
    rw [HT.out]
    exact ⟨by rw [errv_p (by decide)]; rfl, RdO.no HX1.out (by decide)⟩
  | true =>
  have HC1 := hid (HC.out.trans (if_neg (by decide)))
  obtain ⟨⟨vv, fv, sv, fs, ss, hR⟩, hX⟩ := H.out
  have HTo := hid (show Calls Tryd.prog 41 #[.pointer (some ⟨b, 0, none⟩), .int .i64 2] w1 _ from rdrto_any w1 _ b vv fv sv P fs ss pt 2 (hR.ext hx1))
  have Hpt := hid hpt
  clear HC hR hX hx1 HS H hpt
  go_wp2_with fail
  refine HTo.out.mono ?_
  rintro e w2 (⟨hp, rfl, rfl⟩ | ⟨hp, rfl, hR2, hk2⟩)
  · exact absurd Hpt.out (by omega)
  have hX2 : Ext w0 w2 := Keep.new HX1.out hk2 (fun q hq => by rw [hq]; exact hR2.hb)
  have H2 : Hid (RdA w0 w2 b P 2) := hid ⟨⟨_, _, _, _, _, hR2⟩, hX2⟩
  clear HTo hp hR2 hk2 hX2 HX1
  have HCPx := hid (cutpre_any x ⟨#[42]⟩ w2)
  have hz1 := cpB_size x ⟨#[42]⟩
  obtain ⟨v, cb, hcp⟩ : ∃ v cb, cpB x ⟨#[42]⟩ = (v, cb) := ⟨_, _, rfl⟩
  rw [hcp] at HCPx hz1
  simp only at HCPx hz1
  have HV1 := hid hcp
  have Hz1 := hid hz1
  clear hcp hz1
  go_wp2_with fail
  refine HCPx.out.mono ?_
  rintro e wx ⟨rfl, rfl⟩
  clear HCPx
  cases cb with
  | true =>
    have HT := hid (HC1.out.trans (show _ = P.twoR ⟨#[115, 116, 111, 114, 101]⟩ v y by rw [HV1.out]; rfl))
    have HCall := hid (rdrtwo_any ⟨#[115, 116, 111, 114, 101]⟩ v y (by have := Hz1.out; have := Hxz.out; omega) (by have := Hyz.out; omega) w0 wx b P 2 ad HE.out.er H2.out Hfew.out)
    go_wp2_with fail
    refine HCall.out.mono ?_
    rintro e w9 ⟨rfl, ho⟩
    have Ho := hid ho
    clear HCall ho
    go_wp2
    go_ret
    rw [HT.out]
    exact ⟨rfl, Ho.out⟩
  | false =>
  have HC2 := hid (HC1.out.trans (if_neg (by rw [HV1.out]; exact Bool.false_ne_true)))
  clear HC1 HV1 Hz1
  cases hnw : (y.toList == [110, 101, 119]) with
  | true =>
    obtain ⟨⟨vv, fv, sv, fs, ss, hR⟩, hX⟩ := H2.out
    have HR := hid hR
    have HX := hid hX
    have HV := hid (rdrvariable_any x (by have := Hxz.out; omega) wx _ b vv fv sv P fs ss 2 ad (HE.out.er.ext hX) hR)
    have HC3 := hid (HC2.out.trans (if_pos hnw))
    clear HC2 hR hX H2
    go_wp2_with fail
    refine HV.out.mono ?_
    rintro e w3 ⟨i, c, rfl, hv, hx3⟩
    have HX3 := hid (HX.out.trans hx3)
    have HR3 := hid (HR.out.ext hx3)
    clear HV hx3 HX HR
    by_cases hc : c = 0
    · subst hc
      have HT := hid (HC3.out.trans (show _ = ({ P with stmts := P.stmts ++ [⟨⟨#[110, 101, 119]⟩, i, 0, []⟩] }, 0) by rw [hv]; rfl))
      rw [errv_no rfl]
      obtain ⟨sa, sc, rfl⟩ := row_form HR3.out.stmts
      have hsl := HR3.out.sl
      have Hsl : Hid (ss.length ≤ 1000000) := hid (by have := Hfew.out.s; omega)
      have g2 := HR3.out.blk.av 2 rfl
      simp only [qA0, qA1, qA2] at g2
      have Hn8 : Hid (w0.heap.size ≤ (w3.alloc (.cells #[.string ⟨#[110, 101, 119]⟩, .int .i64 i, .int .i64 0, .slice none 0 0] 39)).heap.size) := hid (HX3.out.alloc _).size
      clear hv hsl
      go_wp2_with (at_builtin; refine wpList_append_el w0.heap.size Hn8.out 24 39 (.agg #[.string ⟨#[]⟩, .int .i64 0, .int .i64 0, .slice none 0 0]) 4 56 Tryd.underlying24 stmt_info rfl (by omega) (by omega) rfl _ _ rfl (.slice sa ss.length sc) ss.length (ss.flatMap S2.cells) rfl (own_ext HR3.out.stmts ((Ext.refl _).alloc _)) w3.heap.size (S2.cells ⟨⟨⟨#[110, 101, 119]⟩, i, 0, []⟩, .slice none 0 0⟩) rfl (by simp [S2.cells, Value.oneCell']) rfl (Blk.new _ _ _) Hsl.out ?_; intro v9 w9 ho9 hk9 hl9; obtain ⟨a9, c9, rfl⟩ := row_form ho9; have HO8 := hid (HR3.out.ext ((Ext.refl w3).alloc (.cells #[.string ⟨#[110, 101, 119]⟩, .int .i64 i, .int .i64 0, .slice none 0 0] 39))); have Hk9 := hid hk9; have Ho9 := hid ho9; have hb9 := HO8.out.blk.keep hk9 (fun e => by obtain ⟨c, hc⟩ := own_ty HO8.out.stmts e; exact Blk.ty_ne hc HO8.out.blk (by decide) rfl); have s1 := hb9.av 2 rfl; have t1 := hb9.free 2; clear ho9 hk9 hb9)
      have HF := hid (HO8.out.stmt ⟨⟨⟨#[110, 101, 119]⟩, i, 0, []⟩, .slice none 0 0⟩ (IntsT.of_row (IRow.nil 0 _)) Ho9.out Hk9.out rfl)
      have HXF := hid (Rdr.keep_new (i := 2) (x := .slice a9 (ss.length + 1) c9) (HX3.out.alloc (.cells #[.string ⟨#[110, 101, 119]⟩, .int .i64 i, .int .i64 0, .slice none 0 0] 39)) HO8.out.hb (fun q hq => (World.ownsRow.lt HO8.out.stmts q hq).1) Hk9.out)
      go_ret
      rw [HT.out]
      exact ⟨rfl, RdO.yes HF.out HXF.out⟩
    · have HT := hid (HC3.out.trans (show _ = (P, c) by rw [hv]; exact if_neg hc))
      have HN := hid (RdO.no (b := b) (pt := 2) (P := P) HX3.out hc)
      have Hc := hid hc
      rw [errv_yes hc]
      clear hc hv
      go_wp2
      go_ret
      rw [HT.out]
      exact ⟨by rw [errv_p Hc.out]; rfl, HN.out⟩
  | false =>
  have HC3 := hid (HC2.out.trans (if_neg (bool_ne hnw)))
  clear HC2
  have HCPx := hid (cutpre_any y ⟨#[38]⟩ wx)
  have hz1 := cpB_size y ⟨#[38]⟩
  obtain ⟨v, cb, hcp⟩ : ∃ v cb, cpB y ⟨#[38]⟩ = (v, cb) := ⟨_, _, rfl⟩
  rw [hcp] at HCPx hz1
  simp only at HCPx hz1
  have HV1 := hid hcp
  have Hz1 := hid hz1
  clear hcp hz1
  go_wp2_with fail
  refine HCPx.out.mono ?_
  rintro e wx ⟨rfl, rfl⟩
  clear HCPx
  cases cb with
  | true =>
    have HT := hid (HC3.out.trans (show _ = P.twoR ⟨#[97, 100, 100, 114]⟩ x v by rw [HV1.out]; rfl))
    have HCall := hid (rdrtwo_any ⟨#[97, 100, 100, 114]⟩ x v (by have := Hxz.out; omega) (by have := Hz1.out; have := Hyz.out; omega) w0 wx b P 2 ad HE.out.er H2.out Hfew.out)
    go_wp2_with fail
    refine HCall.out.mono ?_
    rintro e w9 ⟨rfl, ho⟩
    have Ho := hid ho
    clear HCall ho
    go_wp2
    go_ret
    rw [HT.out]
    exact ⟨rfl, Ho.out⟩
  | false =>
  have HC4 := hid (HC3.out.trans (if_neg (by rw [HV1.out]; exact Bool.false_ne_true)))
  clear HC3 HV1 Hz1
  have HCPx := hid (cutpre_any y ⟨#[42]⟩ wx)
  have hz1 := cpB_size y ⟨#[42]⟩
  obtain ⟨v, cb, hcp⟩ : ∃ v cb, cpB y ⟨#[42]⟩ = (v, cb) := ⟨_, _, rfl⟩
  rw [hcp] at HCPx hz1
  simp only at HCPx hz1
  have HV1 := hid hcp
  have Hz1 := hid hz1
  clear hcp hz1
  go_wp2_with fail
  refine HCPx.out.mono ?_
  rintro e wx ⟨rfl, rfl⟩
  clear HCPx
  cases cb with
  | true =>
    have HT := hid (HC4.out.trans (show _ = P.twoR ⟨#[108, 111, 97, 100]⟩ x v by rw [HV1.out]; rfl))
    have HCall := hid (rdrtwo_any ⟨#[108, 111, 97, 100]⟩ x v (by have := Hxz.out; omega) (by have := Hz1.out; have := Hyz.out; omega) w0 wx b P 2 ad HE.out.er H2.out Hfew.out)
    go_wp2_with fail
    refine HCall.out.mono ?_
    rintro e w9 ⟨rfl, ho⟩
    have Ho := hid ho
    clear HCall ho
    go_wp2
    go_ret
    rw [HT.out]
    exact ⟨rfl, Ho.out⟩
  | false =>
  have HC5 := hid (HC4.out.trans (if_neg (by rw [HV1.out]; exact Bool.false_ne_true)))
  clear HC4 HV1 Hz1
  have HCPx := hid (cutpre_any y ⟨#[102, 110, 32]⟩ wx)
  have hz1 := cpB_size y ⟨#[102, 110, 32]⟩
  obtain ⟨v, cb, hcp⟩ : ∃ v cb, cpB y ⟨#[102, 110, 32]⟩ = (v, cb) := ⟨_, _, rfl⟩
  rw [hcp] at HCPx hz1
  simp only at HCPx hz1
  have HV1 := hid hcp
  have Hz1 := hid hz1
  clear hcp hz1
  go_wp2_with fail
  refine HCPx.out.mono ?_
  rintro e wx ⟨rfl, rfl⟩
  clear HCPx
  cases cb with
  | true =>
    have HT := hid (HC5.out.trans (show _ = P.namedR x v by rw [HV1.out]; rfl))
    have HCall := hid (rdrnamed_any x v (by have := Hxz.out; omega) (by have := Hz1.out; have := Hyz.out; omega) w0 wx b P 2 ad HE.out.er H2.out Hfew.out Hff.out)
    go_wp2_with fail
    refine HCall.out.mono ?_
    rintro e w9 ⟨rfl, ho⟩
    have Ho := hid ho
    clear HCall ho
    go_wp2
    go_ret
    rw [HT.out]
    exact ⟨rfl, Ho.out⟩
  | false =>
  have HC6 := hid (HC5.out.trans (if_neg (by rw [HV1.out]; exact Bool.false_ne_true)))
  clear HC5 HV1 Hz1
  have HCPx := hid (cutpre_any y ⟨#[99, 97, 108, 108, 32]⟩ wx)
  have hz1 := cpB_size y ⟨#[99, 97, 108, 108, 32]⟩
  obtain ⟨v, cb, hcp⟩ : ∃ v cb, cpB y ⟨#[99, 97, 108, 108, 32]⟩ = (v, cb) := ⟨_, _, rfl⟩
  rw [hcp] at HCPx hz1
  simp only at HCPx hz1
  have HV1 := hid hcp
  have Hz1 := hid hz1
  clear hcp hz1
  go_wp2_with fail
  refine HCPx.out.mono ?_
  rintro e wx ⟨rfl, rfl⟩
  clear HCPx
  cases cb with
  | true =>
    have HT := hid (HC6.out.trans (show _ = P.calledR x v by rw [HV1.out]; rfl))
    have Hok := hid (splitP_ok v (by have := Hz1.out; have := Hyz.out; omega))
    have HCall := hid (rdrcalled_any x v (by have := Hxz.out; omega) (by have := Hz1.out; have := Hyz.out; omega) w0 wx b P 2 ad HE.out H2.out Hfew.out Hok.out.1 ⟨Hok.out.2.1, Hok.out.2.2.2⟩)
    go_wp2_with fail
    refine HCall.out.mono ?_
    rintro e w9 ⟨rfl, ho⟩
    have Ho := hid ho
    clear HCall ho
    go_wp2
    go_ret
    rw [HT.out]
    exact ⟨rfl, Ho.out⟩
  | false =>
  have HT := hid (HC6.out.trans (if_neg (by rw [HV1.out]; exact Bool.false_ne_true)))
  have HCall := hid (rdrtwo_any ⟨#[99, 111, 112, 121]⟩ x y (by have := Hxz.out; omega) (by have := Hyz.out; omega) w0 wx b P 2 ad HE.out.er H2.out Hfew.out)
  go_wp2_with fail
  refine HCall.out.mono ?_
  rintro e w9 ⟨rfl, ho⟩
  have Ho := hid ho
  clear HCall ho
  go_wp2
  go_ret
  rw [HT.out]
  exact ⟨rfl, Ho.out⟩
def varB : ByteArray := ⟨#[118, 97, 114, 32]⟩
def fnB : ByteArray := ⟨#[102, 110, 32]⟩
def lineP (s : ByteArray) : Nat := if (cpB s varB).2 = true then 0 else if (cpB s fnB).2 = true then 1 else 2
def PP.lineR (P : PP) (pt : Nat) (s : ByteArray) : PP × Nat :=
  if (cpB s varB).2 = true then (if (!nameOk (cpB s varB).1 || decide (0 < pt)) = true then (P, 1) else ({ P with vars := P.vars ++ [(cpB s varB).1] }, 0))
  else if (cpB s fnB).2 = true then P.funR pt (cpB s fnB).1
  else P.stmtR s
set_option maxRecDepth 100000 in
set_option maxHeartbeats 6400000 in
theorem rdrline_any (s : ByteArray) (hs : s.size ≤ 5000) (w0 w : World) (b : Nat) (P : PP) (pt : Nat) (hpt : pt ≤ 2) (ad : Nat → Addr) (hE : ErrM w0 ad) (h : RdA w0 w b P pt) (hfew : P.Few) (hff : P.funs.length ≤ 1000) :
    Calls Tryd.prog 25 #[.pointer (some ⟨b, 0, none⟩), .string s] w fun e w' => e = .returned (errv (evOf ad) (P.lineR pt s).2) ∧ RdO w0 w' b (P.lineR pt s) (lineP s) := by
  have HCP := hid (cutpre_any s varB w)
  have hz := cpB_size s varB
  have HCF := fun w1 => hid (cutpre_any s fnB w1)
  have hz2 := cpB_size s fnB
  have HP := hid (show lineP s = if (cpB s varB).2 = true then 0 else if (cpB s fnB).2 = true then 1 else 2 from rfl)
  have HC := hid (show P.lineR pt s = if (cpB s varB).2 = true then (if (!nameOk (cpB s varB).1 || decide (0 < pt)) = true then (P, 1) else ({ P with vars := P.vars ++ [(cpB s varB).1] }, 0)) else if (cpB s fnB).2 = true then P.funR pt (cpB s fnB).1 else P.stmtR s from rfl)
  obtain ⟨v, cv, hcv⟩ : ∃ v cv, cpB s varB = (v, cv) := ⟨_, _, rfl⟩
  obtain ⟨f, cf, hcf⟩ : ∃ f cf, cpB s fnB = (f, cf) := ⟨_, _, rfl⟩
  rw [hcv] at HCP hz HP HC
  rw [hcf] at HCF hz2 HP HC
  unfold varB at HCP
  unfold fnB at HCF
  simp only at HCP hz HP HC HCF hz2
  have HE := hid hE
  have H := hid h
  have Hfew := hid hfew
  have Hff := hid hff
  have Hs := hid hs
  have Hpt := hid hpt
  have Hvz : Hid (v.size ≤ 5000) := hid (by omega)
  have Hfz : Hid (f.size ≤ 5000) := hid (by omega)
  clear hcv hcf hz hz2 h hE hfew hff hs hpt
  cases cv with
  | true =>
    have HC1 := hid (HC.out.trans (if_pos rfl))
    have HP1 : Hid (lineP s = 0) := hid HP.out
    clear HC HP HCF
    have HN := hid (name_any v w (by have := Hvz.out; omega))
    go_enter Tryd.func25, Tryd.ntmps25
    go_wp2_with fail
    refine HCP.out.mono ?_
    rintro e wx ⟨rfl, rfl⟩
    clear HCP
    go_wp2_with fail
    refine HN.out.mono ?_
    rintro e w1 ⟨rfl, hx1⟩
    obtain ⟨⟨vv, fv, sv, fs, ss, hR⟩, hX⟩ := H.out
    have HX1 := hid (hX.trans hx1)
    have HR1 := hid (hR.ext hx1)
    clear HN hx1 hR hX H
    cases hn : nameOk v with
    | false =>
      have HT := hid (HC1.out.trans (show _ = (P, 1) by rw [hn]; rfl))
      have g1 := (HE.out.er.ext HX1.out).at1
      unfold evOf at g1
      go_wp2
      go_ret
      rw [HT.out]
      exact ⟨by rw [errv_p (by decide)]; rfl, RdO.no HX1.out (by decide)⟩
    | true =>
      have HTo := hid (show Calls Tryd.prog 41 #[.pointer (some ⟨b, 0, none⟩), .int .i64 0] w1 _ from rdrto_any w1 _ b vv fv sv P fs ss pt 0 HR1.out)
      have Hn := hid hn
      clear hn
      go_wp2_with fail
      refine HTo.out.mono ?_
      rintro e w2 (⟨hp, rfl, rfl⟩ | ⟨hp, rfl, hR2, hk2⟩)
      · have HT := hid (HC1.out.trans (if_pos (show (!nameOk v || decide (0 < pt)) = true by simp [hp])))
        have g1 := (HE.out.er.ext HX1.out).at1
        unfold evOf at g1
        clear HTo hp
        go_wp2
        go_ret
        rw [HT.out]
        exact ⟨by rw [errv_p (by decide)]; rfl, RdO.no HX1.out (by decide)⟩
      · have HT := hid (HC1.out.trans (if_neg (show ¬ (!nameOk v || decide (0 < pt)) = true by rw [Hn.out]; simp; omega)))
        have HX2 := hid (Keep.new HX1.out hk2 (fun q hq => by rw [hq]; exact hR2.hb))
        have HR2 := hid hR2
        obtain ⟨va, vc, rfl⟩ := row_form hR2.vars
        have Hvl : Hid (P.vars.length ≤ 1000000) := hid (by have := Hfew.out.v; omega)
        have g0 := HR2.out.blk.av 0 rfl
        simp only [qA0, qA1, qA2] at g0
        have Hn8 : Hid (w0.heap.size ≤ (w2.alloc (.cells #[.string v] 9)).heap.size) := hid (HX2.out.alloc _).size
        clear HTo hR2 hk2 hp HX1 HR1
        go_wp2_with (at_builtin; refine wpList_append_el w0.heap.size Hn8.out 22 9 (.string ⟨#[]⟩) 1 16 Tryd.underlying22 str_info rfl (by omega) (by omega) rfl _ _ rfl (.slice va P.vars.length vc) P.vars.length (P.vars.map .string) rfl (own_ext HR2.out.vars ((Ext.refl _).alloc _)) w2.heap.size [.string v] rfl (by simp [Value.oneCell']) rfl (Blk.new _ _ _) Hvl.out ?_; intro v9 w9 ho9 hk9 hl9; obtain ⟨a9, c9, rfl⟩ := row_form ho9; have HO8 := hid (HR2.out.ext ((Ext.refl w2).alloc (.cells #[.string v] 9))); have Hk9 := hid hk9; have Ho9 := hid ho9; have hb9 := HO8.out.blk.keep hk9 (fun e => by obtain ⟨c, hc⟩ := own_ty HO8.out.vars e; exact Blk.ty_ne hc HO8.out.blk (by decide) rfl); have s1 := hb9.av 0 rfl; have t1 := hb9.free 0; clear ho9 hk9 hb9)
        have HF := hid (HO8.out.var v Ho9.out Hk9.out rfl)
        have HXF := hid (Rdr.keep_new (i := 0) (x := .slice a9 (P.vars.length + 1) c9) (HX2.out.alloc (.cells #[.string v] 9)) HO8.out.hb (fun q hq => (World.ownsRow.lt HO8.out.vars q hq).1) Hk9.out)
        go_ret
        rw [HT.out, HP1.out]
        exact ⟨rfl, RdO.yes HF.out HXF.out⟩
  | false =>
  have HC1 := hid (HC.out.trans (if_neg Bool.false_ne_true))
  have HP1 := hid (HP.out.trans (if_neg Bool.false_ne_true))
  clear HC HP
  go_enter Tryd.func25, Tryd.ntmps25
  go_wp2_with fail
  refine HCP.out.mono ?_
  rintro e wx ⟨rfl, rfl⟩
  have HCF1 := HCF wx
  clear HCP HCF
  go_wp2_with fail
  refine HCF1.out.mono ?_
  rintro e wy ⟨rfl, rfl⟩
  clear HCF1
  cases cf with
  | true =>
    have HT := hid (HC1.out.trans (if_pos rfl))
    have HP2 := hid (HP1.out.trans (if_pos rfl))
    have Hok := hid (splitP_ok f Hfz.out)
    have HCall := hid (rdrfun_any f (by have := Hfz.out; omega) w0 wy b P pt ad HE.out H.out Hfew.out Hok.out.1 ⟨Hok.out.2.1, Hok.out.2.2.1, Hok.out.2.2.2⟩)
    go_wp2_with fail
    refine HCall.out.mono ?_
    rintro e w9 ⟨rfl, ho⟩
    have Ho := hid ho
    clear HCall ho
    go_wp2
    go_ret
    rw [HT.out, HP2.out]
    exact ⟨rfl, Ho.out⟩
  | false =>
    have HT := hid (HC1.out.trans (if_neg Bool.false_ne_true))
    have HP2 := hid (HP1.out.trans (if_neg Bool.false_ne_true))
    have HCall := hid (rdrstmt_any s Hs.out w0 wy b P pt Hpt.out ad HE.out H.out Hfew.out Hff.out)
    go_wp2_with fail
    refine HCall.out.mono ?_
    rintro e w9 ⟨rfl, ho⟩
    have Ho := hid ho
    clear HCall ho
    go_wp2
    go_ret
    rw [HT.out, HP2.out]
    exact ⟨rfl, Ho.out⟩
theorem PP.nodesV_le (P : PP) : P.nodesV ≤ P.vars.length + P.stmts.length := by
  unfold PP.nodesV
  have := P.newsN_le P.stmts.length
  omega
end Go.Proofs.YtamblahkckaaaaaDoor
