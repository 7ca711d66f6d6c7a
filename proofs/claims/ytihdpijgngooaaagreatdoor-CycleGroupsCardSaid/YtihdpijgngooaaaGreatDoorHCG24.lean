/- Texts of one proof, put together: ZZ5 ZZ6 ZZ7 ZZXr X7 X8 T8 V9 WK WL W5. -/
import Derived.Test.YtihdpijgngooaaaGreatDoorHCG06
import Derived.Test.YtihdpijgngooaaaGreatDoorHCG08
import Derived.Test.YtihdpijgngooaaaGreatDoorHCG09
import Derived.Test.YtihdpijgngooaaaGreatDoorHCG14
import Derived.Test.YtihdpijgngooaaaGreatDoorHCG16
import Derived.Test.YtihdpijgngooaaaGreatDoorHCG17
import Derived.Test.YtihdpijgngooaaaGreatDoorHCG20
import Derived.Test.YtihdpijgngooaaaGreatDoorHCG21
import Derived.Test.YtihdpijgngooaaaGreatDoorHCG22
import Derived.Test.YtihdpijgngooaaaGreatDoorHCG23
import Derived.Test.YtihdpijgngooaaaGreatDoorHCG01
set_option linter.unusedSimpArgs false
set_option linter.unusedVariables false
namespace Go.Proofs.YtihdpijgngooaaaGreatDoor
open Go Go.RowKit
section
variable {w w1 w2 : World} {G F : Nat → Prop} {g : Nat} {ad : Nat → Addr} {a1 a2 a3 : Option Addr} {c1 c2 c3 : Nat} {P : PP} {vr : Value} {rs : List R2} {vh : Value} {hs : List Value} {m1 m2 : Nat} {f1 : Int → Option Value} {vw : Value} {s : SV}
end
section
variable {P : PP} {S : List (List Int)} {s : SV} {m : Nat}
def SV.start (P : PP) : SV := P.rulesV.foldl (SV.add P) (SV.zero P)
end
def sumUp (S : List (List Int)) (k : Nat) : Nat := ((List.range k).map fun n : Nat => (S.getD n []).length).sum
theorem own_not {w : World} {base : Nat} {e : TypeId} {size : Nat} {v : Value} {n : Nat} {xs : List Value} (h : w.ownsRow base e size v n xs) {B : Nat} {c : Array Value} {t : TypeId} (hB : Blk w B c t) (hne : e ≠ t) : ¬ v.ownBlock = some B := fun e => by
  obtain ⟨c', hc'⟩ := own_ty h e
  exact Blk.ty_ne hc' hB hne rfl
theorem does_append_src4 {ops : Array Oper} {o : Oper} {a : Act} {w : World} {R : Value → World → Prop} (base : Nat) (hbase : base ≤ w.heap.size) (t e : TypeId) (z : Value) (size bytes : Nat) (ht : Tryz.prog.underlying t = some (.slice e)) (hinf : (Tryz.prog.info? e).map (fun i => (i.zero, i.size, i.bytes)) = some (some z, size, bytes)) (hz1 : z.cells.size = size) (hsz : 0 < size)
    (hb8 : bytes ≤ 64) (hg : o.guard = none) (s x : Operand) (ho : o.op = .call { callee := .builtin .append, args := #[s, x], argTypes := #[t, t] })
    (v : Value) (n : Nat) (xs : List Value) (hs : a.eval s = v) (hown : w.ownsRow base e size v n xs) (ad : Option Addr) (m c : Nat) (us : List Value) (hx : a.eval x = .slice ad m c) (hsrc : Src w ad m size us) (hl : n + m ≤ 1000000)
    (h : ∀ v' w', w'.ownsRow base e size v' (n + m) (xs ++ us) → Keep (fun k => v.ownBlock = some k) w w' → (∀ k, v'.ownBlock = some k → v.ownBlock = some k ∨ w.heap.size ≤ k) → R v' w') : does Tryz.prog ops o a w R := by
  obtain ⟨v', w', hr, h2, h3, h4⟩ := run_append_src w base hbase t e z size bytes ht hinf hz1 hsz hb8 o.type v n xs hown ad m c us hsrc hl
  exact does_of_run hg (run_exec_append s x t ho hs hx hr) (h v' w' h2 h3 h4)
theorem BagAt.inr {P : PP} {has : List (List Int)} {EL : List (Int × Int)} {k m : Nat} {B : List (List Int)} (h : BagAt P has EL k m B) {l : List Int} (hl : l ∈ B) : InR l := fun x hx => by
  obtain ⟨S, h1, h2, h3⟩ := h.set
  obtain ⟨i, hi, rfl⟩ := List.getElem_of_mem hl
  have hx' : x ∈ B.getD i [] := by rw [List.getD_eq_getElem?_getD, List.getElem?_eq_getElem hi]; exact hx
  exact (chkE_zero.1 (h1.ok _ (getD_mem (by rw [← h2]; exact hi)))).1 x ((h3 i x).1 hx')
theorem own_pos {w : World} {base g : Nat} {e : TypeId} {size n cap : Nat} {xs : List Value} (h : w.ownsRow base e size (.slice (some ⟨g, 0, none⟩) n cap) n xs) : ∃ c, Blk w g c e ∧ base ≤ g := by
  obtain ⟨c, h1, h2, _⟩ := own_blk h
  exact ⟨c, h1, h2⟩
def NewS (w : World) (base : Nat) (v : Value) : Prop := ∀ y n c, v = .slice (some y) n c → 0 < n → base ≤ y.block ∧ ∀ i u, i < n → w.cell? (y.add i) = some u → ∀ b, u.ownBlock = some b → base ≤ b
theorem NewS.ext {w w' : World} {base n0 : Nat} {v : Value} {L : List (List Int)} (h : NewS w base v) (hs : SetsR w n0 v L) (x : Ext w w') : NewS w' base v := by
  intro y n c e h0
  obtain ⟨k1, k2⟩ := h y n c e h0
  refine ⟨k1, fun i u hi hu b hb => ?_⟩
  obtain ⟨a, cap, g1, g2, g3, g4, g5⟩ := hs
  subst e
  obtain ⟨rfl, rfl, rfl⟩ : some y = a ∧ n = L.length ∧ c = cap := by simpa using g1
  obtain ⟨u0, hu0, _⟩ := (g5 y rfl h0).2 i hi _ (List.getElem?_eq_getElem hi)
  have := x.cellx hu0
  rw [hu] at this
  obtain rfl := Option.some.inj this
  exact k2 i _ hi hu0 b hb
theorem NewS.low {w : World} {base b2 : Nat} {v : Value} (h : NewS w base v) (hb : b2 ≤ base) : NewS w b2 v := fun y n c e h0 => ⟨Nat.le_trans hb (h y n c e h0).1, fun i u hi hu b hb' => Nat.le_trans hb ((h y n c e h0).2 i u hi hu b hb')⟩
theorem NewS.made {w : World} {base n : Nat} {v : Value} {vs : List Value} (h : w.ownsRow base 43 1 v n vs) (hn : ∀ u ∈ vs, ∀ b, u.ownBlock = some b → base ≤ b) : NewS w base v := by
  intro y m c e h0
  rcases h.2 with ⟨rfl, h0⟩ | ⟨g, cap, cur, rfl, hb, hg, hn', hc, hcs, ht⟩
  · cases e
  · obtain ⟨rfl, rfl, rfl⟩ : (⟨g, 0, none⟩ : Addr) = y ∧ n = m ∧ cap = c := by simpa using e
    refine ⟨hb, fun i u hi hu b hub => ?_⟩
    have hl : vs.length = n := by have := h.1; omega
    have h2 := own_get h i (List.getElem?_eq_getElem (show i < vs.length by omega))
    rw [show (⟨g, 0, none⟩ : Addr).add i = ⟨g, i, none⟩ from by by_cases h0 : i = 0 <;> simp [Addr.add, h0], h2] at hu
    obtain rfl := Option.some.inj hu
    exact hn _ (List.getElem_mem _) b hub
theorem Bags.newB {w : World} {base : Nat} {vs : List Value} {B : List (List Int)} (h : Bags w base vs B) : ∀ u ∈ vs, ∀ b, u.ownBlock = some b → base ≤ b := fun u hu b hb => by
  obtain ⟨i, hi⟩ := List.getElem?_of_mem hu
  have hil : i < B.length := by rw [← h.len]; exact (List.getElem?_eq_some_iff.1 hi).1
  exact (World.ownsRow.lt (h.row i u _ hi (List.getElem?_eq_getElem hil)) b hb).1
set_option maxRecDepth 100000 in
set_option maxHeartbeats 6400000 in
theorem rroundof_new (a1 a2 a3 : Option Addr) (c1 c2 c3 : Nat) (P : PP) (hv : Value) (has : List (List Int)) (w : World) (n0 : Nat) (h : ProgR w n0 (.slice a1 P.vars.length c1) (.slice a2 P.funs.length c2) (.slice a3 P.stmts.length c3) P) (hg : P.GoodS has) (hh : SetsR w n0 hv has) (hn0 : n0 ≤ w.heap.size) :
    Calls Tryz.prog 40 #[pval a1 a2 a3 c1 c2 c3 P, hv] w fun e w' => ∃ a c, e = .returned (.slice a has.length c) ∧ SetsR w' w'.heap.size (.slice a has.length c) (P.roundV has) ∧ NewS w' w.heap.size (.slice a has.length c) ∧ Ext w w' := by
  obtain ⟨ah, ch, rfl⟩ := hh.form
  have hhl := hh.len
  have Hg := hid hg
  have HA := hid (edgesL_are hg)
  have hEl := edgesL_len hg.1 has
  obtain ⟨hf1, hf2, hf3⟩ := hg.1.few
  have hN6 : has.length ≤ 120 := by have := nodesV_le P hg.1; have := hg.2.1; omega
  obtain ⟨W, hW⟩ : ∃ W, W = w.alloc (.cells (pcells a1 a2 a3 c1 c2 c3 P) 26) := ⟨_, rfl⟩
  have HX : Hid (Ext w W) := hid (by rw [hW]; exact (Ext.refl _).alloc _)
  have HBx : Hid (Blk W w.heap.size (pcells a1 a2 a3 c1 c2 c3 P) 26) := hid (by rw [hW]; exact Blk.new _ _ _)
  have HWe : Hid (W = w.alloc (.cells #[.slice a1 P.vars.length c1, .slice a2 P.funs.length c2, .slice a3 P.stmts.length c3] 26)) := hid (by rw [hW]; rfl)
  have HRu := fun k (hk : k < P.stmts.length) w1 (x : Ext w w1) => hid (rruleof_any a1 a2 a3 c1 c2 c3 P k _ (stAt_some hk) w1 n0 (h.ext x) hg.1)
  have HEo := fun w1 (x : Ext w w1) => hid (redgesof_any a1 a2 a3 c1 c2 c3 P (.slice ah has.length ch) has w1 n0 (h.ext x) hg.1 (hh.ext x) hg.2.1 (Nat.le_trans hn0 x.size))
  have HH := hid (hh.ext HX.out)
  have Hn0 := hid hn0
  obtain ⟨EL, hEL⟩ : ∃ EL, EL = P.edgesL has := ⟨_, rfl⟩
  have hEL' : P.refE has P.nodesV = EL := hEL.symm
  rw [hEL'] at HEo
  have Hel := hid hEL
  rw [← hEL] at HA hEl
  have Hvn := hid (nodes_vars P)
  unfold pval at HRu HEo ⊢
  clear h hg hh hW hn0 hEL hEL'
  go_enter Tryz.func40, Tryz.ntmps40
  go_wp2
  rw [← HWe.out]
  go_loopw [5, 6] (fun t5 t6 wr => ∃ (k : Nat) (vs : List Value), t6 = .int .i64 (k : Int) ∧ k ≤ has.length ∧ wr.ownsRow W.heap.size 43 1 t5 k vs ∧ Bags wr W.heap.size vs (has.take k) ∧ Ext W wr) (fun _ t6 _ => has.length - (intOf t6).toNat)
  case atStart => exact ⟨0, [], rfl, Nat.zero_le _, World.ownsRow_nil _ _ _ _, Bags.nil _ _, Ext.refl _⟩
  case round =>
    obtain ⟨k, vs, rfl, hk, hr, hb, hx⟩ := hrel
    obtain ⟨a5, c5, rfl⟩ := row_form hr
    have Hr := hid hr
    have Hb := hid hb
    have Hx := hid hx
    clear hr hb hx
    by_cases hlt : k < has.length
    · obtain ⟨y, l, bl, cl, hya, hl, hc, hI⟩ := (HH.out.ext Hx.out).at hlt
      subst hya
      have hlk := (Hg.out.ok.ok l (List.mem_of_getElem? hl)).1
      have hll := srt_few hlk
      have HIn := hid (hI.ints (fun i => by
        by_cases hi : i < l.length
        · have := (chkE_zero.1 hlk).1 (l.getD i 0) (by rw [List.getD_eq_getElem?_getD, List.getElem?_eq_getElem hi]; exact List.getElem_mem hi)
          omega
        · rw [List.getD_eq_getElem?_getD, List.getElem?_eq_none (by omega)]; decide))
      have Hl := hid hl
      clear hl hI hlk
      go_wp2_with (at_builtin; first
        | (refine wpList_append_ints wr.heap.size (Nat.le_refl _) rfl _ _ rfl (.slice none 0 0) [] rfl (World.ownsRow_nil _ _ _ _) bl l.length cl l rfl HIn.out (by simp; omega) ?_; intro v3 w3 h1 h2; have hx3 := grown_ext (Ext.refl wr) (World.ownsRow_nil wr wr.heap.size 3 1) h2; rw [List.nil_append] at h1; obtain ⟨a3', c3', rfl⟩ := h1.form; have Hx3 := hid hx3; have Hr3 := hid h1; have hxa : Hid (Ext W (w3.alloc (.cells #[.slice a3' l.length c3'] 43))) := hid ((Hx.out.trans Hx3.out).alloc _); have hx3a : Hid (Ext wr (w3.alloc (.cells #[.slice a3' l.length c3'] 43))) := hid (Hx3.out.alloc _); have Hra := hid (own_ext Hr.out hx3a.out); have Hba := hid ((Hb.out.push Hx3.out (own_low Hr3.out Hx.out.size) (fun b e => (World.ownsRow.lt Hr3.out b e).1)).ext ((Ext.refl w3).alloc (.cells #[.slice a3' l.length c3'] 43))); clear h1 h2 hx3)
        | (refine wpList_append_el W.heap.size hxa.out.size 32 43 (.slice none 0 0) 1 24 Tryz.underlying32 rows_info rfl (by omega) (by omega) rfl _ _ rfl (.slice a5 k c5) k vs rfl Hra.out w3.heap.size [.slice a3' l.length c3'] rfl (by simp [Value.oneCell']) rfl (Blk.new _ _ _) (by omega) ?_; intro v' w' h1 h2 h4; obtain ⟨a', c', rfl⟩ := row_form h1; have h3 := hid (Keep.new hxa.out h2 (fun k hk => (World.ownsRow.lt Hra.out k hk).1)); have hm5 := hid (Hba.out.keep h2 (fun b e => by obtain ⟨c, hc⟩ := own_ty Hra.out e; exact IsInt.not hc (by decide))); have h1 := hid h1; clear h2 h4))
      go_roundw
      case rel =>
        refine ⟨k + 1, _, by go_num, by omega, h1.out, ?_, h3.out⟩
        rw [List.take_add_one, Hl.out]
        exact hm5.out
      case measure => simp [intOf]; omega
    · obtain rfl : k = has.length := by omega
      rw [List.take_of_length_le (Nat.le_refl _)] at Hb
      clear hlt hk
      go_wp2
      go_loopw [8] (fun t8 wr => ∃ (k : Nat) (vs : List Value) (B : List (List Int)), t8 = .int .i64 (k : Int) ∧ k ≤ P.stmts.length ∧ BagAt P has EL k 0 B ∧ wr.ownsRow W.heap.size 43 1 (.slice a5 has.length c5) has.length vs ∧ Bags wr W.heap.size vs B ∧ Ext W wr) (fun t8 _ => P.stmts.length - (intOf t8).toNat)
      case atStart => exact ⟨0, vs, has, rfl, Nat.zero_le _, BagAt.start Hg.out EL, Hr.out, Hb.out, Hx.out⟩
      case round =>
        clear Hr Hb Hx
        obtain ⟨k, vs, B, rfl, hk, hba, hr, hb, hx⟩ := hrel
        have HBa := hid hba
        have Hr := hid hr
        have Hb := hid hb
        have Hx := hid hx
        have HBl := hid hba.len
        clear hba hr hb hx
        have d0 := (HBx.out.ext Hx.out).av 0 rfl
        have d1 := (HBx.out.ext Hx.out).av 1 rfl
        have d2 := (HBx.out.ext Hx.out).av 2 rfl
        simp only [pcells, qA0, qA1, qA2] at d0 d1 d2
        by_cases hlt : k < P.stmts.length
        · have HC := HRu k hlt wr (HX.out.trans Hx.out)
          obtain ⟨s1, s2, s3, _, _, _⟩ := rule_same (Hg.out.1.2 k (P.stAt k) hlt (stAt_some hlt)) k
          have hra := rule_a_in Hg.out.1 hlt
          rw [← s2] at hra
          have hrb := fun hb => base_b_in Hg.out.1 hlt hb
          rw [← s1, ← s3] at hrb
          have hob := objects_few Hg.out.1
          obtain ⟨r, hr⟩ : ∃ r, r = P.ruleR k (P.stAt k) := ⟨_, rfl⟩
          rw [← hr] at HC s1 s2 s3 hra hrb
          have Hs := hid (And.intro s1 (And.intro s2 s3))
          have Hra := hid hra
          have Hrb := hid hrb
          clear hr s1 s2 s3 hra hrb
          go_wp2_with fail
          refine HC.out.mono ?_
          intro e w2 hx
          obtain ⟨av, rfl, hI, hx2⟩ := hx
          obtain ⟨aa, ca, hav, _⟩ := id hI
          subst hav
          unfold RV.val
          obtain ⟨V, hV⟩ : ∃ V, V = w2.alloc (.cells #[.string r.kind, .int .i64 r.a, .int .i64 r.b, .int .i64 r.k, .slice aa r.args.length ca] 126) := ⟨_, rfl⟩
          have hxV : Ext w2 V := by rw [hV]; exact (Ext.refl _).alloc _
          have HBr : Hid (Blk V w2.heap.size #[.string r.kind, .int .i64 r.a, .int .i64 r.b, .int .i64 r.k, .slice aa r.args.length ca] 126) := hid (by rw [hV]; exact Blk.new _ _ _)
          have HVe := hid hV
          have HrV := hid (hx2.trans hxV)
          have HxV := hid (Hx.out.trans (hx2.trans hxV))
          clear HC hI hx2 hxV hV d0 d1 d2
          cases hkb : (r.kind.toList == [98, 97, 115, 101]) with
          | true =>
            have hkl : r.kind.toList = bBase.toList := (eq_of_beq hkb).trans (eq_of_beq bBase_list).symm
            have Hkb : Hid ((P.ruleV k (P.stAt k)).kind.toList = bBase.toList) := hid (by rw [← Hs.out.1]; exact hkl)
            have Hb01 : Hid (0 ≤ r.b ∧ r.b < 1000) := hid (by have := Hrb.out hkl; omega)
            obtain ⟨A, hA⟩ := Int.eq_ofNat_of_zero_le Hra.out.1
            have hAl : A < has.length := by have := Hra.out.2; have := Hvn.out; have := Hg.out.2.1; omega
            have hAB : A < B.length := by rw [HBl.out]; exact hAl
            have hAv : A < vs.length := by rw [Hb.out.len]; exact hAB
            obtain ⟨vA, hvA⟩ : ∃ vA, vs[A]? = some vA := ⟨_, List.getElem?_eq_getElem hAv⟩
            obtain ⟨lA, hlA⟩ : ∃ lA, lA = B.getD A [] := ⟨_, rfl⟩
            have hBA : B[A]? = some lA := by rw [hlA, List.getD_eq_getElem?_getD, List.getElem?_eq_getElem hAB]; rfl
            have hRowA := (Hb.out.ext HrV.out).row A vA lA hvA hBA
            obtain ⟨aA, cA, rfl⟩ := hRowA.form
            obtain ⟨g5, cp5, hge⟩ := own_some Hr.out (by omega)
            simp only [Value.slice.injEq] at hge
            obtain ⟨rfl, -, rfl⟩ := hge
            have hrV := own_ext Hr.out HrV.out
            obtain ⟨cc5, hb5, hg5⟩ := own_pos hrV
            have HfA : Hid (lA.length ≤ 500000) := hid (by have h1 := HBa.out.few A; rw [← hlA, cntE_zero] at h1; omega)
            have hn5 := own_not hRowA hb5 (by decide)
            have c0 : ∀ w1, Keep (fun q => (Value.slice aA lA.length cA).ownBlock = some q) V w1 → w1.cell? ⟨g5, A, none⟩ = some (.slice aA lA.length cA) := fun w1 k => k.cellx (own_get hrV A hvA) hn5
            have m1 := HBr.out.kc (X := fun q => (Value.slice aA lA.length cA).ownBlock = some q) (own_not hRowA HBr.out (by decide)) 1 rfl
            have m2 := HBr.out.kc (X := fun q => (Value.slice aA lA.length cA).ownBlock = some q) (own_not hRowA HBr.out (by decide)) 2 rfl
            have m0 := HBr.out.av 0 rfl
            simp only [qA0, qA1, qA2] at m0 m1 m2
            rw [HVe.out] at m0
            rw [hA] at m1
            have Hst := hid (BagAt.base HBa.out Hkb.out (by rw [← Hs.out.2.1]; exact hA) (by rw [← Hs.out.2.2]) Hb01.out hAl)
            obtain ⟨lB, hlB⟩ : ∃ lB, lB = lA ++ [r.b] := ⟨_, rfl⟩
            rw [← hlA, ← hlB] at Hst
            have HlB := hid hlB
            have HRowA := hid hRowA
            have HvA := hid hvA
            have HAv := hid hAv
            have Hn5 := hid hn5
            have HrowV := hid hrV
            have Hb5 := hid hb5
            have Hg5 := hid hg5
            clear hkl hA hvA hlA hBA hRowA hrV hb5 hg5 hn5 hlB
            go_wp2
            rw [← HVe.out]
            clear m0
            refine wp_flowT (fun q => (Value.slice aA lA.length cA).ownBlock = some q) (by kernel_rfl) (by kernel_rfl) ?_
            repeat (apply FlowT.d; (intro w1 hk; unfold does; go_simp; (try go_ints); (first | exact DetR.mk | (simp only [↓IntWalk.iteOmega, Oper.doesUpon_value]; exact DetR.mk) | (simp only [↓IntWalk.iteOmega]; go_simp; (try go_ints); exact DetR.mk))); simp only [Act.put, qS0, qS1, qS2])
            refine FlowT.s (fun v w' => (∃ b, v = .slice (some ⟨b, 0, none⟩) 1 1) ∧ (∀ b, v = .slice (some ⟨b, 0, none⟩) 1 1 → Blk w' b #[.int .i64 r.b] 3) ∧ Ext V w') 7 rfl (by kernel_rfl) (fun _ _ _ ⟨h1, h2, h3⟩ y => ⟨h1, fun b e => (h2 b e).ext y, h3.trans y⟩) (fun wa hC hk2 => ?_) ?_
            · unfold does
              go_simp
              exact ⟨hk2.alloc _, ⟨_, rfl⟩, fun b e => by
                obtain rfl : wa.heap.size = b := by simpa using e
                exact Blk.new _ _ _, hC.alloc _⟩
            rintro _ ⟨_, ⟨bq, rfl⟩, _, _⟩
            simp only [Act.put, qS0, qS1, qS2]
            refine FlowT.s (fun v w' => IRow W.heap.size w' v lB ∧ (∀ q, v.ownBlock = some q → (Value.slice aA lA.length cA).ownBlock = some q ∨ V.heap.size ≤ q)) 8 rfl (by kernel_rfl) (fun _ _ _ ⟨h1, h2⟩ y => ⟨own_ext h1 y, h2⟩) (fun wa hC hk2 => ?_) ?_
            · obtain ⟨_, hB, hxa⟩ := hC
              refine does_append_el W.heap.size (Nat.le_trans HxV.out.size hxa.size) 43 3 (.int .i64 0) 1 8 Tryz.underlying43 ints_info rfl (by omega) (by omega) rfl _ _ rfl (.slice aA lA.length cA) lA.length (icells lA) rfl (own_ext HRowA.out hxa) bq [.int .i64 r.b] rfl (by simp [Value.oneCell']) rfl (hB bq rfl) (by have := HfA.out; omega) (fun v' w' h1 h2 h4 => ?_)
              refine ⟨(hxa.keep _).trans h2, ?_, fun q hq => ?_⟩
              · rw [HlB.out]
                unfold IRow
                rw [List.length_append, icells_append]
                exact h1
              · rcases h4 with h | h
                · exact .inl (h ▸ hq)
                · rw [h] at hq
                  obtain rfl := Option.some.inj hq
                  exact .inr hxa.size
            rintro v3 ⟨w3', h3, _⟩
            obtain ⟨a3, c3, rfl⟩ := h3.form
            clear h3
            simp only [Act.put, qS0, qS1, qS2]
            repeat (apply FlowT.d; (intro w1 hk; unfold does; go_simp; (try go_ints); (first | exact DetR.mk | (simp only [↓IntWalk.iteOmega, Oper.doesUpon_value]; exact DetR.mk) | (simp only [↓IntWalk.iteOmega]; go_simp; (try go_ints); exact DetR.mk))); simp only [Act.put, qS0, qS1, qS2])
            refine FlowT.fin fun w6 hC hk6 => ?_
            obtain ⟨hr3, ho3⟩ := hC
            have hrow6 := row_keep HrowV.out hk6 (fun i hi => by obtain rfl := Option.some.inj hi; exact Hn5.out)
            obtain ⟨cc6, hb6, _⟩ := own_pos hrow6
            have z0 := c0 w6 hk6
            have f0 := own_free hrow6 A
            have n1 := m1 w6 hk6
            have Hbags := hid ((Hb.out.ext HrV.out).app HAv.out HvA.out hr3 hk6 ho3)
            have Hset := hid (own_set hrow6 A HAv.out (.slice a3 lB.length c3))
            have Hbs := hid (Hbags.out.keep (Keep.set (X := fun q => q = g5) (p := ⟨g5, A, none⟩) (Keep.refl _ w6) rfl (.slice a3 lB.length c3)) (fun b e => by rw [e]; exact IsInt.not hb6 (by decide)))
            have Hx6 : Hid (Ext W (w6.setCell ⟨g5, A, none⟩ (.slice a3 lB.length c3))) := hid (Keep.new HxV.out ((hk6.mono (Y := fun q => q = g5 ∨ (Value.slice aA lA.length cA).ownBlock = some q) fun _ _ h => .inr h).set (.inl rfl) _) (fun q h => by
              rcases h with h | h
              · rw [h]; exact Hg5.out
              · exact (World.ownsRow.lt HRowA.out q h).1))
            clear hr3 ho3 hrow6 hb6 hk6 c0 m1 m2 hkb
            go_wp2
            go_roundw
            case rel => exact ⟨k + 1, _, _, by go_num, by omega, Hst.out, Hset.out, Hbs.out, Hx6.out⟩
            case measure => simp [intOf]; omega
          | false =>
            have Hkb : Hid ((P.ruleV k (P.stAt k)).kind.toList ≠ bBase.toList) := hid (by
              rw [← Hs.out.1]
              intro h
              rw [h, bBase_list] at hkb
              cases hkb)
            have m0 := HBr.out.av 0 rfl
            simp only [qA0, qA1, qA2] at m0
            rw [HVe.out] at m0
            go_wp2
            rw [← HVe.out]
            go_roundw
            case rel => exact ⟨k + 1, vs, B, by go_num, by omega, HBa.out.skip Hkb.out, own_ext Hr.out HrV.out, Hb.out.ext HrV.out, HxV.out⟩
            case measure => simp [intOf]; omega
        · obtain rfl : k = P.stmts.length := by omega
          have HC := HEo wr (HX.out.trans Hx.out)
          clear HRu HEo
          go_wp2_with fail
          refine HC.out.mono ?_
          intro e w2 hx
          obtain ⟨v, rfl, hr, hx2⟩ := hx
          unfold RERow at hr
          obtain ⟨av, cv, rfl⟩ := row_form hr
          have HrE := hid (own_low hr (Nat.zero_le _))
          have HxB := hid (Hx.out.trans hx2)
          have HrB := hid (own_ext Hr.out hx2)
          have HbB := hid (Hb.out.ext hx2)
          have HHn := hid (show n0 ≤ W.heap.size from Nat.le_trans Hn0.out HX.out.size)
          clear HC hr hx2 d0 d1 d2 hlt hk
          go_wp2
          go_loopw [12] (fun t12 wr => ∃ (i : Nat) (vs : List Value) (B : List (List Int)), t12 = .int .i64 (i : Int) ∧ i ≤ EL.length ∧ BagAt P has EL P.stmts.length i B ∧ wr.ownsRow W.heap.size 43 1 (.slice a5 has.length c5) has.length vs ∧ Bags wr W.heap.size vs B ∧ wr.ownsRow 0 111 2 (.slice av EL.length cv) EL.length (EL.flatMap eCells) ∧ Ext W wr) (fun t12 _ => EL.length - (intOf t12).toNat)
          case atStart => exact ⟨0, vs, B, rfl, Nat.zero_le _, HBa.out, HrB.out, HbB.out, HrE.out, HxB.out⟩
          case round =>
            clear HrE HxB HrB HbB HBa Hr Hb Hx HBl
            obtain ⟨i, vs, B, rfl, hi, hba, hr, hb, hre, hx⟩ := hrel
            have HBa := hid hba
            have Hr := hid hr
            have Hb := hid hb
            have Hre := hid hre
            have Hx := hid hx
            have HBl := hid hba.len
            clear hba hr hb hre hx
            by_cases hil : i < EL.length
            · obtain ⟨g, cp, hge⟩ := own_some Hre.out (by omega)
              simp only [Value.slice.injEq] at hge
              obtain ⟨rfl, -, rfl⟩ := hge
              obtain ⟨⟨x, z⟩, hxk⟩ : ∃ x, EL[i]? = some x := ⟨_, List.getElem?_eq_getElem hil⟩
              obtain ⟨q0, q1⟩ := own_e2 Hre.out hxk
              have hin := edges0_in Hg.out.1 Hg.out.ok _ ((HA.out.mem _).1 (List.mem_of_getElem? hxk)).1
              unfold PP.InN at hin
              obtain ⟨i1, i2, i3, i4⟩ := hin
              simp only at i1 i2 i3 i4
              obtain ⟨A, rfl⟩ := Int.eq_ofNat_of_zero_le i1
              obtain ⟨Z, rfl⟩ := Int.eq_ofNat_of_zero_le i3
              have hAl : A < has.length := by have := Hg.out.2.1; omega
              have hZl : Z < has.length := by have := Hg.out.2.1; omega
              obtain ⟨y, l, bl, cl, hya, hl, hc, hI⟩ := HH.out.at hAl
              subst hya
              have hZB : Z < B.length := by rw [HBl.out]; exact hZl
              have hZv : Z < vs.length := by rw [Hb.out.len]; exact hZB
              obtain ⟨vZ, hvZ⟩ : ∃ vZ, vs[Z]? = some vZ := ⟨_, List.getElem?_eq_getElem hZv⟩
              obtain ⟨lZ, hlZ⟩ : ∃ lZ, lZ = B.getD Z [] := ⟨_, rfl⟩
              have hBZ : B[Z]? = some lZ := by rw [hlZ, List.getD_eq_getElem?_getD, List.getElem?_eq_getElem hZB]; rfl
              have hRowZ := Hb.out.row Z vZ lZ hvZ hBZ
              obtain ⟨aZ, cZ, rfl⟩ := hRowZ.form
              obtain ⟨g5, cp5, hge⟩ := own_some Hr.out (by omega)
              simp only [Value.slice.injEq] at hge
              obtain ⟨rfl, -, rfl⟩ := hge
              obtain ⟨cc5, hb5, hg5⟩ := own_pos Hr.out
              obtain ⟨cce, hbe, _⟩ := own_pos Hre.out
              have hn5 := own_not hRowZ hb5 (by decide)
              have hne := own_not hRowZ hbe (by decide)
              have hlow : ∀ q, (Value.slice aZ lZ.length cZ).ownBlock = some q → W.heap.size ≤ q := fun q e => (World.ownsRow.lt hRowZ q e).1
              have hlk := (Hg.out.ok.ok l (List.mem_of_getElem? hl)).1
              have hll := srt_few hlk
              have HfZ : Hid (lZ.length ≤ 500000) := hid (by
                have h1 := HBa.out.few Z
                have h2 := cntE_few (N := P.nodesV) HA.out.srt (fun e he => by
                  have := edges0_in Hg.out.1 Hg.out.ok _ ((HA.out.mem _).1 he).1
                  exact ⟨this.1, this.2.1⟩) i Z
                have h3 := nodesV_le P Hg.out.1
                rw [← hlZ] at h1
                omega)
              have c0 : ∀ w1, Keep (fun q => (Value.slice aZ lZ.length cZ).ownBlock = some q) wr w1 → w1.cell? ⟨g5, Z, none⟩ = some (.slice aZ lZ.length cZ) := fun w1 k => k.cellx (own_get Hr.out Z hvZ) hn5
              have j0 : ∀ w1, Keep (fun q => (Value.slice aZ lZ.length cZ).ownBlock = some q) wr w1 → w1.cell? ⟨g, i * 2, none⟩ = some (.int .i64 (A : Int)) := fun w1 k => k.cellx q0 hne
              have j1 : ∀ w1, Keep (fun q => (Value.slice aZ lZ.length cZ).ownBlock = some q) wr w1 → w1.cell? ⟨g, i * 2 + 1, none⟩ = some (.int .i64 (Z : Int)) := fun w1 k => k.cellx q1 hne
              have s0 : ∀ w1, Keep (fun q => (Value.slice aZ lZ.length cZ).ownBlock = some q) wr w1 → w1.cell? (y.add A) = some (.slice bl l.length cl) := fun w1 k => k.cellx (Hx.out.cellx hc) (fun e => by
                have h1 := cell_lt hc
                have h2 := hlow _ e
                omega)
              have HSrc : Hid (∀ w1, Keep (fun q => (Value.slice aZ lZ.length cZ).ownBlock = some q) wr w1 → Src w1 bl l.length 1 (icells l)) := hid fun w1 k => (hI.old ((Hx.out.old n0).trans (k.mono fun q _ e => Nat.le_trans HHn.out (hlow q e)))).src
              have HD1 : has.getD A [] = l := by rw [List.getD_eq_getElem?_getD, hl]; rfl
              obtain ⟨lB, hlB⟩ : ∃ lB, lB = lZ ++ l := ⟨_, rfl⟩
              have Hst := hid (BagAt.edge HBa.out hxk (fun l hl => (Hg.out.ok.ok l hl).1) hAl hZl)
              rw [← hlZ, HD1, ← hlB] at Hst
              have HlB := hid hlB
              have HRowZ := hid hRowZ
              have HvZ := hid hvZ
              have HZv := hid hZv
              have Hn5 := hid hn5
              have Hne := hid hne
              have Hg5 := hid hg5
              have Hlow := hid hlow
              clear hxk q0 q1 i1 i2 i3 i4 hl hc hI hZB hvZ hlZ hBZ hRowZ hb5 hg5 hbe hn5 hne hlow hlk HD1 hlB
              go_wp2
              refine wp_flowT (fun q => (Value.slice aZ lZ.length cZ).ownBlock = some q) (by kernel_rfl) (by kernel_rfl) ?_
              repeat (apply FlowT.d; (intro w1 hk; unfold does; go_simp; (try go_ints); (first | exact DetR.mk | (simp only [↓IntWalk.iteOmega, Oper.doesUpon_value]; exact DetR.mk) | (simp only [↓IntWalk.iteOmega]; go_simp; (try go_ints); exact DetR.mk))); simp only [Act.put, qS0, qS1, qS2])
              refine FlowT.s (fun v w' => IRow W.heap.size w' v lB ∧ (∀ q, v.ownBlock = some q → (Value.slice aZ lZ.length cZ).ownBlock = some q ∨ wr.heap.size ≤ q)) 16 rfl (by kernel_rfl) (fun _ _ _ ⟨h1, h2⟩ y => ⟨own_ext h1 y, h2⟩) (fun wa hC hk2 => ?_) ?_
              · refine does_append_src4 W.heap.size (Nat.le_trans Hx.out.size hk2.size) 43 3 (.int .i64 0) 1 8 Tryz.underlying43 ints_info rfl (by omega) (by omega) rfl _ _ rfl (.slice aZ lZ.length cZ) lZ.length (icells lZ) rfl (own_ext HRowZ.out hC) bl l.length cl (icells l) rfl (HSrc.out wa hk2) (by have := HfZ.out; omega) (fun v' w' h1 h2 h4 => ?_)
                refine ⟨hk2.trans h2, ?_, fun q hq => ?_⟩
                · rw [HlB.out]
                  unfold IRow
                  rw [List.length_append, icells_append]
                  exact h1
                · rcases h4 q hq with h | h
                  · exact .inl h
                  · exact .inr (Nat.le_trans hk2.size h)
              rintro v3 ⟨w3', h3, _⟩
              obtain ⟨a3, c3, rfl⟩ := h3.form
              clear h3
              simp only [Act.put, qS0, qS1, qS2]
              repeat (apply FlowT.d; (intro w1 hk; unfold does; go_simp; (try go_ints); (first | exact DetR.mk | (simp only [↓IntWalk.iteOmega, Oper.doesUpon_value]; exact DetR.mk) | (simp only [↓IntWalk.iteOmega]; go_simp; (try go_ints); exact DetR.mk))); simp only [Act.put, qS0, qS1, qS2])
              refine FlowT.fin fun w6 hC hk6 => ?_
              obtain ⟨hr3, ho3⟩ := hC
              have hrow6 := row_keep Hr.out hk6 (fun i hi => by obtain rfl := Option.some.inj hi; exact Hn5.out)
              have hre6 := row_keep Hre.out hk6 (fun i hi => by obtain rfl := Option.some.inj hi; exact Hne.out)
              obtain ⟨cc6, hb6, _⟩ := own_pos hrow6
              have z0 := c0 w6 hk6
              have f0 := own_free hrow6 Z
              have n0' := j0 w6 hk6
              have n1 := j1 w6 hk6
              have Hbags := hid (Hb.out.app HZv.out HvZ.out hr3 hk6 ho3)
              have Hset := hid (own_set hrow6 Z HZv.out (.slice a3 lB.length c3))
              have Hbs := hid (Hbags.out.keep (Keep.set (X := fun q => q = g5) (p := ⟨g5, Z, none⟩) (Keep.refl _ w6) rfl (.slice a3 lB.length c3)) (fun b e => by rw [e]; exact IsInt.not hb6 (by decide)))
              have Hre7 := hid (row_keep hre6 (Keep.set (X := fun q => q = g5) (p := ⟨g5, Z, none⟩) (Keep.refl _ w6) rfl (.slice a3 lB.length c3)) (fun q hq e => own_not hre6 hb6 (by decide) (by rw [hq, e])))
              have Hx6 : Hid (Ext W (w6.setCell ⟨g5, Z, none⟩ (.slice a3 lB.length c3))) := hid (Keep.new Hx.out ((hk6.mono (Y := fun q => q = g5 ∨ (Value.slice aZ lZ.length cZ).ownBlock = some q) fun _ _ h => .inr h).set (.inl rfl) _) (fun q h => by
                rcases h with h | h
                · rw [h]; exact Hg5.out
                · exact Hlow.out q h))
              clear hr3 ho3 hrow6 hre6 hb6 hk6 c0 j0 j1 s0
              go_wp2
              go_roundw
              case rel => exact ⟨i + 1, _, _, by go_num, by omega, Hst.out, Hset.out, Hbs.out, Hre7.out, Hx6.out⟩
              case measure => simp [intOf]; omega
            · obtain rfl : i = EL.length := by omega
              have HDone := hid (BagAt.done Hg.out (B := B) (by rw [← Hel.out]; exact HBa.out))
              have HInr : Hid (∀ l ∈ B, InR l) := hid fun l hl => HBa.out.inr hl
              have HMd := hid Hb.out.made
              have HNb := hid Hb.out.newB
              clear hil hi
              go_wp2
              go_loopw [14] (fun t14 wr => ∃ (i : Nat) (vs : List Value) (L : List (List Int)), t14 = .int .i64 (i : Int) ∧ i ≤ has.length ∧ L.length = has.length ∧ (∀ j, j < i → L[j]? = (B.map sset)[j]?) ∧ (∀ j, i ≤ j → L[j]? = B[j]?) ∧ wr.ownsRow W.heap.size 43 1 (.slice a5 has.length c5) has.length vs ∧ Made wr vs L ∧ (∀ u ∈ vs, ∀ b, u.ownBlock = some b → W.heap.size ≤ b) ∧ Ext W wr) (fun t14 _ => has.length - (intOf t14).toNat)
              case atStart => exact ⟨0, vs, B, rfl, Nat.zero_le _, HBl.out, fun j h => by omega, fun _ _ => rfl, Hr.out, HMd.out, HNb.out, Hx.out⟩
              case round =>
                clear Hr Hb Hre Hx HMd HNb
                obtain ⟨i, vs, L, rfl, hi, hL, h1, h2, hr, hm, hnb, hx⟩ := hrel
                have HNb := hid hnb
                clear hnb
                have HL := hid hL
                have H1 := hid h1
                have H2 := hid h2
                have Hr := hid hr
                have Hm := hid hm
                have Hx := hid hx
                clear hL h1 h2 hr hm hx
                by_cases hil : i < has.length
                · obtain ⟨g5, cp5, hge⟩ := own_some Hr.out (by omega)
                  simp only [Value.slice.injEq] at hge
                  obtain ⟨rfl, -, rfl⟩ := hge
                  obtain ⟨al, cl, hcl, hIl⟩ := Made.one Hr.out Hm.out HL.out hil
                  obtain ⟨l, hl⟩ : ∃ l, l = L.getD i [] := ⟨_, rfl⟩
                  rw [← hl] at hcl hIl
                  have hBi : B[i]? = some l := by
                    rw [← H2.out i (Nat.le_refl _), hl, List.getD_eq_getElem?_getD, List.getElem?_eq_getElem (by rw [HL.out]; exact hil)]
                    rfl
                  obtain ⟨lS, hlS⟩ : ∃ lS, lS = sset l := ⟨_, rfl⟩
                  have HC := hid (rsetof_any (.slice al l.length cl) l wr wr.heap.size hIl (HInr.out l (List.mem_of_getElem? hBi)))
                  rw [← hlS] at HC
                  have HBi := hid hBi
                  have HlS := hid hlS
                  clear hl hIl hBi hlS
                  go_wp2_with fail
                  refine HC.out.mono ?_
                  intro e w2 hx
                  obtain ⟨v', rfl, hx2, hr2⟩ := hx
                  obtain ⟨a3, c3, rfl⟩ := hr2.form
                  have hrow := own_ext Hr.out hx2
                  obtain ⟨p1, p2, p3⟩ := Made.put hrow (Hm.out.ext hx2) HL.out (IntsT.row hr2) hil
                  obtain ⟨u, hu⟩ : ∃ u, vs[i]? = some u := ⟨_, List.getElem?_eq_getElem (by rw [Hm.out.1, HL.out]; exact hil)⟩
                  have z0 := own_get hrow i hu
                  have f0 := own_free hrow i
                  obtain ⟨_, _, hbase⟩ := own_pos hrow
                  have P1 := hid p1
                  have P2 := hid p2
                  have HNn : Hid (∀ u ∈ vs.set i (.slice a3 lS.length c3), ∀ b, u.ownBlock = some b → W.heap.size ≤ b) := hid fun u hu b hb => by
                    rcases List.mem_or_eq_of_mem_set hu with hu | rfl
                    · exact HNb.out u hu b hb
                    · exact Nat.le_trans Hx.out.size (hr2.lt hb).1
                  have Hxx := hid (Keep.new (Hx.out.trans hx2) p3 fun b e => by rw [e]; exact hbase)
                  clear HC hx2 hr2 hrow p1 p2 p3 hu hbase hcl
                  go_wp2
                  go_roundw
                  case rel =>
                    refine ⟨i + 1, _, L.set i lS, by go_num, by omega, by rw [List.length_set]; exact HL.out, fun j hj => ?_, fun j hj => ?_, P1.out, P2.out, HNn.out, Hxx.out⟩
                    · by_cases hji : i = j
                      · subst hji
                        rw [List.getElem?_set_self (by rw [HL.out]; exact hil), List.getElem?_map, HBi.out, HlS.out]
                        rfl
                      · rw [List.getElem?_set_ne hji]
                        exact H1.out j (by omega)
                    · rw [List.getElem?_set_ne (by omega)]
                      exact H2.out j (by omega)
                  case measure => simp [intOf]; omega
                · obtain rfl : i = has.length := by omega
                  have hLr : L = P.roundV has := by
                    rw [← HDone.out]
                    refine List.ext_getElem? fun j => ?_
                    by_cases hj : j < has.length
                    · exact H1.out j hj
                    · rw [List.getElem?_eq_none (by rw [HL.out]; omega), List.getElem?_eq_none (by rw [List.length_map, HBl.out]; omega)]
                  have hs := SetsR.made (L := P.roundV has) (by rw [roundV_len]; exact Hr.out) (by rw [← hLr]; exact Hm.out)
                  have Hs := hid hs
                  have HNs := hid ((NewS.made Hr.out HNb.out).low HX.out.size)
                  clear hs hLr hil hi
                  go_wp2
                  go_ret
                  exact ⟨_, _, rfl, Hs.out, HNs.out, HX.out.trans Hx.out⟩
set_option maxRecDepth 100000 in
set_option maxHeartbeats 3200000 in
theorem rleastof_new (a1 a2 a3 : Option Addr) (c1 c2 c3 : Nat) (P : PP) (w : World) (h : ProgR w w.heap.size (.slice a1 P.vars.length c1) (.slice a2 P.funs.length c2) (.slice a3 P.stmts.length c3) P) (hw : P.Well) (n : Nat) (S : List (List Int)) (hL : LeastAt P n S) :
    Calls Tryz.prog 10 #[pval a1 a2 a3 c1 c2 c3 P] w fun e w' => ∃ a c, e = .returned (.tuple #[.slice a P.nodesV c, .int .i64 (n : Int)]) ∧ SetsR w' w'.heap.size (.slice a P.nodesV c) S ∧ NewS w' w.heap.size (.slice a P.nodesV c) ∧ Ext w w' := by
  have Hw := hid hw
  have HLe := hid hL
  have hn12 := hL.few hw
  obtain ⟨hf1, hf2, hf3⟩ := hw.few
  obtain ⟨W, hW⟩ : ∃ W, W = w.alloc (.cells (pcells a1 a2 a3 c1 c2 c3 P) 26) := ⟨_, rfl⟩
  have HX : Hid (Ext w W) := hid (by rw [hW]; exact (Ext.refl _).alloc _)
  have HBx : Hid (Blk W w.heap.size (pcells a1 a2 a3 c1 c2 c3 P) 26) := hid (by rw [hW]; exact Blk.new _ _ _)
  have HWe : Hid (W = w.alloc (.cells #[.slice a1 P.vars.length c1, .slice a2 P.funs.length c2, .slice a3 P.stmts.length c3] 26)) := hid (by rw [hW]; rfl)
  have HNo := fun w1 (x : Ext w w1) => hid (rnodesof_any a1 a2 a3 c1 c2 c3 P w1 w.heap.size (h.ext x) (by omega) (by omega))
  have HPR := hid h
  have hN6 := nodesV_le P hw
  have HRo := fun w1 (x : Ext w w1) hv has (hh : SetsR w1 w1.heap.size hv has) (hg : P.GoodS has) => hid (rroundof_new a1 a2 a3 c1 c2 c3 P hv has w1 w1.heap.size ((HPR.out.ext x).lift x.size) hg hh (Nat.le_refl _))
  have HGd := fun k => hid (iterV_good hw k)
  obtain ⟨N, hN⟩ : ∃ N, N = P.nodesV := ⟨_, rfl⟩
  rw [← hN] at HNo hN6 ⊢
  have HN := hid hN
  have d0 := HBx.out.av 0 rfl
  have d1 := HBx.out.av 1 rfl
  have d2 := HBx.out.av 2 rfl
  simp only [pcells, qA0, qA1, qA2] at d0 d1 d2
  rw [HWe.out] at d0 d1 d2
  unfold pval at HNo HRo ⊢
  have HN1 := HNo W HX.out
  clear hW h hw hL hN HNo
  go_enter Tryz.func10, Tryz.ntmps10
  go_wp2_with fail
  rw [← HWe.out]
  refine HN1.out.mono ?_
  intro e w2 hx
  obtain ⟨rfl, hx2⟩ := hx
  have Hx2 := hid hx2
  obtain ⟨bi, hbi, hbz, hbs, hbb⟩ := info_parts rows_info
  clear HN1 hx2 d0 d1 d2
  go_wp2_with (at_make; refine wpList_make_full w2 rfl _ _ _ rfl w2.heap.size 43 bi (.slice none 0 0) 1 Tryz.underlying32 hbi hbz hbs .i64 .i64 (N : Int) (N : Int) N rfl rfl rfl rfl (by rw [hbb]; omega) (by unfold maxLen; omega) (Nat.le_refl _) ?_; intro w3 hrow hgr)
  have hx3 : Ext w2 w3 := Keep.new (Ext.refl w2) (grown_keep hgr) (fun k hk => by cases hk)
  rw [show (Value.slice none 0 0).cells = #[Value.slice none 0 0] from rfl, toList_madeCells_one, Nat.mul_one] at hrow
  have Hx3 := hid (Hx2.out.trans hx3)
  have HS0 : Hid (SetsR w3 w3.heap.size (.slice (some ⟨w2.heap.size, 0, none⟩) N N) (P.iterV 0)) := hid (by
    have h1 := SetsR.made (v := .slice (some ⟨w2.heap.size, 0, none⟩) N N) (L := List.replicate N []) (by rw [List.length_replicate]; exact hrow) (made_nil w3 N)
    have e0 : P.iterV 0 = List.replicate N [] := by rw [HN.out]; rfl
    exact e0 ▸ h1)
  have HN0 := hid ((NewS.made hrow fun u hu b hb => by rw [List.eq_of_mem_replicate hu] at hb; cases hb).low (Nat.le_trans HX.out.size Hx2.out.size))
  clear hrow hgr hx3 hbi hbz hbs hbb
  go_wp2
  go_loopw [4, 5] (fun t6 t7 wr => ∃ (k : Nat) (a : Option Addr) (c : Nat), t7 = .int .i64 (k : Int) ∧ t6 = .slice a N c ∧ k ≤ n ∧ SetsR wr wr.heap.size (.slice a N c) (P.iterV k) ∧ NewS wr w.heap.size (.slice a N c) ∧ Ext W wr) (fun _ t7 _ => 200000 - (intOf t7).toNat)
  case atStart => exact ⟨0, _, _, rfl, rfl, Nat.zero_le _, HS0.out, HN0.out, Hx3.out⟩
  case round =>
    clear HS0 Hx3 HN0
    obtain ⟨k, a, c, rfl, rfl, hk, hs, hnn, hx⟩ := hrel
    have Hnn := hid hnn
    clear hnn
    have Hx := hid hx
    have Hs := hid hs
    have hlen : (P.iterV k).length = N := by rw [HN.out]; exact (HGd k).out.2.1
    have HC := HRo wr (HX.out.trans hx) (.slice a N c) (P.iterV k) hs (HGd k).out
    have d0 := (HBx.out.ext hx).av 0 rfl
    have d1 := (HBx.out.ext hx).av 1 rfl
    have d2 := (HBx.out.ext hx).av 2 rfl
    simp only [pcells, qA0, qA1, qA2] at d0 d1 d2
    rw [hlen] at HC
    clear hs hx hlen HRo
    go_wp2_with fail
    refine HC.out.mono ?_
    intro e w5 hx
    obtain ⟨a5, c5, rfl, hs5, hn5, hx5⟩ := hx
    have Hn5 := hid (hn5.low (Nat.le_trans HX.out.size Hx.out.size))
    have Hno := hid (Hnn.out.ext Hs.out hx5)
    clear hn5
    have Hx5 := hid (Hx.out.trans hx5)
    have Hs5 := hid hs5
    have Hso := hid ((Hs.out.ext hx5).lift hx5.size)
    have HSm := hid (samesets_any (.slice a5 N c5) (.slice a N c) (P.roundV (P.iterV k)) (P.iterV k) w5 w5.heap.size hs5 ((Hs.out.ext hx5).lift hx5.size) (fun l hl => ((HGd (k + 1)).out.ok.ok l hl).1) (fun l hl => ((HGd k).out.ok.ok l hl).1))
    obtain ⟨d, hd⟩ : ∃ d, d = decide (P.roundV (P.iterV k) = P.iterV k) := ⟨_, rfl⟩
    rw [← hd] at HSm
    have Hd := hid hd
    clear HC hs5 hx5 d0 d1 d2 hd
    go_wp2_with fail
    refine HSm.out.mono ?_
    intro e w6 hx
    obtain ⟨rfl, hx6⟩ := hx
    have Hx6 := hid (Hx5.out.trans hx6)
    have Hs6 := hid ((Hs5.out.ext hx6).lift hx6.size)
    have Hso6 := hid ((Hso.out.ext hx6).lift hx6.size)
    have Hn6 := hid (Hn5.out.ext Hs5.out hx6)
    have Hno6 := hid (Hno.out.ext Hso.out hx6)
    clear HSm
    cases d with
    | true =>
      have hfix : P.roundV (P.iterV k) = P.iterV k := of_decide_eq_true Hd.out.symm
      have hkn : k = n := by
        rcases Nat.lt_or_ge k n with g | g
        · exact absurd hfix (HLe.out.first k g)
        · omega
      subst hkn
      have HF : Hid (SetsR w6 w6.heap.size (.slice a N c) S) := hid (by
        rw [HLe.out.eq]
        exact Hso6.out)
      clear hx6 hfix
      go_wp2
      refine bodyPost_ret (v := .tuple #[.slice a N c, .int .i64 (k : Int)]) (by simp [results, Tryz.results10, go_sem]) rfl ?_
      exact ⟨a, c, rfl, HF.out, Hno6.out, HX.out.trans Hx6.out⟩
    | false =>
      have hne : P.roundV (P.iterV k) ≠ P.iterV k := of_decide_eq_false Hd.out.symm
      have hkn : k < n := by
        rcases Nat.lt_or_ge k n with g | g
        · exact g
        · obtain rfl : k = n := by omega
          exact absurd (by rw [← HLe.out.eq]; exact HLe.out.fix) hne
      have Hs7 : Hid (SetsR w6 w6.heap.size (.slice a5 N c5) (P.iterV (k + 1))) := hid Hs6.out
      clear hx6 hne
      go_wp2
      go_roundw
      case rel => exact ⟨k + 1, a5, c5, by go_num, rfl, by omega, Hs7.out, Hn6.out, Hx6.out⟩
      case measure => simp [intOf]; omega
theorem rleastof_any (a1 a2 a3 : Option Addr) (c1 c2 c3 : Nat) (P : PP) (w : World) (h : ProgR w w.heap.size (.slice a1 P.vars.length c1) (.slice a2 P.funs.length c2) (.slice a3 P.stmts.length c3) P) (hw : P.Well) (n : Nat) (S : List (List Int)) (hL : LeastAt P n S) :
    Calls Tryz.prog 10 #[pval a1 a2 a3 c1 c2 c3 P] w fun e w' => ∃ a c, e = .returned (.tuple #[.slice a P.nodesV c, .int .i64 (n : Int)]) ∧ SetsR w' w'.heap.size (.slice a P.nodesV c) S ∧ Ext w w' :=
  (rleastof_new a1 a2 a3 c1 c2 c3 P w h hw n S hL).mono fun _ _ ⟨a, c, h1, h2, _, h3⟩ => ⟨a, c, h1, h2, h3⟩
def SFaultIs (P : PP) (has : List (List Int)) (c : Nat) (p : Int) : Prop :=
  (has.length ≠ P.nodesV ∧ c = 3 ∧ p = -1) ∨ (has.length = P.nodesV ∧ (∀ l ∈ has, P.setE l = 0) ∧ c = 0 ∧ p = -1) ∨
  (has.length = P.nodesV ∧ ∃ (i : Nat) (l : List Int), has[i]? = some l ∧ P.setE l ≠ 0 ∧ (∀ j m, j < i → has[j]? = some m → P.setE m = 0) ∧ c = P.setE l ∧ p = (i : Int))
theorem setE_two {P : PP} {l : List Int} (h : chkE l = 0) {x : Int} (hx : x ∈ l) (hm : (P.objectsV : Int) ≤ x) : P.setE l = 2 := by
  have h0 : P.setE l ≠ 0 := fun e => by have := (setE_zero e).2 x hx; omega
  unfold PP.setE at h0 ⊢
  rw [if_pos h] at h0 ⊢
  by_cases hb : 0 < l.length ∧ (P.objectsV : Int) ≤ l.getD (l.length - 1) 0
  · rw [if_pos hb]
  · rw [if_neg hb] at h0; exact absurd rfl h0
theorem setE_chk {P : PP} {l : List Int} (h : chkE l ≠ 0) : P.setE l = chkE l := by unfold PP.setE; rw [if_neg h]
def SStep (P : PP) (l : List Int) (k e : Nat) : Prop := (e = chkE l ∧ chkE l ≠ 0 ∧ k = 0) ∨ (chkE l = 0 ∧ ((e = 0 ∧ ∀ x ∈ l.take k, x < (P.objectsV : Int)) ∨ (e = 2 ∧ ∃ x ∈ l, (P.objectsV : Int) ≤ x)))
theorem SStep.end {P : PP} {l : List Int} {k e : Nat} (h : SStep P l k e) (hk : e ≠ 0 ∨ k = l.length) : P.setE l = e := by
  rcases h with ⟨rfl, h2, _⟩ | ⟨h1, ⟨rfl, h3⟩ | ⟨rfl, x, hx, hm⟩⟩
  · exact setE_chk h2
  · rcases hk with hk | hk
    · exact absurd rfl hk
    · refine setE_of h1 fun x hx => h3 x ?_
      rw [hk, List.take_length]; exact hx
  · exact setE_two h1 hx hm
section
variable {P : Program} {ops : Array Oper} {X : Nat → Prop} {w0 : World} {Q : Act → World → Prop} {L : List Nat}
end
def IntsNew (W : World) (l : List Int) (v : Value) (w : World) : Prop := (∃ a n c, v = .slice a n c) ∧ IntsR w w.heap.size v l ∧ Ext W w
theorem IntsNew.ext {W w w' : World} {l : List Int} {v : Value} (h : IntsNew W l v w) (x : Ext w w') : IntsNew W l v w' := ⟨h.1, ElR.lift (h.2.1.old (x.old _)) x.size, h.2.2.trans x⟩
def RunNew (W : World) (P : PP) (l : List Int) (t : Value) (w : World) : Prop := (∃ a1 n1 c1 a2 n2 c2 a3 n3 c3 ev, t = .tuple #[.agg #[.slice a1 n1 c1, .slice a2 n2 c2, .slice a3 n3 c3], ev] ∧ RunOut P l W.heap.size w (.agg #[.slice a1 n1 c1, .slice a2 n2 c2, .slice a3 n3 c3]) ev) ∧ Ext W w
theorem RunNew.ext {W w w' : World} {P : PP} {l : List Int} {t : Value} (h : RunNew W P l t w) (x : Ext w w') : RunNew W P l t w' := by
  obtain ⟨⟨a1, n1, c1, a2, n2, c2, a3, n3, c3, ev, h1, h2⟩, h3⟩ := h
  exact ⟨⟨a1, n1, c1, a2, n2, c2, a3, n3, c3, ev, h1, h2.ext x⟩, h3.trans x⟩
def tup0 : Value → Value
  | .tuple cs => cs.getD 0 undef
  | _ => undef
def tup1 : Value → Value
  | .tuple cs => cs.getD 1 undef
  | _ => undef
def IsTup (t : Value) : Prop := ∃ u v, t = .tuple #[u, v]
theorem ErrIs.ext {ad : Nat → Addr} {P : PP} {w w' : World} {v : Value} (h : ErrIs ad P w v) (x : Ext w w') : ErrIs ad P w' v := by
  rcases h with h | h | ⟨h1, i, s, b, h2, h3, h4⟩
  · exact .inl h
  · exact .inr (.inl h)
  · exact .inr (.inr ⟨h1, i, s, b, h2, h3, h4.ext x⟩)
theorem RunNo.ext {ad : Nat → Addr} {P : PP} {l : List Int} {w w' : World} {v : Value} (h : RunNo ad P l w v) (x : Ext w w') : RunNo ad P l w' v := by
  rcases h with ⟨h1, h2⟩ | h | ⟨h1, h2, h3, i, b, h4, h5, h6⟩
  · exact .inl ⟨h1, h2.ext x⟩
  · exact .inr (.inl h)
  · exact .inr (.inr ⟨h1, h2, h3, i, b, h4, h5, h6.ext x⟩)
theorem FaultIs.zero {P : PP} {p : Int} (h : FaultIs P 0 p) : P.err1 = 0 ∧ P.allWell ∧ p = -1 := by
  rcases h with ⟨h1, h2, _⟩ | ⟨h1, h2, _, h4⟩ | ⟨h1, i, s, h2, h3, _⟩
  · exact absurd h2.symm h1
  · exact ⟨h1, h2, h4⟩
  · exact absurd h3.symm h2.2.1
theorem any_noU {α : Type} {l : List α} {p : α → Bool} (h : ∀ j f, j < l.length → l[j]? = some f → p f = false) : l.any p = false := List.any_eq_false.2 fun f hf => by
  obtain ⟨j, hj, e⟩ := List.mem_iff_getElem.1 hf
  rw [h j f hj (by rw [List.getElem?_eq_getElem hj, e])]
  decide
theorem StrsR.atU {w : World} {n0 : Nat} {a : Option Addr} {n cap : Nat} {l : List ByteArray} (h : StrsR w n0 (.slice a n cap) l) {k : Nat} (hk : k < l.length) : ∃ y q, a = some y ∧ l[k]? = some q ∧ w.cell? (y.add k) = some (.string q) := by
  obtain ⟨a', cap', h1, h2, h3, h4, h5⟩ := h
  obtain ⟨rfl, rfl, rfl⟩ : a = a' ∧ n = l.length ∧ cap = cap' := by simpa using h1
  obtain ⟨y, rfl⟩ := h4 (by omega)
  have hx : l[k]? = some (l[k]'hk) := List.getElem?_eq_getElem hk
  exact ⟨y, _, rfl, hx, (h5 y rfl (by omega)).2 k hk _ hx⟩
set_option maxRecDepth 100000 in
set_option maxHeartbeats 25600000 in
theorem rfprog_big (a1 a2 a3 : Option Addr) (c1 c2 c3 : Nat) (P : PP) (w : World) (h : ProgR w w.heap.size (.slice a1 P.vars.length c1) (.slice a2 P.funs.length c2) (.slice a3 P.stmts.length c3) P)
    (hz1 : ∀ s ∈ P.vars, s.size ≤ 1000000) (hz2 : ∀ s ∈ P.names, s.size ≤ 1000000) (hb : P.big = true) :
    Calls Tryz.prog 9 #[pval a1 a2 a3 c1 c2 c3 P] w fun e w' => Ext w w' ∧ ∃ (c : Nat) (p : Int), e = .returned (.agg #[.int .i64 (c : Int), .int .i64 p]) ∧ FaultIs P c p := by
  have HP0 := hid h
  have Hz1 := hid hz1
  have Hz2 := hid hz2
  have hml1 : (P.vars.length : Int) ≤ 9223372036854775807 := by
    obtain ⟨_, _, _, h2, h3, _⟩ := h.vars
    omega
  have hml2 := h.funs.len
  have hml3 := h.stmts.len
  obtain ⟨W2, hW2⟩ : ∃ W2, W2 = (w.alloc (.cells (pcells a1 a2 a3 c1 c2 c3 P) 26)).alloc (.cells #[.int .i64 0, .int .i64 0] 30) := ⟨_, rfl⟩
  have HW2 : Hid (Ext w W2) := hid (by rw [hW2]; exact ((Ext.refl _).alloc _).alloc _)
  have HB1 : Hid (Blk W2 w.heap.size (pcells a1 a2 a3 c1 c2 c3 P) 26) := hid (by rw [hW2]; exact (Blk.new _ _ _).alloc _)
  have HB2 : Hid (Blk W2 (w.heap.size + 1) #[.int .i64 0, .int .i64 0] 30) := hid (by
    rw [hW2]
    have := Blk.new (w.alloc (.cells (pcells a1 a2 a3 c1 c2 c3 P) 26)) #[.int .i64 0, .int .i64 0] 30
    rwa [heap_size_alloc] at this)
  have HP := hid (h.ext HW2.out)
  have HBa := fun (c : Nat) w1 => hid (rbare_any (c : Int) w1)
  unfold pcells at hW2
  have HWe := hid hW2
  clear h hW2 hz1 hz2
  unfold pval
  go_enter Tryz.func9, Tryz.ntmps9
  have Hf : Hid (FaultIs P 8 (-1)) := hid (by
    have h : P.err1 = 8 := by unfold PP.err1; rw [hb]; rfl
    exact .inl ⟨by rw [h]; decide, h.symm, rfl⟩)
  have hbb := hb
  unfold PP.big at hbb
  simp only [Bool.or_eq_true, decide_eq_true_eq] at hbb
  clear hb
  by_cases b1 : 40 < P.vars.length
  · clear hbb
    go_wp2_with fail
    rw [← HWe.out]
    refine (HBa 8 _).out.mono ?_
    intro e w8 hx8
    obtain ⟨rfl, hx8⟩ := hx8
    have HB8 := HB2.out.ext hx8
    have z0 := HB8.av 0 rfl
    have z1 := HB8.av 1 rfl
    have f0 := HB8.free 0
    have f1 := HB8.free 1
    have HBz := hid (two (v0 := (.int .i64 ((8 : Nat) : Int))) (v1 := (.int .i64 (-1))) HB8)
    have HKz := hid (two_keep w8 (w.heap.size + 1) (.int .i64 ((8 : Nat) : Int)) (.int .i64 (-1)))
    have hE := hid (Keep.new (HW2.out.trans hx8) HKz.out fun b hb => by omega)
    clear HB8
    go_wp2
    have c0 := HBz.out.av 0 rfl
    have c1' := HBz.out.av 1 rfl
    generalize ((w8.setCell ⟨w.heap.size + 1, 0, none⟩ (.int .i64 ((8 : Nat) : Int))).setCell ⟨w.heap.size + 1, 1, none⟩ (.int .i64 (-1))) = W10 at *
    exact bodyPost_ret (v := .agg #[(.int .i64 ((8 : Nat) : Int)), (.int .i64 (-1))]) (by simp [results, Tryz.results9, go_sem, c0, c1']) rfl ⟨hE.out, _, _, rfl, Hf.out⟩
  · by_cases b2 : 6 < P.funs.length
    · clear hbb
      go_wp2_with fail
      rw [← HWe.out]
      refine (HBa 8 _).out.mono ?_
      intro e w8 hx8
      obtain ⟨rfl, hx8⟩ := hx8
      have HB8 := HB2.out.ext hx8
      have z0 := HB8.av 0 rfl
      have z1 := HB8.av 1 rfl
      have f0 := HB8.free 0
      have f1 := HB8.free 1
      have HBz := hid (two (v0 := (.int .i64 ((8 : Nat) : Int))) (v1 := (.int .i64 (-1))) HB8)
      have HKz := hid (two_keep w8 (w.heap.size + 1) (.int .i64 ((8 : Nat) : Int)) (.int .i64 (-1)))
      have hE := hid (Keep.new (HW2.out.trans hx8) HKz.out fun b hb => by omega)
      clear HB8
      go_wp2
      have c0 := HBz.out.av 0 rfl
      have c1' := HBz.out.av 1 rfl
      generalize ((w8.setCell ⟨w.heap.size + 1, 0, none⟩ (.int .i64 ((8 : Nat) : Int))).setCell ⟨w.heap.size + 1, 1, none⟩ (.int .i64 (-1))) = W10 at *
      exact bodyPost_ret (v := .agg #[(.int .i64 ((8 : Nat) : Int)), (.int .i64 (-1))]) (by simp [results, Tryz.results9, go_sem, c0, c1']) rfl ⟨hE.out, _, _, rfl, Hf.out⟩
    · have b3 : 80 < P.stmts.length := by omega
      clear hbb
      go_wp2_with fail
      rw [← HWe.out]
      refine (HBa 8 _).out.mono ?_
      intro e w8 hx8
      obtain ⟨rfl, hx8⟩ := hx8
      have HB8 := HB2.out.ext hx8
      have z0 := HB8.av 0 rfl
      have z1 := HB8.av 1 rfl
      have f0 := HB8.free 0
      have f1 := HB8.free 1
      have HBz := hid (two (v0 := (.int .i64 ((8 : Nat) : Int))) (v1 := (.int .i64 (-1))) HB8)
      have HKz := hid (two_keep w8 (w.heap.size + 1) (.int .i64 ((8 : Nat) : Int)) (.int .i64 (-1)))
      have hE := hid (Keep.new (HW2.out.trans hx8) HKz.out fun b hb => by omega)
      clear HB8
      go_wp2
      have c0 := HBz.out.av 0 rfl
      have c1' := HBz.out.av 1 rfl
      generalize ((w8.setCell ⟨w.heap.size + 1, 0, none⟩ (.int .i64 ((8 : Nat) : Int))).setCell ⟨w.heap.size + 1, 1, none⟩ (.int .i64 (-1))) = W10 at *
      exact bodyPost_ret (v := .agg #[(.int .i64 ((8 : Nat) : Int)), (.int .i64 (-1))]) (by simp [results, Tryz.results9, go_sem, c0, c1']) rfl ⟨hE.out, _, _, rfl, Hf.out⟩
set_option maxRecDepth 100000 in
set_option maxHeartbeats 25600000 in
theorem rfprog_no (a1 a2 a3 : Option Addr) (c1 c2 c3 : Nat) (P : PP) (w : World) (h : ProgR w w.heap.size (.slice a1 P.vars.length c1) (.slice a2 P.funs.length c2) (.slice a3 P.stmts.length c3) P)
    (hz1 : ∀ s ∈ P.vars, s.size ≤ 1000000) (hz2 : ∀ s ∈ P.names, s.size ≤ 1000000) (hb : P.big = false) :
    Calls Tryz.prog 9 #[pval a1 a2 a3 c1 c2 c3 P] w fun e w' => Ext w w' ∧ ∃ (c : Nat) (p : Int), e = .returned (.agg #[.int .i64 (c : Int), .int .i64 p]) ∧ FaultIs P c p := by
  have HP0 := hid h
  have Hz1 := hid hz1
  have Hz2 := hid hz2
  have hml1 : (P.vars.length : Int) ≤ 9223372036854775807 := by
    obtain ⟨_, _, _, h2, h3, _⟩ := h.vars
    omega
  have hml2 := h.funs.len
  have hml3 := h.stmts.len
  obtain ⟨W2, hW2⟩ : ∃ W2, W2 = (w.alloc (.cells (pcells a1 a2 a3 c1 c2 c3 P) 26)).alloc (.cells #[.int .i64 0, .int .i64 0] 30) := ⟨_, rfl⟩
  have HW2 : Hid (Ext w W2) := hid (by rw [hW2]; exact ((Ext.refl _).alloc _).alloc _)
  have HB1 : Hid (Blk W2 w.heap.size (pcells a1 a2 a3 c1 c2 c3 P) 26) := hid (by rw [hW2]; exact (Blk.new _ _ _).alloc _)
  have HB2 : Hid (Blk W2 (w.heap.size + 1) #[.int .i64 0, .int .i64 0] 30) := hid (by
    rw [hW2]
    have := Blk.new (w.alloc (.cells (pcells a1 a2 a3 c1 c2 c3 P) 26)) #[.int .i64 0, .int .i64 0] 30
    rwa [heap_size_alloc] at this)
  have HP := hid (h.ext HW2.out)
  have HBa := fun (c : Nat) w1 => hid (rbare_any (c : Int) w1)
  unfold pcells at hW2
  have HWe := hid hW2
  clear h hW2 hz1 hz2
  unfold pval
  go_enter Tryz.func9, Tryz.ntmps9
  have HBig := hid hb
  have hbb := hb
  unfold PP.big at hbb
  simp only [Bool.or_eq_false_iff, decide_eq_false_iff_not] at hbb
  obtain ⟨⟨b1, b2⟩, b3⟩ := hbb
  clear hb
  go_wp2
  rw [← HWe.out]
  go_loopw [3] (fun t3 wr => ∃ k : Nat, t3 = .int .i64 (k : Int) ∧ k ≤ P.vars.length ∧ (∀ j s, j < k → P.vars[j]? = some s → nameOk s = true) ∧ Ext W2 wr) (fun t3 _ => P.vars.length - (intOf t3).toNat)
  case atStart => exact ⟨0, rfl, Nat.zero_le _, fun j s h => by omega, Ext.refl _⟩
  case round =>
    obtain ⟨k, rfl, hk, hp, hx⟩ := hrel
    have Hp := hid hp
    have Hx := hid hx
    clear hp hx
    have HBr := hid (HB1.out.ext Hx.out)
    have d0 := HBr.out.av 0 rfl
    have d1 := HBr.out.av 1 rfl
    have d2 := HBr.out.av 2 rfl
    simp only [pcells, qA0, qA1, qA2] at d0 d1 d2
    by_cases hlt : k < P.vars.length
    · obtain ⟨y, q, rfl, hq, hc⟩ := (HP.out.ext Hx.out).vars.atU hlt
      have HN := hid (risname_any q wr (by have := Hz1.out q (List.mem_of_getElem? hq); omega))
      have Hq := hid hq
      clear hq
      go_wp2_with fail
      refine HN.out.mono ?_
      intro e w1 hx1
      obtain ⟨rfl, rfl⟩ := hx1
      clear HN
      cases hn : nameOk q with
      | false =>
        have Hbad := hid (anyBad_of Hq.out hn)
        clear hn
        have Hf : Hid (FaultIs P 5 (-1)) := hid (by
          have h : P.err1 = 5 := by unfold PP.err1 namesErr; rw [HBig.out, Hbad.out]; simp
          exact .inl ⟨by rw [h]; decide, h.symm, rfl⟩)
        go_wp2_with fail
        refine (HBa 5 _).out.mono ?_
        intro e w8 hx8
        obtain ⟨rfl, hx8⟩ := hx8
        have HB8 := HB2.out.ext ((Hx.out).trans hx8)
        have z0 := HB8.av 0 rfl
        have z1 := HB8.av 1 rfl
        have f0 := HB8.free 0
        have f1 := HB8.free 1
        have HBz := hid (two (v0 := (.int .i64 ((5 : Nat) : Int))) (v1 := (.int .i64 (-1))) HB8)
        have HKz := hid (two_keep w8 (w.heap.size + 1) (.int .i64 ((5 : Nat) : Int)) (.int .i64 (-1)))
        have hE := hid (Keep.new (HW2.out.trans ((Hx.out).trans hx8)) HKz.out fun b hb => by omega)
        clear HB8
        go_wp2
        have c0 := HBz.out.av 0 rfl
        have c1' := HBz.out.av 1 rfl
        generalize ((w8.setCell ⟨w.heap.size + 1, 0, none⟩ (.int .i64 ((5 : Nat) : Int))).setCell ⟨w.heap.size + 1, 1, none⟩ (.int .i64 (-1))) = W10 at *
        exact bodyPost_ret (v := .agg #[(.int .i64 ((5 : Nat) : Int)), (.int .i64 (-1))]) (by simp [results, Tryz.results9, go_sem, c0, c1']) rfl ⟨hE.out, _, _, rfl, Hf.out⟩
      | true =>
        have Hn := hid hn
        clear hn
        go_wp2
        go_roundw
        case rel =>
          refine ⟨k + 1, by go_num, by omega, fun j s hj hs => ?_, Hx.out⟩
          by_cases hjk : j = k
          · subst hjk
            obtain rfl := Option.some.inj (Hq.out.symm.trans hs)
            exact Hn.out
          · exact Hp.out j s (by omega) hs
        case measure => simp [intOf]; omega
    · obtain rfl : k = P.vars.length := by omega
      have HV := hid (anyBad_no Hp.out)
      clear Hp
      go_wp2
      clear d0 d1 d2 HBr
      go_loopw [5] (fun t5 wr => ∃ k : Nat, t5 = .int .i64 (k : Int) ∧ k ≤ P.funs.length ∧ (∀ j s, j < k → P.names[j]? = some s → nameOk s = true) ∧ Ext W2 wr) (fun t5 _ => P.funs.length - (intOf t5).toNat)
      case atStart => exact ⟨0, rfl, Nat.zero_le _, fun j s h => by omega, Hx.out⟩
      case round =>
        clear Hx
        obtain ⟨k, rfl, hk, hp, hx⟩ := hrel
        have Hp := hid hp
        have Hx := hid hx
        clear hp hx
        have HBr := hid (HB1.out.ext Hx.out)
        have d0 := HBr.out.av 0 rfl
        have d1 := HBr.out.av 1 rfl
        have d2 := HBr.out.av 2 rfl
        simp only [pcells, qA0, qA1, qA2] at d0 d1 d2
        by_cases hlt : k < P.funs.length
        · obtain ⟨y, f, av, cv, rfl, hq, e0, e1, e2, _⟩ := (HP.out.ext Hx.out).funs.at hlt
          have hqn : P.names[k]? = some f.name := by unfold PP.names; rw [List.getElem?_map, hq]; rfl
          have HN := hid (risname_any f.name wr (by have := Hz2.out f.name (List.mem_of_getElem? hqn); omega))
          have Hq := hid hqn
          clear hq hqn e1 e2
          go_wp2_with fail
          refine HN.out.mono ?_
          intro e w1 hx1
          obtain ⟨rfl, rfl⟩ := hx1
          clear HN
          cases hn : nameOk f.name with
          | false =>
            have Hbad := hid (anyBad_of Hq.out hn)
            clear hn
            have Hf : Hid (FaultIs P 5 (-1)) := hid (by
              have h : P.err1 = 5 := by unfold PP.err1 namesErr; rw [HBig.out, HV.out, Hbad.out]; simp
              exact .inl ⟨by rw [h]; decide, h.symm, rfl⟩)
            go_wp2_with fail
            refine (HBa 5 _).out.mono ?_
            intro e w8 hx8
            obtain ⟨rfl, hx8⟩ := hx8
            have HB8 := HB2.out.ext ((Hx.out).trans hx8)
            have z0 := HB8.av 0 rfl
            have z1 := HB8.av 1 rfl
            have f0 := HB8.free 0
            have f1 := HB8.free 1
            have HBz := hid (two (v0 := (.int .i64 ((5 : Nat) : Int))) (v1 := (.int .i64 (-1))) HB8)
            have HKz := hid (two_keep w8 (w.heap.size + 1) (.int .i64 ((5 : Nat) : Int)) (.int .i64 (-1)))
            have hE := hid (Keep.new (HW2.out.trans ((Hx.out).trans hx8)) HKz.out fun b hb => by omega)
            clear HB8
            go_wp2
            have c0 := HBz.out.av 0 rfl
            have c1' := HBz.out.av 1 rfl
            generalize ((w8.setCell ⟨w.heap.size + 1, 0, none⟩ (.int .i64 ((5 : Nat) : Int))).setCell ⟨w.heap.size + 1, 1, none⟩ (.int .i64 (-1))) = W10 at *
            exact bodyPost_ret (v := .agg #[(.int .i64 ((5 : Nat) : Int)), (.int .i64 (-1))]) (by simp [results, Tryz.results9, go_sem, c0, c1']) rfl ⟨hE.out, _, _, rfl, Hf.out⟩
          | true =>
            have Hn := hid hn
            clear hn
            go_wp2
            go_roundw
            case rel =>
              refine ⟨k + 1, by go_num, by omega, fun j s hj hs => ?_, Hx.out⟩
              by_cases hjk : j = k
              · subst hjk
                obtain rfl := Option.some.inj (Hq.out.symm.trans hs)
                exact Hn.out
              · exact Hp.out j s (by omega) hs
            case measure => simp [intOf]; omega
        · obtain rfl : k = P.funs.length := by omega
          have HF := hid (anyBad_no (l := P.names) (fun j s hj hs => Hp.out j s (by simpa [PP.names] using hj) hs))
          clear Hp
          go_wp2
          clear d0 d1 d2 HBr
          go_loopw [7] (fun t7 wr => ∃ i : Nat, t7 = .int .i64 (i : Int) ∧ i ≤ P.vars.length ∧ (∀ (a b : Nat) (s t : ByteArray), a < i → b < a → P.vars[a]? = some s → P.vars[b]? = some t → eqB s t = false) ∧ Ext W2 wr) (fun t7 _ => P.vars.length - (intOf t7).toNat)
          case atStart => exact ⟨0, rfl, Nat.zero_le _, fun a b s t h => by omega, Hx.out⟩
          case round =>
            clear Hx
            obtain ⟨i, rfl, hi, hp, hx⟩ := hrel
            have Hp := hid hp
            have Hx := hid hx
            clear hp hx
            have HBr := hid (HB1.out.ext Hx.out)
            have d0 := HBr.out.av 0 rfl
            have d1 := HBr.out.av 1 rfl
            have d2 := HBr.out.av 2 rfl
            simp only [pcells, qA0, qA1, qA2] at d0 d1 d2
            by_cases hli : i < P.vars.length
            · obtain ⟨yi, qi, rfl, hqi, _⟩ := (HP.out.ext Hx.out).vars.atU hli
              have Hqi := hid hqi
              clear hqi
              go_wp2
              clear d0 d1 d2 HBr
              go_loopw [8] (fun t8 wr => ∃ k : Nat, t8 = .int .i64 (k : Int) ∧ k ≤ i ∧ (∀ (b : Nat) (t : ByteArray), b < k → P.vars[b]? = some t → eqB qi t = false) ∧ Ext W2 wr) (fun t8 _ => i - (intOf t8).toNat)
              case atStart => exact ⟨0, rfl, Nat.zero_le _, fun b t h => by omega, Hx.out⟩
              case round =>
                clear Hx
                obtain ⟨k, rfl, hk, hpk, hx⟩ := hrel
                have Hpk := hid hpk
                have Hx := hid hx
                clear hpk hx
                by_cases hlt : k < i
                · obtain ⟨y, q, hy, hq, hc⟩ := (HP.out.ext Hx.out).vars.atU (show k < P.vars.length by omega)
                  obtain rfl := Option.some.inj hy
                  obtain ⟨y2, q2, hy2, hq2, hc2⟩ := (HP.out.ext Hx.out).vars.atU hli
                  obtain rfl := Option.some.inj hy2
                  obtain rfl : q2 = qi := Option.some.inj (hq2.symm.trans Hqi.out)
                  have hcK : ∀ w1, Keep (fun _ => False) wr w1 → w1.cell? (yi.add k) = some (.string q) := fun w1 k => k.ext.cellx hc
                  have hcI : ∀ w1, Keep (fun _ => False) wr w1 → w1.cell? (yi.add i) = some (.string q2) := fun w1 k => k.ext.cellx hc2
                  have dk := (HB1.out.ext Hx.out).kc (X := fun _ => False) (fun e => e) 0 rfl
                  simp only [pcells, qA0, qA1, qA2] at dk
                  have Hq := hid hq
                  clear hq hc hc2 hq2 hy hy2
                  cases he : eqB q2 q with
                  | true =>
                    have Hd := hid (dupS_of hlt Hqi.out Hq.out he)
                    rw [eqB_comm] at he
                    go_wp2
                    refine wp_flowT (fun _ => False) (by kernel_rfl) (by kernel_rfl) ?_
                    repeat (apply FlowT.d; (intro w1 hk; unfold does; go_simp; (try go_ints); (first | exact DetR.mk | (simp only [↓IntWalk.iteOmega, Oper.doesUpon_value]; exact DetR.mk) | (simp only [↓IntWalk.iteOmega]; go_simp; (try go_ints); exact DetR.mk))); simp only [Act.put, qS0, qS1, qS2])
                    refine FlowT.fin fun w7 hx7 hk7 => ?_
                    have Hx7 := hid (Hx.out.trans hx7)
                    clear hx7 hk7 hcK hcI dk he
                    have Hf : Hid (FaultIs P 7 (-1)) := hid (by
                      have h : P.err1 = 7 := by unfold PP.err1 namesErr; rw [HBig.out, HV.out, HF.out, Hd.out]; cases dupS P.names <;> simp
                      exact .inl ⟨by rw [h]; decide, h.symm, rfl⟩)
                    go_wp2_with fail
                    refine (HBa 7 _).out.mono ?_
                    intro e w8 hx8
                    obtain ⟨rfl, hx8⟩ := hx8
                    have HB8 := HB2.out.ext ((Hx7.out).trans hx8)
                    have z0 := HB8.av 0 rfl
                    have z1 := HB8.av 1 rfl
                    have f0 := HB8.free 0
                    have f1 := HB8.free 1
                    have HBz := hid (two (v0 := (.int .i64 ((7 : Nat) : Int))) (v1 := (.int .i64 (-1))) HB8)
                    have HKz := hid (two_keep w8 (w.heap.size + 1) (.int .i64 ((7 : Nat) : Int)) (.int .i64 (-1)))
                    have hE := hid (Keep.new (HW2.out.trans ((Hx7.out).trans hx8)) HKz.out fun b hb => by omega)
                    clear HB8
                    go_wp2
                    have c0 := HBz.out.av 0 rfl
                    have c1' := HBz.out.av 1 rfl
                    generalize ((w8.setCell ⟨w.heap.size + 1, 0, none⟩ (.int .i64 ((7 : Nat) : Int))).setCell ⟨w.heap.size + 1, 1, none⟩ (.int .i64 (-1))) = W10 at *
                    exact bodyPost_ret (v := .agg #[(.int .i64 ((7 : Nat) : Int)), (.int .i64 (-1))]) (by simp [results, Tryz.results9, go_sem, c0, c1']) rfl ⟨hE.out, _, _, rfl, Hf.out⟩
                  | false =>
                    have He := hid he
                    rw [eqB_comm] at he
                    go_wp2
                    refine wp_flowT (fun _ => False) (by kernel_rfl) (by kernel_rfl) ?_
                    repeat (apply FlowT.d; (intro w1 hk; unfold does; go_simp; (try go_ints); (first | exact DetR.mk | (simp only [↓IntWalk.iteOmega, Oper.doesUpon_value]; exact DetR.mk) | (simp only [↓IntWalk.iteOmega]; go_simp; (try go_ints); exact DetR.mk))); simp only [Act.put, qS0, qS1, qS2])
                    refine FlowT.fin fun w7 hx7 hk7 => ?_
                    have Hx7 := hid (Hx.out.trans hx7)
                    clear hx7 hk7 hcK hcI dk he
                    go_wp2
                    go_roundw
                    case rel =>
                      refine ⟨k + 1, by go_num, by omega, fun b t hb ht => ?_, Hx7.out⟩
                      by_cases hjk : b = k
                      · subst hjk
                        obtain rfl := Option.some.inj (Hq.out.symm.trans ht)
                        exact He.out
                      · exact Hpk.out b t (by omega) ht
                    case measure => simp [intOf]; omega
                · obtain rfl : k = i := by omega
                  go_wp2
                  go_roundw
                  case rel =>
                    refine ⟨k + 1, by go_num, by omega, fun a b s t ha hb hs ht => ?_, Hx.out⟩
                    by_cases hjk : a = k
                    · subst hjk
                      obtain rfl := Option.some.inj (Hqi.out.symm.trans hs)
                      exact Hpk.out b t hb ht
                    · exact Hp.out a b s t (by omega) hb hs ht
                  case measure => simp [intOf]; omega
            · obtain rfl : i = P.vars.length := by omega
              have HDv := hid (dupS_no (l := P.vars) fun a b s t ha hb hs ht => Hp.out a b s t ha hb hs ht)
              clear Hp
              go_wp2
              clear d0 d1 d2 HBr
              go_loopw [9] (fun t9 wr => ∃ i : Nat, t9 = .int .i64 (i : Int) ∧ i ≤ P.funs.length ∧ (∀ (a b : Nat) (s t : ByteArray), a < i → b < a → P.names[a]? = some s → P.names[b]? = some t → eqB s t = false) ∧ Ext W2 wr) (fun t9 _ => P.funs.length - (intOf t9).toNat)
              case atStart => exact ⟨0, rfl, Nat.zero_le _, fun a b s t h => by omega, Hx.out⟩
              case round =>
                clear Hx
                obtain ⟨i, rfl, hi, hp, hx⟩ := hrel
                have Hp := hid hp
                have Hx := hid hx
                clear hp hx
                have HBr := hid (HB1.out.ext Hx.out)
                have d0 := HBr.out.av 0 rfl
                have d1 := HBr.out.av 1 rfl
                have d2 := HBr.out.av 2 rfl
                simp only [pcells, qA0, qA1, qA2] at d0 d1 d2
                by_cases hli : i < P.funs.length
                · obtain ⟨yi, qi, _, _, rfl, hqi, _⟩ := (HP.out.ext Hx.out).funs.at hli
                  have Hqf := hid hqi
                  have Hqi := hid (show P.names[i]? = some qi.name by unfold PP.names; rw [List.getElem?_map, hqi]; rfl)
                  clear hqi
                  go_wp2
                  clear d0 d1 d2 HBr
                  go_loopw [10] (fun t10 wr => ∃ k : Nat, t10 = .int .i64 (k : Int) ∧ k ≤ i ∧ (∀ (b : Nat) (t : ByteArray), b < k → P.names[b]? = some t → eqB qi.name t = false) ∧ Ext W2 wr) (fun t10 _ => i - (intOf t10).toNat)
                  case atStart => exact ⟨0, rfl, Nat.zero_le _, fun b t h => by omega, Hx.out⟩
                  case round =>
                    clear Hx
                    obtain ⟨k, rfl, hk, hpk, hx⟩ := hrel
                    have Hpk := hid hpk
                    have Hx := hid hx
                    clear hpk hx
                    by_cases hlt : k < i
                    · obtain ⟨y, q, _, _, hy, hqf, hc, _⟩ := (HP.out.ext Hx.out).funs.at (show k < P.funs.length by omega)
                      obtain rfl := Option.some.inj hy
                      obtain ⟨y2, q2, _, _, hy2, hq2, hc2, _⟩ := (HP.out.ext Hx.out).funs.at hli
                      obtain rfl := Option.some.inj hy2
                      obtain rfl : q2 = qi := Option.some.inj (hq2.symm.trans Hqf.out)
                      have hq : P.names[k]? = some q.name := by unfold PP.names; rw [List.getElem?_map, hqf]; rfl
                      have hcK : ∀ w1, Keep (fun _ => False) wr w1 → w1.cell? (yi.add (k * 3)) = some (.string q.name) := fun w1 k => k.ext.cellx hc
                      have hcI : ∀ w1, Keep (fun _ => False) wr w1 → w1.cell? (yi.add (i * 3)) = some (.string q2.name) := fun w1 k => k.ext.cellx hc2
                      have dk := (HB1.out.ext Hx.out).kc (X := fun _ => False) (fun e => e) 1 rfl
                      simp only [pcells, qA0, qA1, qA2] at dk
                      have Hq := hid hq
                      clear hq hqf hc hc2 hq2 hy hy2
                      cases he : eqB q2.name q.name with
                      | true =>
                        have Hd := hid (dupS_of hlt Hqi.out Hq.out he)
                        rw [eqB_comm] at he
                        go_wp2
                        refine wp_flowT (fun _ => False) (by kernel_rfl) (by kernel_rfl) ?_
                        repeat (apply FlowT.d; (intro w1 hk; unfold does; go_simp; (try go_ints); (first | exact DetR.mk | (simp only [↓IntWalk.iteOmega, Oper.doesUpon_value]; exact DetR.mk) | (simp only [↓IntWalk.iteOmega]; go_simp; (try go_ints); exact DetR.mk))); simp only [Act.put, qS0, qS1, qS2])
                        refine FlowT.fin fun w7 hx7 hk7 => ?_
                        have Hx7 := hid (Hx.out.trans hx7)
                        clear hx7 hk7 hcK hcI dk he
                        have Hf : Hid (FaultIs P 7 (-1)) := hid (by
                          have h : P.err1 = 7 := by unfold PP.err1 namesErr; rw [HBig.out, HV.out, HF.out, Hd.out]; cases dupS P.vars <;> simp
                          exact .inl ⟨by rw [h]; decide, h.symm, rfl⟩)
                        go_wp2_with fail
                        refine (HBa 7 _).out.mono ?_
                        intro e w8 hx8
                        obtain ⟨rfl, hx8⟩ := hx8
                        have HB8 := HB2.out.ext ((Hx7.out).trans hx8)
                        have z0 := HB8.av 0 rfl
                        have z1 := HB8.av 1 rfl
                        have f0 := HB8.free 0
                        have f1 := HB8.free 1
                        have HBz := hid (two (v0 := (.int .i64 ((7 : Nat) : Int))) (v1 := (.int .i64 (-1))) HB8)
                        have HKz := hid (two_keep w8 (w.heap.size + 1) (.int .i64 ((7 : Nat) : Int)) (.int .i64 (-1)))
                        have hE := hid (Keep.new (HW2.out.trans ((Hx7.out).trans hx8)) HKz.out fun b hb => by omega)
                        clear HB8
                        go_wp2
                        have c0 := HBz.out.av 0 rfl
                        have c1' := HBz.out.av 1 rfl
                        generalize ((w8.setCell ⟨w.heap.size + 1, 0, none⟩ (.int .i64 ((7 : Nat) : Int))).setCell ⟨w.heap.size + 1, 1, none⟩ (.int .i64 (-1))) = W10 at *
                        exact bodyPost_ret (v := .agg #[(.int .i64 ((7 : Nat) : Int)), (.int .i64 (-1))]) (by simp [results, Tryz.results9, go_sem, c0, c1']) rfl ⟨hE.out, _, _, rfl, Hf.out⟩
                      | false =>
                        have He := hid he
                        rw [eqB_comm] at he
                        go_wp2
                        refine wp_flowT (fun _ => False) (by kernel_rfl) (by kernel_rfl) ?_
                        repeat (apply FlowT.d; (intro w1 hk; unfold does; go_simp; (try go_ints); (first | exact DetR.mk | (simp only [↓IntWalk.iteOmega, Oper.doesUpon_value]; exact DetR.mk) | (simp only [↓IntWalk.iteOmega]; go_simp; (try go_ints); exact DetR.mk))); simp only [Act.put, qS0, qS1, qS2])
                        refine FlowT.fin fun w7 hx7 hk7 => ?_
                        have Hx7 := hid (Hx.out.trans hx7)
                        clear hx7 hk7 hcK hcI dk he
                        go_wp2
                        go_roundw
                        case rel =>
                          refine ⟨k + 1, by go_num, by omega, fun b t hb ht => ?_, Hx7.out⟩
                          by_cases hjk : b = k
                          · subst hjk
                            obtain rfl := Option.some.inj (Hq.out.symm.trans ht)
                            exact He.out
                          · exact Hpk.out b t (by omega) ht
                        case measure => simp [intOf]; omega
                    · obtain rfl : k = i := by omega
                      go_wp2
                      go_roundw
                      case rel =>
                        refine ⟨k + 1, by go_num, by omega, fun a b s t ha hb hs ht => ?_, Hx.out⟩
                        by_cases hjk : a = k
                        · subst hjk
                          obtain rfl := Option.some.inj (Hqi.out.symm.trans hs)
                          exact Hpk.out b t hb ht
                        · exact Hp.out a b s t (by omega) hb hs ht
                      case measure => simp [intOf]; omega
                · obtain rfl : i = P.funs.length := by omega
                  have HDf := hid (dupS_no (l := P.names) fun a b s t ha hb hs ht => Hp.out a b s t (by simpa [PP.names] using ha) hb hs ht)
                  have H1 := hid (show P.err1 = P.funsErr by unfold PP.err1 namesErr; rw [HBig.out, HV.out, HF.out, HDv.out, HDf.out]; simp)
                  clear Hp
                  go_wp2
                  clear d0 d1 d2 HBr
                  go_loopw [11] (fun t11 wr => ∃ k : Nat, t11 = .int .i64 (k : Int) ∧ k ≤ P.funs.length ∧ (∀ j f, j < k → P.funs[j]? = some f → bad9 f = false) ∧ Ext W2 wr) (fun t11 _ => P.funs.length - (intOf t11).toNat)
                  case atStart => exact ⟨0, rfl, Nat.zero_le _, fun j s h => by omega, Hx.out⟩
                  case round =>
                    clear Hx
                    obtain ⟨k, rfl, hk, hp, hx⟩ := hrel
                    have Hp := hid hp
                    have Hx := hid hx
                    clear hp hx
                    have HBr := hid (HB1.out.ext Hx.out)
                    have d0 := HBr.out.av 0 rfl
                    have d1 := HBr.out.av 1 rfl
                    have d2 := HBr.out.av 2 rfl
                    simp only [pcells, qA0, qA1, qA2] at d0 d1 d2
                    by_cases hlt : k < P.funs.length
                    · obtain ⟨y, f, av, cv, rfl, hq, e0, e1, e2, _⟩ := (HP.out.ext Hx.out).funs.at hlt
                      have Hq := hid hq
                      clear hq e0 e2
                      by_cases h3 : 3 < f.params.length
                      · have Hb := hid (show P.funsErr = 9 by unfold PP.funsErr; rw [List.any_eq_true.2 ⟨f, List.mem_of_getElem? Hq.out, show bad9 f = true by unfold bad9; exact decide_eq_true h3⟩]; rfl)
                        have Hf : Hid (FaultIs P 9 (-1)) := hid (by
                          have h : P.err1 = 9 := H1.out.trans Hb.out
                          exact .inl ⟨by rw [h]; decide, h.symm, rfl⟩)
                        go_wp2_with fail
                        refine (HBa 9 _).out.mono ?_
                        intro e w8 hx8
                        obtain ⟨rfl, hx8⟩ := hx8
                        have HB8 := HB2.out.ext ((Hx.out).trans hx8)
                        have z0 := HB8.av 0 rfl
                        have z1 := HB8.av 1 rfl
                        have f0 := HB8.free 0
                        have f1 := HB8.free 1
                        have HBz := hid (two (v0 := (.int .i64 ((9 : Nat) : Int))) (v1 := (.int .i64 (-1))) HB8)
                        have HKz := hid (two_keep w8 (w.heap.size + 1) (.int .i64 ((9 : Nat) : Int)) (.int .i64 (-1)))
                        have hE := hid (Keep.new (HW2.out.trans ((Hx.out).trans hx8)) HKz.out fun b hb => by omega)
                        clear HB8
                        go_wp2
                        have c0 := HBz.out.av 0 rfl
                        have c1' := HBz.out.av 1 rfl
                        generalize ((w8.setCell ⟨w.heap.size + 1, 0, none⟩ (.int .i64 ((9 : Nat) : Int))).setCell ⟨w.heap.size + 1, 1, none⟩ (.int .i64 (-1))) = W10 at *
                        exact bodyPost_ret (v := .agg #[(.int .i64 ((9 : Nat) : Int)), (.int .i64 (-1))]) (by simp [results, Tryz.results9, go_sem, c0, c1']) rfl ⟨hE.out, _, _, rfl, Hf.out⟩
                      · have Hb := hid (show bad9 f = false by unfold bad9; exact decide_eq_false h3)
                        go_wp2
                        go_roundw
                        case rel =>
                          refine ⟨k + 1, by go_num, by omega, fun j s hj hs => ?_, Hx.out⟩
                          by_cases hjk : j = k
                          · subst hjk
                            obtain rfl := Option.some.inj (Hq.out.symm.trans hs)
                            exact Hb.out
                          · exact Hp.out j s (by omega) hs
                        case measure => simp [intOf]; omega
                    · obtain rfl : k = P.funs.length := by omega
                      have H9 := hid (any_noU (l := P.funs) (p := bad9) Hp.out)
                      clear Hp
                      go_wp2
                      clear d0 d1 d2 HBr
                      go_loopw [12] (fun t12 wr => ∃ k : Nat, t12 = .int .i64 (k : Int) ∧ k ≤ P.funs.length ∧ (∀ j f, j < k → P.funs[j]? = some f → P.bad2 f = false) ∧ Ext W2 wr) (fun t12 _ => P.funs.length - (intOf t12).toNat)
                      case atStart => exact ⟨0, rfl, Nat.zero_le _, fun j s h => by omega, Hx.out⟩
                      case round =>
                        clear Hx
                        obtain ⟨k, rfl, hk, hp, hx⟩ := hrel
                        have Hp := hid hp
                        have Hx := hid hx
                        clear hp hx
                        have HBr := hid (HB1.out.ext Hx.out)
                        have d0 := HBr.out.av 0 rfl
                        have d1 := HBr.out.av 1 rfl
                        have d2 := HBr.out.av 2 rfl
                        simp only [pcells, qA0, qA1, qA2] at d0 d1 d2
                        by_cases hlt : k < P.funs.length
                        · obtain ⟨y, f, av, cv, rfl, hq, e0, e1, e2, hI⟩ := (HP.out.ext Hx.out).funs.at hlt
                          have Hq := hid hq
                          have HIp := hid hI
                          have g1 : ∀ w1, Keep (fun _ => False) wr w1 → w1.cell? ⟨(y.add (k * 3)).block, (y.add (k * 3)).off + 1, none⟩ = some (.slice av f.params.length cv) := fun w1 k => k.ext.cellx e1
                          have He2 := hid e2
                          have m0 := HBr.out.kc (X := fun _ => False) (fun e => e) 0 rfl
                          have m1 := HBr.out.kc (X := fun _ => False) (fun e => e) 1 rfl
                          have m2 := HBr.out.kc (X := fun _ => False) (fun e => e) 2 rfl
                          simp only [pcells, qA0, qA1, qA2] at m0 m1 m2
                          have HA := fun w1 (x : Ext wr w1) => hid (rarevars_any a1 (some y) a3 c1 c2 c3 P (.slice av f.params.length cv) f.params w1 w.heap.size (HIp.out.old (x.old _)))
                          have HV2 := fun w1 => hid (risvar_any a1 (some y) a3 c1 c2 c3 P f.ret w1)
                          unfold pval at HA HV2
                          clear hq e0 e1 e2 hI
                          go_wp2
                          refine wp_flowT (fun _ => False) (by kernel_rfl) (by kernel_rfl) ?_
                          repeat (apply FlowT.d; (intro w1 hk; unfold does; go_simp; (try go_ints); (first | exact DetR.mk | (simp only [↓IntWalk.iteOmega, Oper.doesUpon_value]; exact DetR.mk) | (simp only [↓IntWalk.iteOmega]; go_simp; (try go_ints); exact DetR.mk))); simp only [Act.put, qS0, qS1, qS2])
                          apply FlowT.d
                          · intro w1 hk
                            unfold does
                            go_simp
                            exact CallR.det ((HA w1 hk.ext).out)
                          simp only [Act.put, qS0, qS1, qS2]
                          repeat (apply FlowT.d; (intro w1 hk; unfold does; go_simp; (try go_ints); (first | exact DetR.mk | (simp only [↓IntWalk.iteOmega, Oper.doesUpon_value]; exact DetR.mk) | (simp only [↓IntWalk.iteOmega]; go_simp; (try go_ints); exact DetR.mk))); simp only [Act.put, qS0, qS1, qS2])
                          refine FlowT.fin fun w7 hx7 hk7 => ?_
                          have Hx7 := hid (Hx.out.trans hx7)
                          have g2 : ∀ w1, Keep (fun _ => False) w7 w1 → w1.cell? ⟨(y.add (k * 3)).block, (y.add (k * 3)).off + 2, none⟩ = some (.int .i64 f.ret) := fun w1 k => (hx7.trans k.ext).cellx He2.out
                          replace m0 := fun w1 (k : Keep (fun _ => False) w7 w1) => m0 w1 ((hx7.keep _).trans k)
                          replace m1 := fun w1 (k : Keep (fun _ => False) w7 w1) => m1 w1 ((hx7.keep _).trans k)
                          replace m2 := fun w1 (k : Keep (fun _ => False) w7 w1) => m2 w1 ((hx7.keep _).trans k)
                          clear hx7 hk7 g1 HA d0 d1 d2
                          go_wp2
                          refine wp_flowT (fun _ => False) (by kernel_rfl) (by kernel_rfl) ?_
                          repeat (apply FlowT.d; (intro w1 hk; unfold does; go_simp; (try go_ints); (first | exact DetR.mk | (simp only [↓IntWalk.iteOmega, Oper.doesUpon_value]; exact DetR.mk) | (simp only [↓IntWalk.iteOmega]; go_simp; (try go_ints); exact DetR.mk))); simp only [Act.put, qS0, qS1, qS2])
                          apply FlowT.d
                          · intro w1 hk
                            unfold does
                            go_simp
                            exact CallR.det ((HV2 w1).out)
                          simp only [Act.put, qS0, qS1, qS2]
                          repeat (apply FlowT.d; (intro w1 hk; unfold does; go_simp; (try go_ints); (first | exact DetR.mk | (simp only [↓IntWalk.iteOmega, Oper.doesUpon_value]; exact DetR.mk) | (simp only [↓IntWalk.iteOmega]; go_simp; (try go_ints); exact DetR.mk))); simp only [Act.put, qS0, qS1, qS2])
                          refine FlowT.fin fun w9 hx9 hk9 => ?_
                          have Hx9 := hid (Hx7.out.trans hx9)
                          clear hx9 hk9 g2 HV2 m0 m1 m2
                          cases ha : P.allV f.params with
                          | false =>
                            have Hb := hid (show P.funsErr = 2 by unfold PP.funsErr; rw [H9.out, List.any_eq_true.2 ⟨f, List.mem_of_getElem? Hq.out, show P.bad2 f = true by unfold PP.bad2; rw [ha]; rfl⟩]; rfl)
                            clear ha
                            have Hf : Hid (FaultIs P 2 (-1)) := hid (by
                              have h : P.err1 = 2 := H1.out.trans Hb.out
                              exact .inl ⟨by rw [h]; decide, h.symm, rfl⟩)
                            go_wp2_with fail
                            refine (HBa 2 _).out.mono ?_
                            intro e w8 hx8
                            obtain ⟨rfl, hx8⟩ := hx8
                            have HB8 := HB2.out.ext ((Hx9.out).trans hx8)
                            have z0 := HB8.av 0 rfl
                            have z1 := HB8.av 1 rfl
                            have f0 := HB8.free 0
                            have f1 := HB8.free 1
                            have HBz := hid (two (v0 := (.int .i64 ((2 : Nat) : Int))) (v1 := (.int .i64 (-1))) HB8)
                            have HKz := hid (two_keep w8 (w.heap.size + 1) (.int .i64 ((2 : Nat) : Int)) (.int .i64 (-1)))
                            have hE := hid (Keep.new (HW2.out.trans ((Hx9.out).trans hx8)) HKz.out fun b hb => by omega)
                            clear HB8
                            go_wp2
                            have c0 := HBz.out.av 0 rfl
                            have c1' := HBz.out.av 1 rfl
                            generalize ((w8.setCell ⟨w.heap.size + 1, 0, none⟩ (.int .i64 ((2 : Nat) : Int))).setCell ⟨w.heap.size + 1, 1, none⟩ (.int .i64 (-1))) = W10 at *
                            exact bodyPost_ret (v := .agg #[(.int .i64 ((2 : Nat) : Int)), (.int .i64 (-1))]) (by simp [results, Tryz.results9, go_sem, c0, c1']) rfl ⟨hE.out, _, _, rfl, Hf.out⟩
                          | true =>
                            have Ha := hid ha
                            clear ha
                            cases hv : P.inV f.ret with
                            | false =>
                              have Hb := hid (show P.funsErr = 2 by unfold PP.funsErr; rw [H9.out, List.any_eq_true.2 ⟨f, List.mem_of_getElem? Hq.out, show P.bad2 f = true by unfold PP.bad2; rw [hv]; simp⟩]; rfl)
                              clear hv
                              have Hf : Hid (FaultIs P 2 (-1)) := hid (by
                                have h : P.err1 = 2 := H1.out.trans Hb.out
                                exact .inl ⟨by rw [h]; decide, h.symm, rfl⟩)
                              go_wp2_with fail
                              refine (HBa 2 _).out.mono ?_
                              intro e w8 hx8
                              obtain ⟨rfl, hx8⟩ := hx8
                              have HB8 := HB2.out.ext ((Hx9.out).trans hx8)
                              have z0 := HB8.av 0 rfl
                              have z1 := HB8.av 1 rfl
                              have f0 := HB8.free 0
                              have f1 := HB8.free 1
                              have HBz := hid (two (v0 := (.int .i64 ((2 : Nat) : Int))) (v1 := (.int .i64 (-1))) HB8)
                              have HKz := hid (two_keep w8 (w.heap.size + 1) (.int .i64 ((2 : Nat) : Int)) (.int .i64 (-1)))
                              have hE := hid (Keep.new (HW2.out.trans ((Hx9.out).trans hx8)) HKz.out fun b hb => by omega)
                              clear HB8
                              go_wp2
                              have c0 := HBz.out.av 0 rfl
                              have c1' := HBz.out.av 1 rfl
                              generalize ((w8.setCell ⟨w.heap.size + 1, 0, none⟩ (.int .i64 ((2 : Nat) : Int))).setCell ⟨w.heap.size + 1, 1, none⟩ (.int .i64 (-1))) = W10 at *
                              exact bodyPost_ret (v := .agg #[(.int .i64 ((2 : Nat) : Int)), (.int .i64 (-1))]) (by simp [results, Tryz.results9, go_sem, c0, c1']) rfl ⟨hE.out, _, _, rfl, Hf.out⟩
                            | true =>
                              have Hb := hid (show P.bad2 f = false by unfold PP.bad2; rw [Ha.out, hv]; rfl)
                              clear hv
                              go_wp2
                              go_roundw
                              case rel =>
                                refine ⟨k + 1, by go_num, by omega, fun j s hj hs => ?_, Hx9.out⟩
                                by_cases hjk : j = k
                                · subst hjk
                                  obtain rfl := Option.some.inj (Hq.out.symm.trans hs)
                                  exact Hb.out
                                · exact Hp.out j s (by omega) hs
                              case measure => simp [intOf]; omega
                        · obtain rfl : k = P.funs.length := by omega
                          have HG2 := hid (any_noU (l := P.funs) (p := P.bad2) Hp.out)
                          clear Hp
                          go_wp2
                          clear d0 d1 d2 HBr
                          go_loopw [15] (fun t15 wr => ∃ i : Nat, t15 = .int .i64 (i : Int) ∧ i ≤ P.funs.length ∧ (∀ j f, j < i → P.funs[j]? = some f → bad7 f = false) ∧ Ext W2 wr) (fun t15 _ => P.funs.length - (intOf t15).toNat)
                          case atStart => exact ⟨0, rfl, Nat.zero_le _, fun j s h => by omega, Hx.out⟩
                          case round =>
                            clear Hx
                            obtain ⟨i, rfl, hi, hp, hx⟩ := hrel
                            have Hp := hid hp
                            have Hx := hid hx
                            clear hp hx
                            have HBr := hid (HB1.out.ext Hx.out)
                            have d0 := HBr.out.av 0 rfl
                            have d1 := HBr.out.av 1 rfl
                            have d2 := HBr.out.av 2 rfl
                            simp only [pcells, qA0, qA1, qA2] at d0 d1 d2
                            by_cases hli : i < P.funs.length
                            · obtain ⟨y, f, av, cv, rfl, hq, e0, e1, e2, hI⟩ := (HP.out.ext Hx.out).funs.at hli
                              have Hq := hid hq
                              have HIp := hid hI
                              have hcv : f.params.length ≤ cv ∧ (cv : Int) ≤ 9223372036854775807 := by
                                obtain ⟨_, _, h1, h2, h3, _⟩ := hI
                                simp only [Value.slice.injEq] at h1
                                obtain ⟨_, _, rfl⟩ := h1
                                exact ⟨h2, h3⟩
                              obtain ⟨hcv1, hcv2⟩ := hcv
                              have Hxi := Hx
                              clear hq e0 e2 hI
                              go_wp2
                              clear d0 d1 d2 HBr e1
                              rename World => wi
                              go_loopw [17] (fun t17 wr => ∃ k : Nat, t17 = .int .i64 (k : Int) ∧ k ≤ f.params.length ∧ (∀ j, j < k → ¬ f.params.getD j 0 ∈ f.params.take j) ∧ Ext wi wr) (fun t17 _ => f.params.length - (intOf t17).toNat)
                              case atStart => exact ⟨0, rfl, Nat.zero_le _, fun b h => by omega, Ext.refl _⟩
                              case round =>
                                obtain ⟨k, rfl, hk, hpk, hx⟩ := hrel
                                have Hpk := hid hpk
                                have Hxk := hid hx
                                clear hpk hx
                                by_cases hlt : k < f.params.length
                                · obtain ⟨yp, q, rfl, hqk, hc⟩ := (HIp.out.old (Hxk.out.old _)).at hlt
                                  have hcK : ∀ w1, Keep (fun _ => False) wr w1 → w1.cell? (yp.add k) = some (.int .i64 q) := fun w1 k => k.ext.cellx hc
                                  have HHs := fun w1 (x : Ext wr w1) => hid (rhas_any (.slice (some yp) k cv) (f.params.take k) q w1 w.heap.size ((HIp.out.old ((Hxk.out.trans x).old _)).take k hk))
                                  have hkc : k ≤ cv := by omega
                                  have hgq : f.params.getD k 0 = q := by rw [List.getD_eq_getElem?_getD, hqk]; rfl
                                  have Hgq := hid hgq
                                  clear hqk hc hgq
                                  go_wp2
                                  refine wp_flowT (fun _ => False) (by kernel_rfl) (by kernel_rfl) ?_
                                  repeat (apply FlowT.d; (intro w1 hk; unfold does; go_simp; (try go_ints); (first | exact DetR.mk | (simp only [↓IntWalk.iteOmega, Oper.doesUpon_value]; exact DetR.mk) | (simp only [↓IntWalk.iteOmega]; go_simp; (try go_ints); exact DetR.mk))); simp only [Act.put, qS0, qS1, qS2])
                                  apply FlowT.d
                                  · intro w1 hk
                                    unfold does
                                    go_simp
                                    exact CallR.det ((HHs w1 hk.ext).out.mono fun e w' ⟨h1, h2⟩ => ⟨h1, h2 ▸ Ext.refl _⟩)
                                  simp only [Act.put, qS0, qS1, qS2]
                                  repeat (apply FlowT.d; (intro w1 hk; unfold does; go_simp; (try go_ints); (first | exact DetR.mk | (simp only [↓IntWalk.iteOmega, Oper.doesUpon_value]; exact DetR.mk) | (simp only [↓IntWalk.iteOmega]; go_simp; (try go_ints); exact DetR.mk))); simp only [Act.put, qS0, qS1, qS2])
                                  refine FlowT.fin fun w7 hx7 hk7 => ?_
                                  have Hx7 := hid (Hxk.out.trans hx7)
                                  have Hx8 := hid (Hx.out.trans Hx7.out)
                                  clear hx7 hk7 hcK HHs
                                  by_cases hin : q ∈ f.params.take k
                                  · have Hb := hid (show P.funsErr = 7 by unfold PP.funsErr; rw [H9.out, HG2.out, List.any_eq_true.2 ⟨f, List.mem_of_getElem? Hq.out, show bad7 f = true from List.any_eq_true.2 ⟨k, List.mem_range.2 hlt, by rw [Hgq.out]; exact decide_eq_true hin⟩⟩]; rfl)
                                    rw [decide_eq_true hin]
                                    clear hin
                                    have Hf : Hid (FaultIs P 7 (-1)) := hid (by
                                      have h : P.err1 = 7 := H1.out.trans Hb.out
                                      exact .inl ⟨by rw [h]; decide, h.symm, rfl⟩)
                                    go_wp2_with fail
                                    refine (HBa 7 _).out.mono ?_
                                    intro e w8 hx8
                                    obtain ⟨rfl, hx8⟩ := hx8
                                    have HB8 := HB2.out.ext ((Hx8.out).trans hx8)
                                    have z0 := HB8.av 0 rfl
                                    have z1 := HB8.av 1 rfl
                                    have f0 := HB8.free 0
                                    have f1 := HB8.free 1
                                    have HBz := hid (two (v0 := (.int .i64 ((7 : Nat) : Int))) (v1 := (.int .i64 (-1))) HB8)
                                    have HKz := hid (two_keep w8 (w.heap.size + 1) (.int .i64 ((7 : Nat) : Int)) (.int .i64 (-1)))
                                    have hE := hid (Keep.new (HW2.out.trans ((Hx8.out).trans hx8)) HKz.out fun b hb => by omega)
                                    clear HB8
                                    go_wp2
                                    have c0 := HBz.out.av 0 rfl
                                    have c1' := HBz.out.av 1 rfl
                                    generalize ((w8.setCell ⟨w.heap.size + 1, 0, none⟩ (.int .i64 ((7 : Nat) : Int))).setCell ⟨w.heap.size + 1, 1, none⟩ (.int .i64 (-1))) = W10 at *
                                    exact bodyPost_ret (v := .agg #[(.int .i64 ((7 : Nat) : Int)), (.int .i64 (-1))]) (by simp [results, Tryz.results9, go_sem, c0, c1']) rfl ⟨hE.out, _, _, rfl, Hf.out⟩
                                  · have Hin := hid hin
                                    rw [decide_eq_false hin]
                                    clear hin
                                    go_wp2
                                    go_roundw
                                    case rel =>
                                      refine ⟨k + 1, by go_num, by omega, fun j hj => ?_, Hx7.out⟩
                                      by_cases hjk : j = k
                                      · subst hjk
                                        rw [Hgq.out]; exact Hin.out
                                      · exact Hpk.out j (by omega)
                                    case measure => simp [intOf]; omega
                                · obtain rfl : k = f.params.length := by omega
                                  have Hb := hid (show bad7 f = false from List.any_eq_false.2 fun j hj => by simp only [decide_eq_true_eq]; exact Hpk.out j (List.mem_range.1 hj))
                                  go_wp2
                                  go_roundw
                                  case rel =>
                                    refine ⟨i + 1, by go_num, by omega, fun j s hj hs => ?_, Hx.out.trans Hxk.out⟩
                                    by_cases hjk : j = i
                                    · subst hjk
                                      obtain rfl := Option.some.inj (Hq.out.symm.trans hs)
                                      exact Hb.out
                                    · exact Hp.out j s (by omega) hs
                                  case measure => simp [intOf]; omega
                            · obtain rfl : i = P.funs.length := by omega
                              have HG7 := hid (any_noU (l := P.funs) (p := bad7) Hp.out)
                              have HE0 := hid (show P.err1 = 0 by rw [H1.out]; unfold PP.funsErr; rw [H9.out, HG2.out, HG7.out]; rfl)
                              clear Hp
                              go_wp2
                              clear d0 d1 d2 HBr
                              go_loopw [18] (fun t18 wr => ∃ k : Nat, t18 = .int .i64 (k : Int) ∧ k ≤ P.stmts.length ∧ (∀ j s, j < k → P.stmts[j]? = some s → P.stmtErr s = 0) ∧ Ext W2 wr) (fun t18 _ => P.stmts.length - (intOf t18).toNat)
                              case atStart => exact ⟨0, rfl, Nat.zero_le _, fun j s h => by omega, Hx.out⟩
                              case round =>
                                clear Hx
                                obtain ⟨k, rfl, hk, hp, hx⟩ := hrel
                                have Hp := hid hp
                                have Hx := hid hx
                                clear hp hx
                                have HBr := hid (HB1.out.ext Hx.out)
                                have d0 := HBr.out.av 0 rfl
                                have d1 := HBr.out.av 1 rfl
                                have d2 := HBr.out.av 2 rfl
                                simp only [pcells, qA0, qA1, qA2] at d0 d1 d2
                                by_cases hlt : k < P.stmts.length
                                · obtain ⟨y, s, av, cv, rfl, hq, e0, e1, e2, e3, hI⟩ := (HP.out.ext Hx.out).stmts.at hlt
                                  have Hq := hid hq
                                  have HIp := hid hI
                                  have hal : (s.args.length : Int) ≤ 9223372036854775807 := by
                                    obtain ⟨_, _, _, h2, h3, _⟩ := hI
                                    omega
                                  have g0 : ∀ w1, Keep (fun _ => False) wr w1 → w1.cell? (y.add (k * 4)) = some (.string s.kind) := fun w1 k => k.ext.cellx e0
                                  have g1 : ∀ w1, Keep (fun _ => False) wr w1 → w1.cell? ⟨(y.add (k * 4)).block, (y.add (k * 4)).off + 1, none⟩ = some (.int .i64 s.x) := fun w1 k => k.ext.cellx e1
                                  have g2 : ∀ w1, Keep (fun _ => False) wr w1 → w1.cell? ⟨(y.add (k * 4)).block, (y.add (k * 4)).off + 2, none⟩ = some (.int .i64 s.y) := fun w1 k => k.ext.cellx e2
                                  have g3 : ∀ w1, Keep (fun _ => False) wr w1 → w1.cell? ⟨(y.add (k * 4)).block, (y.add (k * 4)).off + 3, none⟩ = some (.slice av s.args.length cv) := fun w1 k => k.ext.cellx e3
                                  have m0 := HBr.out.kc (X := fun _ => False) (fun e => e) 0 rfl
                                  have m1 := HBr.out.kc (X := fun _ => False) (fun e => e) 1 rfl
                                  have m2 := HBr.out.kc (X := fun _ => False) (fun e => e) 2 rfl
                                  simp only [pcells, qA0, qA1, qA2] at m0 m1 m2
                                  have HSe := fun w1 (x : Ext wr w1) => hid (rstmterr_any a1 a2 (some y) c1 c2 c3 P s av cv w1 w.heap.size (HIp.out.old (x.old _)) hml2 hal)
                                  unfold pval sval at HSe
                                  clear hq e0 e1 e2 e3 hI d0 d1
                                  go_wp2
                                  refine wp_flowT (fun _ => False) (by kernel_rfl) (by kernel_rfl) ?_
                                  repeat (apply FlowT.d; (intro w1 hk; unfold does; go_simp; (try go_ints); (first | exact DetR.mk | (simp only [↓IntWalk.iteOmega, Oper.doesUpon_value]; exact DetR.mk) | (simp only [↓IntWalk.iteOmega]; go_simp; (try go_ints); exact DetR.mk))); simp only [Act.put, qS0, qS1, qS2])
                                  apply FlowT.d
                                  · intro w1 hk
                                    unfold does
                                    go_simp
                                    exact CallR.det ((HSe w1 hk.ext).out)
                                  simp only [Act.put, qS0, qS1, qS2]
                                  repeat (apply FlowT.d; (intro w1 hk; unfold does; go_simp; (try go_ints); (first | exact DetR.mk | (simp only [↓IntWalk.iteOmega, Oper.doesUpon_value]; exact DetR.mk) | (simp only [↓IntWalk.iteOmega]; go_simp; (try go_ints); exact DetR.mk))); simp only [Act.put, qS0, qS1, qS2])
                                  refine FlowT.fin fun w7 hx7 hk7 => ?_
                                  have Hx7 := hid (Hx.out.trans hx7)
                                  clear hx7 hk7 g0 g1 g2 g3 m0 m1 m2 HSe d2
                                  by_cases hz : P.stmtErr s = 0
                                  · have Hz := hid hz
                                    rw [hz]
                                    clear hz
                                    go_wp2
                                    go_roundw
                                    case rel =>
                                      refine ⟨k + 1, by go_num, by omega, fun j t hj hs => ?_, Hx7.out⟩
                                      by_cases hjk : j = k
                                      · subst hjk
                                        obtain rfl := Option.some.inj (Hq.out.symm.trans hs)
                                        exact Hz.out
                                      · exact Hp.out j t (by omega) hs
                                    case measure => simp [intOf]; omega
                                  · have Hf : Hid (FaultIs P (P.stmtErr s) (k : Int)) := hid (.inr (.inr ⟨HE0.out, k, s, ⟨Hq.out, hz, fun j t hj ht => Hp.out j t hj ht⟩, rfl, rfl⟩))
                                    have hpos : 0 < P.stmtErr s := Nat.pos_of_ne_zero hz
                                    clear hz
                                    generalize P.stmtErr s = ec at *
                                    have HB8 := HB2.out.ext Hx7.out
                                    have z0 := HB8.av 0 rfl
                                    have z1 := HB8.av 1 rfl
                                    have f0 := HB8.free 0
                                    have f1 := HB8.free 1
                                    have HBz := hid (two (v0 := (.int .i64 (ec : Int))) (v1 := (.int .i64 (k : Int))) HB8)
                                    have HKz := hid (two_keep w7 (w.heap.size + 1) (.int .i64 (ec : Int)) (.int .i64 (k : Int)))
                                    have hE := hid (Keep.new (HW2.out.trans Hx7.out) HKz.out fun b hb => by omega)
                                    clear HB8
                                    go_wp2
                                    have c0 := HBz.out.av 0 rfl
                                    have c1' := HBz.out.av 1 rfl
                                    generalize ((w7.setCell ⟨w.heap.size + 1, 0, none⟩ (.int .i64 (ec : Int))).setCell ⟨w.heap.size + 1, 1, none⟩ (.int .i64 (k : Int))) = W10 at *
                                    exact bodyPost_ret (v := .agg #[(.int .i64 (ec : Int)), (.int .i64 (k : Int))]) (by simp [results, Tryz.results9, go_sem, c0, c1']) rfl ⟨hE.out, _, _, rfl, Hf.out⟩
                                · obtain rfl : k = P.stmts.length := by omega
                                  have Hf : Hid (FaultIs P 0 (-1)) := hid (.inr (.inl ⟨HE0.out, fun j t _ ht => Hp.out j t (by
                                    rcases Nat.lt_or_ge j P.stmts.length with h | h
                                    · exact h
                                    · rw [List.getElem?_eq_none h] at ht; cases ht) ht, rfl, rfl⟩))
                                  have HFi := fun w1 => hid (rfine_any w1)
                                  clear Hp
                                  go_wp2_with fail
                                  refine (HFi _).out.mono ?_
                                  intro e w8 hx8
                                  obtain ⟨rfl, hx8⟩ := hx8
                                  have HB8 := HB2.out.ext (Hx.out.trans hx8)
                                  have z0 := HB8.av 0 rfl
                                  have z1 := HB8.av 1 rfl
                                  have f0 := HB8.free 0
                                  have f1 := HB8.free 1
                                  have HBz := hid (two (v0 := (.int .i64 ((0 : Nat) : Int))) (v1 := (.int .i64 (-1))) HB8)
                                  have HKz := hid (two_keep w8 (w.heap.size + 1) (.int .i64 ((0 : Nat) : Int)) (.int .i64 (-1)))
                                  have hE := hid (Keep.new (HW2.out.trans (Hx.out.trans hx8)) HKz.out fun b hb => by omega)
                                  clear HB8
                                  go_wp2
                                  have c0 := HBz.out.av 0 rfl
                                  have c1' := HBz.out.av 1 rfl
                                  generalize ((w8.setCell ⟨w.heap.size + 1, 0, none⟩ (.int .i64 ((0 : Nat) : Int))).setCell ⟨w.heap.size + 1, 1, none⟩ (.int .i64 (-1))) = W10 at *
                                  exact bodyPost_ret (v := .agg #[(.int .i64 ((0 : Nat) : Int)), (.int .i64 (-1))]) (by simp [results, Tryz.results9, go_sem, c0, c1']) rfl ⟨hE.out, _, _, rfl, Hf.out⟩
end Go.Proofs.YtihdpijgngooaaaGreatDoor
