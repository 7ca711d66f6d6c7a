/- Texts of one proof, put together: ZZ5 ZZ6 ZZYs. -/
import Derived.Test.YtbagppdibncfdaaGreatDoorHHN18
import Derived.Test.YtbagppdibncfdaaGreatDoorHHN20
set_option linter.unusedSimpArgs false
set_option linter.unusedVariables false
namespace Go.Proofs.YtbagppdibncfdaaGreatDoor
open Go Go.RowKit
section
variable {w w1 w2 : World} {G F : Nat → Prop} {g : Nat} {ad : Nat → Addr} {a1 a2 a3 : Option Addr} {c1 c2 c3 : Nat} {P : PP} {vr : Value} {rs : List R2} {vh : Value} {hs : List Value} {m1 m2 : Nat} {f1 : Int → Option Value} {vw : Value} {s : SV}
end
section
variable {P : PP} {S : List (List Int)} {s : SV} {m : Nat}
def SV.start (P : PP) : SV := P.rulesV.foldl (SV.add P) (SV.zero P)
end
section
variable {P : PP} {me k : Int} {T : NV → Prop} {S : List (List Int)} {s t : SH}
theorem Runs.full (hw : P.Well) (h : Runs P me k s t) (hs : s.Full P me k T) : t.Full P me k T := h.keeps (fun u => u.Full P me k T) (fun _ hu hne => hu.step hw hne) hs
theorem Runs.snd (hg : P.GoodS S) (hc : ClosedP P S) (h : Runs P me k s t) (hs : SndS P S s) : SndS P S t := h.keeps (fun u => SndS P S u) (fun _ hu _ => step_snd hg hc hu) hs
end
theorem SH.Full.rest {P : PP} {me k : Int} {T : NV → Prop} {t : SH} (h : t.Full P me k T) : ({ t with out := [] } : SH).Full P me k fun x => T x ∨ x ∈ t.out := by
  have hd : ∀ x, t.Dn T x → ({ t with out := [] } : SH).Dn (fun x => T x ∨ x ∈ t.out) x := fun x h => by
    rcases h with h | h | h | h
    · exact .inl h
    · exact .inr (.inl h)
    · exact .inr (.inr (.inr (.inr h)))
    · exact .inr (.inr (.inr (.inl h)))
  exact ⟨⟨h.ok.hnd, h.ok.has, h.ok.nnd, h.ok.nxt, h.ok.todo, fun _ h => (by cases h)⟩, ⟨fun e he o ho => hd _ (h.loc.along e he o ho), fun r hr hf o ho e he => (h.loc.told r hr hf o ho e he).imp id (hd _)⟩, ⟨fun r hr h1 h2 => hd _ (h.begun.base r hr h1 h2), fun r hr h1 h2 => (h.begun.copy r hr h1 h2).imp id (hd _)⟩⟩
theorem alone_done {P : PP} {S : List (List Int)} {m : Nat} (hL : LeastAt P m S) (hw : P.Well) {t : SH} (hr : Runs P ((0 : Nat) : Int) ((1 : Nat) : Int) (SH.start P ((0 : Nat) : Int) ((1 : Nat) : Int)) t) (ht : t.todo = []) :
    t.out = [] ∧ t.Ok P ((0 : Nat) : Int) ((1 : Nat) : Int) ∧ ∀ n : Nat, n < P.nodesV → keysL t.has (n : Int) = S.getD n [] := by
  have hg := hL.good hw
  have hc := hL.closed hw
  have hf := hr.full hw (start_full hw)
  have hs := hr.snd hg hc (start_snd hg hc)
  have ho : t.out = [] := List.eq_nil_iff_forall_not_mem.2 fun x hx => by
    obtain ⟨h1, h2⟩ := hf.ok.out x hx
    rcases h1.is with ⟨_, n, _, _, _, h3, _⟩ | ⟨_, a, _, _, _, h3, _⟩
    · exact h2 (by rw [h3]; simp)
    · exact h2 (by rw [h3]; simp)
  refine ⟨ho, hf.ok, fun n hn => ?_⟩
  have h := shards_done hL hw 1 (by omega) (fun _ => t) (fun _ _ => False) (fun i hi => (by have e : i = 0 := (by omega); rw [e]; exact hf)) (fun _ _ => ⟨ht, ho⟩) (fun _ _ => hs) (fun _ _ _ h => h.elim) hn
  exact h
theorem SC.own_yes {c : SC} {n : Int} (h : 0 ≤ n ∧ n < (c.P.nodesV : Int) ∧ n % (c.k : Int) = (c.me : Int)) (s : SH) : c.hasL s n = keysL s.has n := by
  unfold SC.hasL SC.own
  rw [decide_eq_true h]; rfl
set_option maxRecDepth 100000 in
set_option maxHeartbeats 3200000 in
theorem shardedfact_any (w : World) (ad : Nat → Addr) (hE : ErrsP w ad) : Calls Tryz.prog 25 #[] w fun e w' => e = .returned (.bool true) ∧ Ext w w' := by
  obtain ⟨W1, hW1⟩ : ∃ W1, W1 = w.alloc (.cells #[.string ⟨#[97]⟩, .string ⟨#[98]⟩] 9) := ⟨_, rfl⟩
  obtain ⟨W2, hW2⟩ : ∃ W2, W2 = W1.alloc (.cells fixedS 77) := ⟨_, rfl⟩
  obtain ⟨W3, hW3⟩ : ∃ W3, W3 = W2.alloc (.cells #[.slice (some ⟨w.heap.size, 0, none⟩) 2 2, .slice none 0 0, .slice (some ⟨w.heap.size + 1, 0, none⟩) 2 2] 26) := ⟨_, rfl⟩
  have x1 : Ext w W1 := by rw [hW1]; exact (Ext.refl _).alloc _
  have x2 : Ext W1 W2 := by rw [hW2]; exact (Ext.refl _).alloc _
  have x3 : Ext W2 W3 := by rw [hW3]; exact (Ext.refl _).alloc _
  have s1 : W1.heap.size = w.heap.size + 1 := by rw [hW1, heap_size_alloc]
  have s2 : W2.heap.size = w.heap.size + 2 := by rw [hW2, heap_size_alloc, s1]
  have s3 : W3.heap.size = w.heap.size + 3 := by rw [hW3, heap_size_alloc, s2]
  have bA : Blk W1 w.heap.size #[.string ⟨#[97]⟩, .string ⟨#[98]⟩] 9 := by rw [hW1]; exact Blk.new _ _ _
  have bB : Blk W2 (w.heap.size + 1) fixedS 77 := by rw [hW2, ← s1]; exact Blk.new _ _ _
  have hP := fixed_prog (n0 := W3.heap.size) (bA.ext (x2.trans x3)) (bB.ext x3) (by omega) (by omega)
  have xx : Ext w W3 := x1.trans (x2.trans x3)
  have HD := hid (shardnew_yes _ _ _ 2 0 2 fixedP 0 1 W3 W3.heap.size ad ⟨hE.ext xx, hP, fun s hs => by rcases (by simpa [fixedP] using hs : s = ⟨#[97]⟩ ∨ s = ⟨#[98]⟩) with rfl | rfl <;> decide, fun s hs => by simp [PP.names, fixedP] at hs, fixed_well⟩ (Nat.le_refl _) (by omega))
  have HX := hid xx
  have HW3 : Hid (W3 = ((w.alloc (.cells #[.string ⟨#[97]⟩, .string ⟨#[98]⟩] 9)).alloc (.cells #[.string ⟨#[97, 100, 100, 114]⟩, .int .i64 0, .int .i64 1, .slice none 0 0, .string ⟨#[99, 111, 112, 121]⟩, .int .i64 1, .int .i64 0, .slice none 0 0] 77)).alloc (.cells #[.slice (some ⟨w.heap.size, 0, none⟩) 2 2, .slice none 0 0, .slice (some ⟨w.heap.size + 1, 0, none⟩) 2 2] 26)) := hid (by rw [hW3, hW2, hW1]; rfl)
  unfold pval at HD
  rw [show (((0 : Nat) : Int)) = (0 : Int) from rfl, show (((1 : Nat) : Int)) = (1 : Int) from rfl] at HD
  clear hE hW1 hW2 hW3 x1 x2 x3 s1 s2 s3 bA bB hP xx
  go_enter Tryz.func25, Tryz.ntmps25
  go_wp2_with fail
  rw [← HW3.out]
  refine HD.out.mono ?_
  intro e w5 hx
  obtain ⟨g, c, G, F, u, t, os, rfl, hcP, hcm, hck, hr, ht, hS, hN, hF, hI, hG, hx5⟩ := hx
  obtain ⟨ho, hok, hk⟩ := alone_done fixed_least fixed_well hr ht
  obtain ⟨au, cu, hu⟩ := hN.row.form
  rw [ho, List.length_nil] at hu
  subst hu
  have HX5 := hid (HX.out.trans hx5)
  have HHa := hid (shardhas_any c { t with out := [] } 1 w5 G F g hS (by
    rw [hcP, hcm, hck]
    exact ⟨hok.hnd, hok.has, hok.nnd, hok.nxt, hok.todo, fun _ h => (by cases h)⟩))
  rw [SC.own_yes (by rw [hcP, hcm, hck, fixed_nodes]; decide)] at HHa
  rw [show keysL ({ t with out := [] } : SH).has 1 = [1] from hk 1 (by rw [fixed_nodes]; decide)] at HHa
  clear HD hr ht hS hN hF hI hG hx5 ho hok hk hcP hcm hck
  go_wp2_with fail
  refine HHa.out.mono ?_
  intro e w8 hx
  obtain ⟨v, rfl, hr8, hx8⟩ := hx
  obtain ⟨av, cv, rfl⟩ := hr8.form
  obtain ⟨W9, hW9⟩ : ∃ W9, W9 = w8.alloc (.cells #[.int .i64 1] 3) := ⟨_, rfl⟩
  have hx9 : Ext w8 W9 := by rw [hW9]; exact (Ext.refl _).alloc _
  have HW9 := hid hW9
  have HC := hid (sameints_any av (some ⟨w8.heap.size, 0, none⟩) 1 1 cv 1 [1] [1] W9 (IntsR.ints (n0 := W9.heap.size) (IntsR.own (hr8.ext hx9) (Nat.le_refl _)) (setok_few (by decide))) (IntsR.ints (n0 := W9.heap.size) (IntsR.blk (l := [1]) (by rw [hW9]; exact Blk.new w8 #[.int .i64 1] 3) rfl (by simp)) (setok_few (by decide))) (by decide) (by decide))
  rw [decide_eq_true rfl] at HC
  have HX9 := hid (HX5.out.trans (hx8.trans hx9))
  clear HHa hr8 hx8 hW9 hx9
  go_wp2_with fail
  rw [← HW9.out]
  refine HC.out.mono ?_
  intro e w10 hx
  obtain ⟨rfl, hx10⟩ := hx
  have HX10 := hid (HX9.out.trans hx10)
  clear HC hx10
  go_wp2
  go_ret
  exact ⟨rfl, HX10.out⟩
end Go.Proofs.YtbagppdibncfdaaGreatDoor
