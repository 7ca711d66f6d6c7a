/- FrameTells walked. -/
import Derived.Test.YtmdcjfgdmmncpaaDoorFI
import Derived.Test.YtmdcjfgdmmncpaaDoorFO
namespace Go.Proofs.YtmdcjfgdmmncpaaDoor
set_option linter.unusedSimpArgs false
set_option linter.unusedVariables false
open Go Go.RowKit

theorem refof_bad (s : ByteArray) (w : World) (hs : s.size ≤ 1000000) (h : textCode s ≠ 0) :
    Calls Tryd.prog 41 #[.string s] w fun e w' => e = .returned (.tuple #[fr0, .int .i64 (textCode s : Int)]) ∧ Ext w w' := by
  rcases textCode_ne h with ⟨h1, h2⟩ | ⟨h1, h2, h3⟩ | ⟨h1, h2, h3⟩
  · rw [h2]; exact refof_size s w hs h1
  · rw [h3]; exact refof_sum s w hs h1 h2
  · rw [h3] at h ⊢
    refine (refof_rest s w hs h1 h2).mono fun e w' hx => ?_
    unfold OfR at hx
    rwa [if_neg h] at hx
theorem refof_ok (s : ByteArray) (w : World) (hs : s.size ≤ 1000000) (h : textCode s = 0) :
    Calls Tryd.prog 41 #[.string s] w fun e w' => ∃ a cap, e = .returned (.tuple #[frv (frOf s) a cap, .int .i64 0]) ∧ Ints w' a (frOf s).nums.length (frOf s).nums ∧ Ext w w' := by
  obtain ⟨h1, h2, h3⟩ := textCode_zero h
  refine (refof_rest s w hs h1 h2).mono fun e w' hx => ?_
  unfold OfR at hx
  rwa [if_pos h3] at hx
theorem Fr.code_le (f : Fr) : f.code ≤ 11 := by
  unfold Fr.code
  have key : ∀ k b1 b2 b3 far same full, codeOf k b1 b2 b3 far same full ≤ 11 := by
    intro k b1 b2 b3 far same full
    cases k <;> cases b1 <;> cases b2 <;> cases b3 <;> cases far <;> cases same <;> cases full <;> decide
  exact key _ _ _ _ _ _ _
theorem textCode_le (s : ByteArray) : textCode s ≤ 11 := by
  unfold textCode
  cases sizeOk s <;> cases sumOk s <;> simp [Fr.code_le]

set_option maxRecDepth 100000 in
set_option maxHeartbeats 1600000 in
theorem frameTells_no (f : Fr) (a : Option Addr) (cap : Nat) (s : ByteArray) (w : World) (ad : Nat → Addr) (h : AllErrs w ad) (hl : (f.nums.length : Int) ≤ 9223372036854775807) (hl3 : (s.size : Int) ≤ 9223372036854775807) (hn : (30 < f.nums.length ∧ f.nums.length ≠ 201) ∨ 300 < s.size) :
    Calls Tryd.prog 9 #[frv f a cap, .string s] w fun e w' => e = .returned (.bool true) ∧ Ext w w' := by
  have HN := fun w1 (x : Ext w w1) => hid (framed_any w1 (evOf ad) (h.errs.ext x))
  obtain ⟨k1, f1, t1, s1, n1⟩ := f
  unfold frv
  simp only at *
  obtain ⟨W, hW⟩ : ∃ W, W = w.alloc (Obj.cells #[Value.int .u8 (k1.toNat : Int), .int .i64 f1, .int .i64 t1, .int .i64 s1, .slice a n1.length cap] 24) := ⟨_, rfl⟩
  have xW : Ext w W := by rw [hW]; exact (Ext.refl w).alloc _
  have bA : Blk W w.heap.size #[Value.int .u8 (k1.toNat : Int), .int .i64 f1, .int .i64 t1, .int .i64 s1, .slice a n1.length cap] 24 := by rw [hW]; exact Blk.new _ _ _
  have HW := hid hW
  clear hW
  have d0 := bA.ec 0 rfl
  have d1 := bA.ec 1 rfl
  have d2 := bA.ec 2 rfl
  have d3 := bA.ec 3 rfl
  have d4 := bA.ec 4 rfl
  by_cases h1 : 30 < n1.length ∧ n1.length ≠ 201
  · obtain ⟨h1, h2⟩ := h1
    have h3 : ((n1.length : Int) != 201) = true := bne_iff_ne.2 (by omega)
    clear hn h2
    go_enter Tryd.func9, Tryd.ntmps9
    go_wp2_with fail
    rw [← HW.out]
    refine (HN W xW).out.mono ?_
    intro e w1 hx
    obtain ⟨rfl, hx1⟩ := hx
    clear HN
    go_wp2
    go_ret
    exact ⟨rfl, xW.trans hx1⟩
  · have h3 : 300 < s.size := by omega
    by_cases h4 : 30 < n1.length
    · have h5 : ((n1.length : Int) != 201) = false := by simp; omega
      clear hn h1
      go_enter Tryd.func9, Tryd.ntmps9
      go_wp2_with fail
      rw [← HW.out]
      refine (HN W xW).out.mono ?_
      intro e w1 hx
      obtain ⟨rfl, hx1⟩ := hx
      clear HN
      go_wp2
      go_ret
      exact ⟨rfl, xW.trans hx1⟩
    · clear hn h1
      go_enter Tryd.func9, Tryd.ntmps9
      go_wp2_with fail
      rw [← HW.out]
      refine (HN W xW).out.mono ?_
      intro e w1 hx
      obtain ⟨rfl, hx1⟩ := hx
      clear HN
      go_wp2
      go_ret
      exact ⟨rfl, xW.trans hx1⟩

theorem Ints.nil (w : World) : Ints w none 0 [] := ⟨rfl, fun h => by omega, fun x hx => (by cases hx), fun i => by simp⟩

set_option maxRecDepth 100000 in
set_option maxHeartbeats 6400000 in
theorem frameTells_yes (f : Fr) (a : Option Addr) (cap : Nat) (s : ByteArray) (w : World) (ad : Nat → Addr) (h : AllErrs w ad) (hr : Ints w a f.nums.length f.nums) (h1 : f.nums.length ≤ 30 ∨ f.nums.length = 201) (h2 : s.size ≤ 300) :
    Calls Tryd.prog 9 #[frv f a cap, .string s] w fun e w' => e = .returned (.bool true) ∧ Ext w w' := by
  have hcle := Fr.code_le f
  have HN := fun w1 (x : Ext w w1) => hid (framed_any w1 (evOf ad) (h.errs.ext x))
  obtain ⟨k1, f1, t1, s1, n1⟩ := f
  unfold frv
  simp only at *
  obtain ⟨W, hW⟩ : ∃ W, W = w.alloc (Obj.cells #[Value.int .u8 (k1.toNat : Int), .int .i64 f1, .int .i64 t1, .int .i64 s1, .slice a n1.length cap] 24) := ⟨_, rfl⟩
  have xW : Ext w W := by rw [hW]; exact (Ext.refl w).alloc _
  have bA : Blk W w.heap.size #[Value.int .u8 (k1.toNat : Int), .int .i64 f1, .int .i64 t1, .int .i64 s1, .slice a n1.length cap] 24 := by rw [hW]; exact Blk.new _ _ _
  have HW := hid hW
  clear hW
  have d0 := bA.ec 0 rfl
  have d1 := bA.ec 1 rfl
  have d2 := bA.ec 2 rfl
  have d3 := bA.ec 3 rfl
  have d4 := bA.ec 4 rfl
  have HA1 := fun w1 (x : Ext W w1) => hid (asframe_any ⟨k1, f1, t1, s1, n1⟩ a cap w1 (hr.ext (xW.trans x)) (by simp only; omega))
  have HF := fun w1 (x : Ext W w1) => hid (referror_any ⟨k1, f1, t1, s1, n1⟩ a cap w1 (hr.ext (xW.trans x)) (by simp only; omega))
  have HT := fun w1 (x : Ext W w1) => fun hc => hid (reftext_any ⟨k1, f1, t1, s1, n1⟩ a cap w1 (hr.ext (xW.trans x)) hc)
  have Hi1 := hid hr.hi
  have hm1 : (n1.length : Int) ≤ 9223372036854775807 := by omega
  have HE0 := fun w1 a1 c1 (x : Ext W w1) (hI : Ints w1 a1 n1.length n1) hc => hid (fencode_ok ⟨k1, f1, t1, s1, n1⟩ a1 c1 w1 (evOf ad) hI hm1 (h.errs.ext (xW.trans x)) hc)
  have HE1 := fun w1 a1 c1 (x : Ext W w1) (hI : Ints w1 a1 n1.length n1) hc => hid (fencode_bad ⟨k1, f1, t1, s1, n1⟩ a1 c1 w1 (evOf ad) hI hm1 (h.errs.ext (xW.trans x)) hc (evOf_iface ad _ hc))
  have HK := fun w1 a1 c1 (x : Ext W w1) (hI : Ints w1 a1 n1.length n1) => hid (fcheck_any ⟨k1, f1, t1, s1, n1⟩ a1 c1 w1 (evOf ad) hI hm1 (h.errs.ext (xW.trans x)))
  have HC := fun w1 (x : Ext W w1) => hid (coded3_any w1 ad (h.ext (xW.trans x)) (Fr.code ⟨k1, f1, t1, s1, n1⟩) hcle (Fr.code ⟨k1, f1, t1, s1, n1⟩ : Int))
  unfold frv at HA1 HF HT HE0 HE1 HK
  simp only at HA1 HF HT HE0 HE1 HK
  obtain ⟨c, hc⟩ : ∃ c, c = Fr.code ⟨k1, f1, t1, s1, n1⟩ := ⟨_, rfl⟩
  obtain ⟨x1, hX1⟩ : ∃ x, x = Fr.text ⟨k1, f1, t1, s1, n1⟩ := ⟨_, rfl⟩
  rw [← hc] at HF HT HE0 HE1 HK HC
  rw [← hX1] at HT HE0
  simp only [decide_eq_true (rfl : (c : Int) = (c : Int))] at HC
  have hsz : s.size ≤ 1000000 := by omega
  have HSum := fun w => hid (sum_any s w hsz)
  have HCrc := fun w => hid (refcrc_any s w hsz)
  have hcrc := crc_lt s.data.toList
  have hb : ∀ p : Prop, 30 < n1.length → ((n1.length : Int) != 201) = false := fun _ _ => by simp; omega
  have Hb := hid hb
  clear hr hc hX1 hcle hb h1
  by_cases hc0 : c = 0
  · subst hc0
    have HE := fun w1 a1 c1 x hI => HE0 w1 a1 c1 x hI rfl
    have he1 : errv (evOf ad) 0 = .nilIface := by unfold errv; rw [if_pos rfl]
    rw [he1] at HK HC
    clear HE0 HE1 he1
    by_cases h30 : 30 < n1.length
    · have h201 := Hb.out True h30
      go_enter Tryd.func9, Tryd.ntmps9
      go_wp2_with fail
      rw [← HW.out]
      refine (HN W xW).out.mono ?_
      intro e w1 hx
      obtain ⟨rfl, hx1⟩ := hx
      clear HN
      go_wp2_with fail
      refine (HA1 _ hx1).out.mono ?_
      rintro e u1 ⟨a1, c1, rfl, hI1, hy1⟩
      replace hy1 := hx1.trans hy1
      have hIU := fun w1 (x : Ext (u1.alloc (.cells #[Value.int .u8 (k1.toNat : Int), .int .i64 f1, .int .i64 t1, .int .i64 s1, .slice a1 n1.length c1] 30)) w1) => hid ((hI1.ints Hi1.out).ext (((Ext.refl u1).alloc _).trans x))
      have hWU := hy1.alloc (.cells #[Value.int .u8 (k1.toNat : Int), .int .i64 f1, .int .i64 t1, .int .i64 s1, .slice a1 n1.length c1] 30)
      have bA2 := bA.ext hWU
      have bU := Blk.new u1 #[Value.int .u8 (k1.toNat : Int), .int .i64 f1, .int .i64 t1, .int .i64 s1, .slice a1 n1.length c1] 30
      clear d0 d1 d2 d3 d4 bA HA1 hI1
      have d0 := bA2.ec 0 rfl
      have d1 := bA2.ec 1 rfl
      have d2 := bA2.ec 2 rfl
      have d3 := bA2.ec 3 rfl
      have d4 := bA2.ec 4 rfl
      have e0 := bU.ec 0 rfl
      have e1 := bU.ec 1 rfl
      have e2 := bU.ec 2 rfl
      have e3 := bU.ec 3 rfl
      have e4 := bU.ec 4 rfl
      have D0 := bA2.av 0 rfl
      have D1 := bA2.av 1 rfl
      have D2 := bA2.av 2 rfl
      have D3 := bA2.av 3 rfl
      have D4 := bA2.av 4 rfl
      go_wp2_with fail
      refine (HF _ hWU).out.mono ?_
      intro e w2 hx
      obtain ⟨rfl, hx2⟩ := hx
      clear D0 D1 D2 D3 D4
      go_wp2_with fail
      refine (HE _ a1 c1 (hWU.trans hx2) (hIU _ hx2).out).out.mono ?_
      intro e w3 hx
      obtain ⟨rfl, hx3⟩ := hx
      replace hx3 := hx2.trans hx3
      go_wp2_with fail
      refine (HK _ a1 c1 (hWU.trans hx3) (hIU _ hx3).out).out.mono ?_
      intro e w4 hx
      obtain ⟨rfl, hx4⟩ := hx
      replace hx4 := hx3.trans hx4
      go_wp2_with fail
      refine (HC _ (hWU.trans hx4)).out.mono ?_
      intro e w5 hx
      obtain ⟨rfl, hx5⟩ := hx
      replace hx5 := hx4.trans hx5
      go_wp2_with fail
      refine (HC _ (hWU.trans hx5)).out.mono ?_
      intro e w6 hx
      obtain ⟨rfl, hx6⟩ := hx
      replace hx6 := hx5.trans hx6
      clear hx2 hx3 hx4 hx5 HF HE HK HC hIU
      go_wp2_with fail
      refine (HT _ (hWU.trans hx6) True.intro).out.mono ?_
      intro e w7 hx
      obtain ⟨rfl, hx7⟩ := hx
      have hq := xW.trans (hWU.trans (hx6.trans hx7))
      clear hx6 hx7 hWU d0 d1 d2 d3 d4 e0 e1 e2 e3 e4 bA2 bU HT
      by_cases htc : textCode s = 0
      · have hD := hid (fdecode_ok s w7 (evOf ad) hsz (h.errs.ext hq) htc)
        have hR := fun w1 => hid (refof_ok s w1 hsz htc)
        rcases hg : frOf s with ⟨gk, gf, gt, gs, gn⟩
        rw [hg] at hD hR
        unfold frv at hD hR
        simp only at hD hR
        have hgl : (gn.length : Int) ≤ 9223372036854775807 := by
          have := congrArg (fun f : Fr => f.nums.length) hg
          simp [frOf] at this
          have := byte_lt (at8 s 7)
          omega
        have HS := fun w1 a b c d (ha : Ints w1 a gn.length gn) (hb : Ints w1 b gn.length gn) => hid (sameints_any a b gn.length gn.length c d gn gn w1 ha hb hgl hgl)
        simp only [decide_eq_true (rfl : gn = gn)] at HS
        have HC := fun w1 (x : Ext w w1) => hid (coded3_any w1 ad (h.ext x) 0 (by omega) 0)
        unfold errv at HC
        simp only [if_pos] at HC
        simp only [show decide (((0 : Nat) : Int) = 0) = true by decide] at HC
        clear htc hg h
        go_wp2_with fail
        refine hD.out.mono ?_
        rintro e v1 ⟨a2, c2, rfl, hI2, hv1⟩
        replace hv1 := hq.trans hv1
        clear hD
        go_wp2_with fail
        refine (hR _).out.mono ?_
        rintro e v2 ⟨a3, c3, rfl, hI3, hv2⟩
        clear hR
        have hvA := hv2.alloc (.cells #[Value.int .u8 (gk.toNat : Int), .int .i64 gf, .int .i64 gt, .int .i64 gs, .slice a3 gn.length c3] 24)
        have b10 := (Blk.new v1 #[Value.int .u8 (gk.toNat : Int), .int .i64 gf, .int .i64 gt, .int .i64 gs, .slice a2 gn.length c2] 30).ext hvA
        have b11 := Blk.new v2 #[Value.int .u8 (gk.toNat : Int), .int .i64 gf, .int .i64 gt, .int .i64 gs, .slice a3 gn.length c3] 24
        have p0 := b10.ec 0 rfl
        have p1 := b10.ec 1 rfl
        have p2 := b10.ec 2 rfl
        have p3 := b10.ec 3 rfl
        have p4 := b10.ec 4 rfl
        have r0 := b11.ec 0 rfl
        have r1 := b11.ec 1 rfl
        have r2 := b11.ec 2 rfl
        have r3 := b11.ec 3 rfl
        have r4 := b11.ec 4 rfl
        have hIa := hid ((hI2.ext ((Ext.refl v1).alloc _)).ext hvA)
        have hIb := hid (hI3.ext ((Ext.refl v2).alloc (.cells #[Value.int .u8 (gk.toNat : Int), .int .i64 gf, .int .i64 gt, .int .i64 gs, .slice a3 gn.length c3] 24)))
        have hwz := (hv1.alloc _).trans hvA
        clear b10 b11 hI2 hI3
        go_wp2_with fail
        refine (HC _ hwz).out.mono ?_
        intro e v3 hx
        obtain ⟨rfl, hv3⟩ := hx
        go_wp2_with fail
        refine (HS _ a2 a3 c2 c3 (hIa.out.ext hv3) (hIb.out.ext hv3)).out.mono ?_
        intro e v4 hx
        obtain ⟨rfl, hv4⟩ := hx
        replace hv4 := hv3.trans hv4
        go_wp2_with fail
        refine (HSum _).out.mono ?_
        intro e v5 hx
        obtain ⟨rfl, rfl⟩ := hx
        go_wp2_with fail
        refine (HCrc _).out.mono ?_
        intro e v6 hx
        obtain ⟨rfl, rfl⟩ := hx
        have hfin := hwz.trans hv4
        clear p0 p1 p2 p3 p4 r0 r1 r2 r3 r4
        go_wp2
        go_ret
        exact ⟨rfl, hfin⟩
      · have hD := hid (fdecode_bad s w7 (evOf ad) hsz (h.errs.ext hq) (evOf_iface ad) htc)
        have hR := fun w1 => hid (refof_bad s w1 hsz htc)
        have htl := textCode_le s
        have HS := fun w1 => hid (sameints_any none none 0 0 0 0 [] [] w1 (Ints.nil _) (Ints.nil _) (by omega) (by omega))
        simp only [decide_eq_true (rfl : ([] : List Int) = [])] at HS
        have HC := fun w1 (x : Ext w w1) => hid (coded3_any w1 ad (h.ext x) (textCode s) htl (textCode s : Int))
        unfold errv at HC
        rw [if_neg htc] at HC
        unfold evOf at HC hD
        unfold fr0 at hD hR
        obtain ⟨tc, hc⟩ : ∃ tc, tc = textCode s := ⟨_, rfl⟩
        rw [← hc] at hD hR HC
        simp only [decide_eq_true (rfl : (tc : Int) = (tc : Int))] at HC
        clear htc h htl hc
        generalize ad tc = atc at *
        go_wp2_with fail
        refine hD.out.mono ?_
        intro e v1 hx
        obtain ⟨rfl, hv1⟩ := hx
        replace hv1 := hq.trans hv1
        clear hD
        go_wp2_with fail
        refine (hR _).out.mono ?_
        intro e v2 hx
        obtain ⟨rfl, hv2⟩ := hx
        clear hR
        have hvA := hv2.alloc (.cells #[Value.int .u8 0, .int .i64 0, .int .i64 0, .int .i64 0, .slice none 0 0] 24)
        have b10 := (Blk.new v1 #[Value.int .u8 0, .int .i64 0, .int .i64 0, .int .i64 0, .slice none 0 0] 30).ext hvA
        have b11 := Blk.new v2 #[Value.int .u8 0, .int .i64 0, .int .i64 0, .int .i64 0, .slice none 0 0] 24
        have p0 := b10.ec 0 rfl
        have p1 := b10.ec 1 rfl
        have p2 := b10.ec 2 rfl
        have p3 := b10.ec 3 rfl
        have p4 := b10.ec 4 rfl
        have r0 := b11.ec 0 rfl
        have r1 := b11.ec 1 rfl
        have r2 := b11.ec 2 rfl
        have r3 := b11.ec 3 rfl
        have r4 := b11.ec 4 rfl
        have hwz := (hv1.alloc _).trans hvA
        clear b10 b11
        go_wp2_with fail
        refine (HC _ hwz).out.mono ?_
        intro e v3 hx
        obtain ⟨rfl, hv3⟩ := hx
        go_wp2_with fail
        refine (HS _).out.mono ?_
        intro e v4 hx
        obtain ⟨rfl, hv4⟩ := hx
        replace hv4 := hv3.trans hv4
        go_wp2_with fail
        refine (HSum _).out.mono ?_
        intro e v5 hx
        obtain ⟨rfl, rfl⟩ := hx
        go_wp2_with fail
        refine (HCrc _).out.mono ?_
        intro e v6 hx
        obtain ⟨rfl, rfl⟩ := hx
        have hfin := hwz.trans hv4
        clear p0 p1 p2 p3 p4 r0 r1 r2 r3 r4
        go_wp2
        go_ret
        exact ⟨rfl, hfin⟩
    · go_enter Tryd.func9, Tryd.ntmps9
      go_wp2_with fail
      rw [← HW.out]
      refine (HN W xW).out.mono ?_
      intro e w1 hx
      obtain ⟨rfl, hx1⟩ := hx
      clear HN
      go_wp2_with fail
      refine (HA1 _ hx1).out.mono ?_
      rintro e u1 ⟨a1, c1, rfl, hI1, hy1⟩
      replace hy1 := hx1.trans hy1
      have hIU := fun w1 (x : Ext (u1.alloc (.cells #[Value.int .u8 (k1.toNat : Int), .int .i64 f1, .int .i64 t1, .int .i64 s1, .slice a1 n1.length c1] 30)) w1) => hid ((hI1.ints Hi1.out).ext (((Ext.refl u1).alloc _).trans x))
      have hWU := hy1.alloc (.cells #[Value.int .u8 (k1.toNat : Int), .int .i64 f1, .int .i64 t1, .int .i64 s1, .slice a1 n1.length c1] 30)
      have bA2 := bA.ext hWU
      have bU := Blk.new u1 #[Value.int .u8 (k1.toNat : Int), .int .i64 f1, .int .i64 t1, .int .i64 s1, .slice a1 n1.length c1] 30
      clear d0 d1 d2 d3 d4 bA HA1 hI1
      have d0 := bA2.ec 0 rfl
      have d1 := bA2.ec 1 rfl
      have d2 := bA2.ec 2 rfl
      have d3 := bA2.ec 3 rfl
      have d4 := bA2.ec 4 rfl
      have e0 := bU.ec 0 rfl
      have e1 := bU.ec 1 rfl
      have e2 := bU.ec 2 rfl
      have e3 := bU.ec 3 rfl
      have e4 := bU.ec 4 rfl
      have D0 := bA2.av 0 rfl
      have D1 := bA2.av 1 rfl
      have D2 := bA2.av 2 rfl
      have D3 := bA2.av 3 rfl
      have D4 := bA2.av 4 rfl
      go_wp2_with fail
      refine (HF _ hWU).out.mono ?_
      intro e w2 hx
      obtain ⟨rfl, hx2⟩ := hx
      clear D0 D1 D2 D3 D4
      go_wp2_with fail
      refine (HE _ a1 c1 (hWU.trans hx2) (hIU _ hx2).out).out.mono ?_
      intro e w3 hx
      obtain ⟨rfl, hx3⟩ := hx
      replace hx3 := hx2.trans hx3
      go_wp2_with fail
      refine (HK _ a1 c1 (hWU.trans hx3) (hIU _ hx3).out).out.mono ?_
      intro e w4 hx
      obtain ⟨rfl, hx4⟩ := hx
      replace hx4 := hx3.trans hx4
      go_wp2_with fail
      refine (HC _ (hWU.trans hx4)).out.mono ?_
      intro e w5 hx
      obtain ⟨rfl, hx5⟩ := hx
      replace hx5 := hx4.trans hx5
      go_wp2_with fail
      refine (HC _ (hWU.trans hx5)).out.mono ?_
      intro e w6 hx
      obtain ⟨rfl, hx6⟩ := hx
      replace hx6 := hx5.trans hx6
      clear hx2 hx3 hx4 hx5 HF HE HK HC hIU
      go_wp2_with fail
      refine (HT _ (hWU.trans hx6) True.intro).out.mono ?_
      intro e w7 hx
      obtain ⟨rfl, hx7⟩ := hx
      have hq := xW.trans (hWU.trans (hx6.trans hx7))
      clear hx6 hx7 hWU d0 d1 d2 d3 d4 e0 e1 e2 e3 e4 bA2 bU HT
      by_cases htc : textCode s = 0
      · have hD := hid (fdecode_ok s w7 (evOf ad) hsz (h.errs.ext hq) htc)
        have hR := fun w1 => hid (refof_ok s w1 hsz htc)
        rcases hg : frOf s with ⟨gk, gf, gt, gs, gn⟩
        rw [hg] at hD hR
        unfold frv at hD hR
        simp only at hD hR
        have hgl : (gn.length : Int) ≤ 9223372036854775807 := by
          have := congrArg (fun f : Fr => f.nums.length) hg
          simp [frOf] at this
          have := byte_lt (at8 s 7)
          omega
        have HS := fun w1 a b c d (ha : Ints w1 a gn.length gn) (hb : Ints w1 b gn.length gn) => hid (sameints_any a b gn.length gn.length c d gn gn w1 ha hb hgl hgl)
        simp only [decide_eq_true (rfl : gn = gn)] at HS
        have HC := fun w1 (x : Ext w w1) => hid (coded3_any w1 ad (h.ext x) 0 (by omega) 0)
        unfold errv at HC
        simp only [if_pos] at HC
        simp only [show decide (((0 : Nat) : Int) = 0) = true by decide] at HC
        clear htc hg h
        go_wp2_with fail
        refine hD.out.mono ?_
        rintro e v1 ⟨a2, c2, rfl, hI2, hv1⟩
        replace hv1 := hq.trans hv1
        clear hD
        go_wp2_with fail
        refine (hR _).out.mono ?_
        rintro e v2 ⟨a3, c3, rfl, hI3, hv2⟩
        clear hR
        have hvA := hv2.alloc (.cells #[Value.int .u8 (gk.toNat : Int), .int .i64 gf, .int .i64 gt, .int .i64 gs, .slice a3 gn.length c3] 24)
        have b10 := (Blk.new v1 #[Value.int .u8 (gk.toNat : Int), .int .i64 gf, .int .i64 gt, .int .i64 gs, .slice a2 gn.length c2] 30).ext hvA
        have b11 := Blk.new v2 #[Value.int .u8 (gk.toNat : Int), .int .i64 gf, .int .i64 gt, .int .i64 gs, .slice a3 gn.length c3] 24
        have p0 := b10.ec 0 rfl
        have p1 := b10.ec 1 rfl
        have p2 := b10.ec 2 rfl
        have p3 := b10.ec 3 rfl
        have p4 := b10.ec 4 rfl
        have r0 := b11.ec 0 rfl
        have r1 := b11.ec 1 rfl
        have r2 := b11.ec 2 rfl
        have r3 := b11.ec 3 rfl
        have r4 := b11.ec 4 rfl
        have hIa := hid ((hI2.ext ((Ext.refl v1).alloc _)).ext hvA)
        have hIb := hid (hI3.ext ((Ext.refl v2).alloc (.cells #[Value.int .u8 (gk.toNat : Int), .int .i64 gf, .int .i64 gt, .int .i64 gs, .slice a3 gn.length c3] 24)))
        have hwz := (hv1.alloc _).trans hvA
        clear b10 b11 hI2 hI3
        go_wp2_with fail
        refine (HC _ hwz).out.mono ?_
        intro e v3 hx
        obtain ⟨rfl, hv3⟩ := hx
        go_wp2_with fail
        refine (HS _ a2 a3 c2 c3 (hIa.out.ext hv3) (hIb.out.ext hv3)).out.mono ?_
        intro e v4 hx
        obtain ⟨rfl, hv4⟩ := hx
        replace hv4 := hv3.trans hv4
        go_wp2_with fail
        refine (HSum _).out.mono ?_
        intro e v5 hx
        obtain ⟨rfl, rfl⟩ := hx
        go_wp2_with fail
        refine (HCrc _).out.mono ?_
        intro e v6 hx
        obtain ⟨rfl, rfl⟩ := hx
        have hfin := hwz.trans hv4
        clear p0 p1 p2 p3 p4 r0 r1 r2 r3 r4
        go_wp2
        go_ret
        exact ⟨rfl, hfin⟩
      · have hD := hid (fdecode_bad s w7 (evOf ad) hsz (h.errs.ext hq) (evOf_iface ad) htc)
        have hR := fun w1 => hid (refof_bad s w1 hsz htc)
        have htl := textCode_le s
        have HS := fun w1 => hid (sameints_any none none 0 0 0 0 [] [] w1 (Ints.nil _) (Ints.nil _) (by omega) (by omega))
        simp only [decide_eq_true (rfl : ([] : List Int) = [])] at HS
        have HC := fun w1 (x : Ext w w1) => hid (coded3_any w1 ad (h.ext x) (textCode s) htl (textCode s : Int))
        unfold errv at HC
        rw [if_neg htc] at HC
        unfold evOf at HC hD
        unfold fr0 at hD hR
        obtain ⟨tc, hc⟩ : ∃ tc, tc = textCode s := ⟨_, rfl⟩
        rw [← hc] at hD hR HC
        simp only [decide_eq_true (rfl : (tc : Int) = (tc : Int))] at HC
        clear htc h htl hc
        generalize ad tc = atc at *
        go_wp2_with fail
        refine hD.out.mono ?_
        intro e v1 hx
        obtain ⟨rfl, hv1⟩ := hx
        replace hv1 := hq.trans hv1
        clear hD
        go_wp2_with fail
        refine (hR _).out.mono ?_
        intro e v2 hx
        obtain ⟨rfl, hv2⟩ := hx
        clear hR
        have hvA := hv2.alloc (.cells #[Value.int .u8 0, .int .i64 0, .int .i64 0, .int .i64 0, .slice none 0 0] 24)
        have b10 := (Blk.new v1 #[Value.int .u8 0, .int .i64 0, .int .i64 0, .int .i64 0, .slice none 0 0] 30).ext hvA
        have b11 := Blk.new v2 #[Value.int .u8 0, .int .i64 0, .int .i64 0, .int .i64 0, .slice none 0 0] 24
        have p0 := b10.ec 0 rfl
        have p1 := b10.ec 1 rfl
        have p2 := b10.ec 2 rfl
        have p3 := b10.ec 3 rfl
        have p4 := b10.ec 4 rfl
        have r0 := b11.ec 0 rfl
        have r1 := b11.ec 1 rfl
        have r2 := b11.ec 2 rfl
        have r3 := b11.ec 3 rfl
        have r4 := b11.ec 4 rfl
        have hwz := (hv1.alloc _).trans hvA
        clear b10 b11
        go_wp2_with fail
        refine (HC _ hwz).out.mono ?_
        intro e v3 hx
        obtain ⟨rfl, hv3⟩ := hx
        go_wp2_with fail
        refine (HS _).out.mono ?_
        intro e v4 hx
        obtain ⟨rfl, hv4⟩ := hx
        replace hv4 := hv3.trans hv4
        go_wp2_with fail
        refine (HSum _).out.mono ?_
        intro e v5 hx
        obtain ⟨rfl, rfl⟩ := hx
        go_wp2_with fail
        refine (HCrc _).out.mono ?_
        intro e v6 hx
        obtain ⟨rfl, rfl⟩ := hx
        have hfin := hwz.trans hv4
        clear p0 p1 p2 p3 p4 r0 r1 r2 r3 r4
        go_wp2
        go_ret
        exact ⟨rfl, hfin⟩
  · have he1 : errv (evOf ad) c = .iface 134 (.pointer (some (ad c))) := by unfold errv; rw [if_neg hc0]; rfl
    have HE := fun w1 a1 c1 x hI => HE1 w1 a1 c1 x hI hc0
    rw [he1] at HK HC
    unfold evOf at HE
    have hcp : (0 : Int) < (c : Int) := by omega
    clear HE0 HE1 HT he1 hc0
    obtain ⟨ac, hac⟩ : ∃ ac, ac = ad c := ⟨_, rfl⟩
    rw [← hac] at HE HK HC
    clear hac
    by_cases h30 : 30 < n1.length
    · have h201 := Hb.out True h30
      go_enter Tryd.func9, Tryd.ntmps9
      go_wp2_with fail
      rw [← HW.out]
      refine (HN W xW).out.mono ?_
      intro e w1 hx
      obtain ⟨rfl, hx1⟩ := hx
      clear HN
      go_wp2_with fail
      refine (HA1 _ hx1).out.mono ?_
      rintro e u1 ⟨a1, c1, rfl, hI1, hy1⟩
      replace hy1 := hx1.trans hy1
      have hIU := fun w1 (x : Ext (u1.alloc (.cells #[Value.int .u8 (k1.toNat : Int), .int .i64 f1, .int .i64 t1, .int .i64 s1, .slice a1 n1.length c1] 30)) w1) => hid ((hI1.ints Hi1.out).ext (((Ext.refl u1).alloc _).trans x))
      have hWU := hy1.alloc (.cells #[Value.int .u8 (k1.toNat : Int), .int .i64 f1, .int .i64 t1, .int .i64 s1, .slice a1 n1.length c1] 30)
      have bA2 := bA.ext hWU
      have bU := Blk.new u1 #[Value.int .u8 (k1.toNat : Int), .int .i64 f1, .int .i64 t1, .int .i64 s1, .slice a1 n1.length c1] 30
      clear d0 d1 d2 d3 d4 bA HA1 hI1
      have d0 := bA2.ec 0 rfl
      have d1 := bA2.ec 1 rfl
      have d2 := bA2.ec 2 rfl
      have d3 := bA2.ec 3 rfl
      have d4 := bA2.ec 4 rfl
      have e0 := bU.ec 0 rfl
      have e1 := bU.ec 1 rfl
      have e2 := bU.ec 2 rfl
      have e3 := bU.ec 3 rfl
      have e4 := bU.ec 4 rfl
      have D0 := bA2.av 0 rfl
      have D1 := bA2.av 1 rfl
      have D2 := bA2.av 2 rfl
      have D3 := bA2.av 3 rfl
      have D4 := bA2.av 4 rfl
      go_wp2_with fail
      refine (HF _ hWU).out.mono ?_
      intro e w2 hx
      obtain ⟨rfl, hx2⟩ := hx
      clear D0 D1 D2 D3 D4
      go_wp2_with fail
      refine (HE _ a1 c1 (hWU.trans hx2) (hIU _ hx2).out).out.mono ?_
      intro e w3 hx
      obtain ⟨rfl, hx3⟩ := hx
      replace hx3 := hx2.trans hx3
      go_wp2_with fail
      refine (HK _ a1 c1 (hWU.trans hx3) (hIU _ hx3).out).out.mono ?_
      intro e w4 hx
      obtain ⟨rfl, hx4⟩ := hx
      replace hx4 := hx3.trans hx4
      go_wp2_with fail
      refine (HC _ (hWU.trans hx4)).out.mono ?_
      intro e w5 hx
      obtain ⟨rfl, hx5⟩ := hx
      replace hx5 := hx4.trans hx5
      go_wp2_with fail
      refine (HC _ (hWU.trans hx5)).out.mono ?_
      intro e w6 hx
      obtain ⟨rfl, hx6⟩ := hx
      replace hx6 := hx5.trans hx6
      clear hx2 hx3 hx4 hx5 HF HE HK HC hIU
      obtain ⟨w7, hw7⟩ : ∃ w7, w7 = w6 := ⟨_, rfl⟩
      subst hw7
      have hq := xW.trans (hWU.trans hx6)
      clear hx6 hWU d0 d1 d2 d3 d4 e0 e1 e2 e3 e4 bA2 bU
      by_cases htc : textCode s = 0
      · have hD := hid (fdecode_ok s w7 (evOf ad) hsz (h.errs.ext hq) htc)
        have hR := fun w1 => hid (refof_ok s w1 hsz htc)
        rcases hg : frOf s with ⟨gk, gf, gt, gs, gn⟩
        rw [hg] at hD hR
        unfold frv at hD hR
        simp only at hD hR
        have hgl : (gn.length : Int) ≤ 9223372036854775807 := by
          have := congrArg (fun f : Fr => f.nums.length) hg
          simp [frOf] at this
          have := byte_lt (at8 s 7)
          omega
        have HS := fun w1 a b c d (ha : Ints w1 a gn.length gn) (hb : Ints w1 b gn.length gn) => hid (sameints_any a b gn.length gn.length c d gn gn w1 ha hb hgl hgl)
        simp only [decide_eq_true (rfl : gn = gn)] at HS
        have HC := fun w1 (x : Ext w w1) => hid (coded3_any w1 ad (h.ext x) 0 (by omega) 0)
        unfold errv at HC
        simp only [if_pos] at HC
        simp only [show decide (((0 : Nat) : Int) = 0) = true by decide] at HC
        clear htc hg h
        go_wp2_with fail
        refine hD.out.mono ?_
        rintro e v1 ⟨a2, c2, rfl, hI2, hv1⟩
        replace hv1 := hq.trans hv1
        clear hD
        go_wp2_with fail
        refine (hR _).out.mono ?_
        rintro e v2 ⟨a3, c3, rfl, hI3, hv2⟩
        clear hR
        have hvA := hv2.alloc (.cells #[Value.int .u8 (gk.toNat : Int), .int .i64 gf, .int .i64 gt, .int .i64 gs, .slice a3 gn.length c3] 24)
        have b10 := (Blk.new v1 #[Value.int .u8 (gk.toNat : Int), .int .i64 gf, .int .i64 gt, .int .i64 gs, .slice a2 gn.length c2] 30).ext hvA
        have b11 := Blk.new v2 #[Value.int .u8 (gk.toNat : Int), .int .i64 gf, .int .i64 gt, .int .i64 gs, .slice a3 gn.length c3] 24
        have p0 := b10.ec 0 rfl
        have p1 := b10.ec 1 rfl
        have p2 := b10.ec 2 rfl
        have p3 := b10.ec 3 rfl
        have p4 := b10.ec 4 rfl
        have r0 := b11.ec 0 rfl
        have r1 := b11.ec 1 rfl
        have r2 := b11.ec 2 rfl
        have r3 := b11.ec 3 rfl
        have r4 := b11.ec 4 rfl
        have hIa := hid ((hI2.ext ((Ext.refl v1).alloc _)).ext hvA)
        have hIb := hid (hI3.ext ((Ext.refl v2).alloc (.cells #[Value.int .u8 (gk.toNat : Int), .int .i64 gf, .int .i64 gt, .int .i64 gs, .slice a3 gn.length c3] 24)))
        have hwz := (hv1.alloc _).trans hvA
        clear b10 b11 hI2 hI3
        go_wp2_with fail
        refine (HC _ hwz).out.mono ?_
        intro e v3 hx
        obtain ⟨rfl, hv3⟩ := hx
        go_wp2_with fail
        refine (HS _ a2 a3 c2 c3 (hIa.out.ext hv3) (hIb.out.ext hv3)).out.mono ?_
        intro e v4 hx
        obtain ⟨rfl, hv4⟩ := hx
        replace hv4 := hv3.trans hv4
        go_wp2_with fail
        refine (HSum _).out.mono ?_
        intro e v5 hx
        obtain ⟨rfl, rfl⟩ := hx
        go_wp2_with fail
        refine (HCrc _).out.mono ?_
        intro e v6 hx
        obtain ⟨rfl, rfl⟩ := hx
        have hfin := hwz.trans hv4
        clear p0 p1 p2 p3 p4 r0 r1 r2 r3 r4
        go_wp2
        go_ret
        exact ⟨rfl, hfin⟩
      · have hD := hid (fdecode_bad s w7 (evOf ad) hsz (h.errs.ext hq) (evOf_iface ad) htc)
        have hR := fun w1 => hid (refof_bad s w1 hsz htc)
        have htl := textCode_le s
        have HS := fun w1 => hid (sameints_any none none 0 0 0 0 [] [] w1 (Ints.nil _) (Ints.nil _) (by omega) (by omega))
        simp only [decide_eq_true (rfl : ([] : List Int) = [])] at HS
        have HC := fun w1 (x : Ext w w1) => hid (coded3_any w1 ad (h.ext x) (textCode s) htl (textCode s : Int))
        unfold errv at HC
        rw [if_neg htc] at HC
        unfold evOf at HC hD
        unfold fr0 at hD hR
        obtain ⟨tc, hc⟩ : ∃ tc, tc = textCode s := ⟨_, rfl⟩
        rw [← hc] at hD hR HC
        simp only [decide_eq_true (rfl : (tc : Int) = (tc : Int))] at HC
        clear htc h htl hc
        generalize ad tc = atc at *
        go_wp2_with fail
        refine hD.out.mono ?_
        intro e v1 hx
        obtain ⟨rfl, hv1⟩ := hx
        replace hv1 := hq.trans hv1
        clear hD
        go_wp2_with fail
        refine (hR _).out.mono ?_
        intro e v2 hx
        obtain ⟨rfl, hv2⟩ := hx
        clear hR
        have hvA := hv2.alloc (.cells #[Value.int .u8 0, .int .i64 0, .int .i64 0, .int .i64 0, .slice none 0 0] 24)
        have b10 := (Blk.new v1 #[Value.int .u8 0, .int .i64 0, .int .i64 0, .int .i64 0, .slice none 0 0] 30).ext hvA
        have b11 := Blk.new v2 #[Value.int .u8 0, .int .i64 0, .int .i64 0, .int .i64 0, .slice none 0 0] 24
        have p0 := b10.ec 0 rfl
        have p1 := b10.ec 1 rfl
        have p2 := b10.ec 2 rfl
        have p3 := b10.ec 3 rfl
        have p4 := b10.ec 4 rfl
        have r0 := b11.ec 0 rfl
        have r1 := b11.ec 1 rfl
        have r2 := b11.ec 2 rfl
        have r3 := b11.ec 3 rfl
        have r4 := b11.ec 4 rfl
        have hwz := (hv1.alloc _).trans hvA
        clear b10 b11
        go_wp2_with fail
        refine (HC _ hwz).out.mono ?_
        intro e v3 hx
        obtain ⟨rfl, hv3⟩ := hx
        go_wp2_with fail
        refine (HS _).out.mono ?_
        intro e v4 hx
        obtain ⟨rfl, hv4⟩ := hx
        replace hv4 := hv3.trans hv4
        go_wp2_with fail
        refine (HSum _).out.mono ?_
        intro e v5 hx
        obtain ⟨rfl, rfl⟩ := hx
        go_wp2_with fail
        refine (HCrc _).out.mono ?_
        intro e v6 hx
        obtain ⟨rfl, rfl⟩ := hx
        have hfin := hwz.trans hv4
        clear p0 p1 p2 p3 p4 r0 r1 r2 r3 r4
        go_wp2
        go_ret
        exact ⟨rfl, hfin⟩
    · go_enter Tryd.func9, Tryd.ntmps9
      go_wp2_with fail
      rw [← HW.out]
      refine (HN W xW).out.mono ?_
      intro e w1 hx
      obtain ⟨rfl, hx1⟩ := hx
      clear HN
      go_wp2_with fail
      refine (HA1 _ hx1).out.mono ?_
      rintro e u1 ⟨a1, c1, rfl, hI1, hy1⟩
      replace hy1 := hx1.trans hy1
      have hIU := fun w1 (x : Ext (u1.alloc (.cells #[Value.int .u8 (k1.toNat : Int), .int .i64 f1, .int .i64 t1, .int .i64 s1, .slice a1 n1.length c1] 30)) w1) => hid ((hI1.ints Hi1.out).ext (((Ext.refl u1).alloc _).trans x))
      have hWU := hy1.alloc (.cells #[Value.int .u8 (k1.toNat : Int), .int .i64 f1, .int .i64 t1, .int .i64 s1, .slice a1 n1.length c1] 30)
      have bA2 := bA.ext hWU
      have bU := Blk.new u1 #[Value.int .u8 (k1.toNat : Int), .int .i64 f1, .int .i64 t1, .int .i64 s1, .slice a1 n1.length c1] 30
      clear d0 d1 d2 d3 d4 bA HA1 hI1
      have d0 := bA2.ec 0 rfl
      have d1 := bA2.ec 1 rfl
      have d2 := bA2.ec 2 rfl
      have d3 := bA2.ec 3 rfl
      have d4 := bA2.ec 4 rfl
      have e0 := bU.ec 0 rfl
      have e1 := bU.ec 1 rfl
      have e2 := bU.ec 2 rfl
      have e3 := bU.ec 3 rfl
      have e4 := bU.ec 4 rfl
      have D0 := bA2.av 0 rfl
      have D1 := bA2.av 1 rfl
      have D2 := bA2.av 2 rfl
      have D3 := bA2.av 3 rfl
      have D4 := bA2.av 4 rfl
      go_wp2_with fail
      refine (HF _ hWU).out.mono ?_
      intro e w2 hx
      obtain ⟨rfl, hx2⟩ := hx
      clear D0 D1 D2 D3 D4
      go_wp2_with fail
      refine (HE _ a1 c1 (hWU.trans hx2) (hIU _ hx2).out).out.mono ?_
      intro e w3 hx
      obtain ⟨rfl, hx3⟩ := hx
      replace hx3 := hx2.trans hx3
      go_wp2_with fail
      refine (HK _ a1 c1 (hWU.trans hx3) (hIU _ hx3).out).out.mono ?_
      intro e w4 hx
      obtain ⟨rfl, hx4⟩ := hx
      replace hx4 := hx3.trans hx4
      go_wp2_with fail
      refine (HC _ (hWU.trans hx4)).out.mono ?_
      intro e w5 hx
      obtain ⟨rfl, hx5⟩ := hx
      replace hx5 := hx4.trans hx5
      go_wp2_with fail
      refine (HC _ (hWU.trans hx5)).out.mono ?_
      intro e w6 hx
      obtain ⟨rfl, hx6⟩ := hx
      replace hx6 := hx5.trans hx6
      clear hx2 hx3 hx4 hx5 HF HE HK HC hIU
      obtain ⟨w7, hw7⟩ : ∃ w7, w7 = w6 := ⟨_, rfl⟩
      subst hw7
      have hq := xW.trans (hWU.trans hx6)
      clear hx6 hWU d0 d1 d2 d3 d4 e0 e1 e2 e3 e4 bA2 bU
      by_cases htc : textCode s = 0
      · have hD := hid (fdecode_ok s w7 (evOf ad) hsz (h.errs.ext hq) htc)
        have hR := fun w1 => hid (refof_ok s w1 hsz htc)
        rcases hg : frOf s with ⟨gk, gf, gt, gs, gn⟩
        rw [hg] at hD hR
        unfold frv at hD hR
        simp only at hD hR
        have hgl : (gn.length : Int) ≤ 9223372036854775807 := by
          have := congrArg (fun f : Fr => f.nums.length) hg
          simp [frOf] at this
          have := byte_lt (at8 s 7)
          omega
        have HS := fun w1 a b c d (ha : Ints w1 a gn.length gn) (hb : Ints w1 b gn.length gn) => hid (sameints_any a b gn.length gn.length c d gn gn w1 ha hb hgl hgl)
        simp only [decide_eq_true (rfl : gn = gn)] at HS
        have HC := fun w1 (x : Ext w w1) => hid (coded3_any w1 ad (h.ext x) 0 (by omega) 0)
        unfold errv at HC
        simp only [if_pos] at HC
        simp only [show decide (((0 : Nat) : Int) = 0) = true by decide] at HC
        clear htc hg h
        go_wp2_with fail
        refine hD.out.mono ?_
        rintro e v1 ⟨a2, c2, rfl, hI2, hv1⟩
        replace hv1 := hq.trans hv1
        clear hD
        go_wp2_with fail
        refine (hR _).out.mono ?_
        rintro e v2 ⟨a3, c3, rfl, hI3, hv2⟩
        clear hR
        have hvA := hv2.alloc (.cells #[Value.int .u8 (gk.toNat : Int), .int .i64 gf, .int .i64 gt, .int .i64 gs, .slice a3 gn.length c3] 24)
        have b10 := (Blk.new v1 #[Value.int .u8 (gk.toNat : Int), .int .i64 gf, .int .i64 gt, .int .i64 gs, .slice a2 gn.length c2] 30).ext hvA
        have b11 := Blk.new v2 #[Value.int .u8 (gk.toNat : Int), .int .i64 gf, .int .i64 gt, .int .i64 gs, .slice a3 gn.length c3] 24
        have p0 := b10.ec 0 rfl
        have p1 := b10.ec 1 rfl
        have p2 := b10.ec 2 rfl
        have p3 := b10.ec 3 rfl
        have p4 := b10.ec 4 rfl
        have r0 := b11.ec 0 rfl
        have r1 := b11.ec 1 rfl
        have r2 := b11.ec 2 rfl
        have r3 := b11.ec 3 rfl
        have r4 := b11.ec 4 rfl
        have hIa := hid ((hI2.ext ((Ext.refl v1).alloc _)).ext hvA)
        have hIb := hid (hI3.ext ((Ext.refl v2).alloc (.cells #[Value.int .u8 (gk.toNat : Int), .int .i64 gf, .int .i64 gt, .int .i64 gs, .slice a3 gn.length c3] 24)))
        have hwz := (hv1.alloc _).trans hvA
        clear b10 b11 hI2 hI3
        go_wp2_with fail
        refine (HC _ hwz).out.mono ?_
        intro e v3 hx
        obtain ⟨rfl, hv3⟩ := hx
        go_wp2_with fail
        refine (HS _ a2 a3 c2 c3 (hIa.out.ext hv3) (hIb.out.ext hv3)).out.mono ?_
        intro e v4 hx
        obtain ⟨rfl, hv4⟩ := hx
        replace hv4 := hv3.trans hv4
        go_wp2_with fail
        refine (HSum _).out.mono ?_
        intro e v5 hx
        obtain ⟨rfl, rfl⟩ := hx
        go_wp2_with fail
        refine (HCrc _).out.mono ?_
        intro e v6 hx
        obtain ⟨rfl, rfl⟩ := hx
        have hfin := hwz.trans hv4
        clear p0 p1 p2 p3 p4 r0 r1 r2 r3 r4
        go_wp2
        go_ret
        exact ⟨rfl, hfin⟩
      · have hD := hid (fdecode_bad s w7 (evOf ad) hsz (h.errs.ext hq) (evOf_iface ad) htc)
        have hR := fun w1 => hid (refof_bad s w1 hsz htc)
        have htl := textCode_le s
        have HS := fun w1 => hid (sameints_any none none 0 0 0 0 [] [] w1 (Ints.nil _) (Ints.nil _) (by omega) (by omega))
        simp only [decide_eq_true (rfl : ([] : List Int) = [])] at HS
        have HC := fun w1 (x : Ext w w1) => hid (coded3_any w1 ad (h.ext x) (textCode s) htl (textCode s : Int))
        unfold errv at HC
        rw [if_neg htc] at HC
        unfold evOf at HC hD
        unfold fr0 at hD hR
        obtain ⟨tc, hc⟩ : ∃ tc, tc = textCode s := ⟨_, rfl⟩
        rw [← hc] at hD hR HC
        simp only [decide_eq_true (rfl : (tc : Int) = (tc : Int))] at HC
        clear htc h htl hc
        generalize ad tc = atc at *
        go_wp2_with fail
        refine hD.out.mono ?_
        intro e v1 hx
        obtain ⟨rfl, hv1⟩ := hx
        replace hv1 := hq.trans hv1
        clear hD
        go_wp2_with fail
        refine (hR _).out.mono ?_
        intro e v2 hx
        obtain ⟨rfl, hv2⟩ := hx
        clear hR
        have hvA := hv2.alloc (.cells #[Value.int .u8 0, .int .i64 0, .int .i64 0, .int .i64 0, .slice none 0 0] 24)
        have b10 := (Blk.new v1 #[Value.int .u8 0, .int .i64 0, .int .i64 0, .int .i64 0, .slice none 0 0] 30).ext hvA
        have b11 := Blk.new v2 #[Value.int .u8 0, .int .i64 0, .int .i64 0, .int .i64 0, .slice none 0 0] 24
        have p0 := b10.ec 0 rfl
        have p1 := b10.ec 1 rfl
        have p2 := b10.ec 2 rfl
        have p3 := b10.ec 3 rfl
        have p4 := b10.ec 4 rfl
        have r0 := b11.ec 0 rfl
        have r1 := b11.ec 1 rfl
        have r2 := b11.ec 2 rfl
        have r3 := b11.ec 3 rfl
        have r4 := b11.ec 4 rfl
        have hwz := (hv1.alloc _).trans hvA
        clear b10 b11
        go_wp2_with fail
        refine (HC _ hwz).out.mono ?_
        intro e v3 hx
        obtain ⟨rfl, hv3⟩ := hx
        go_wp2_with fail
        refine (HS _).out.mono ?_
        intro e v4 hx
        obtain ⟨rfl, hv4⟩ := hx
        replace hv4 := hv3.trans hv4
        go_wp2_with fail
        refine (HSum _).out.mono ?_
        intro e v5 hx
        obtain ⟨rfl, rfl⟩ := hx
        go_wp2_with fail
        refine (HCrc _).out.mono ?_
        intro e v6 hx
        obtain ⟨rfl, rfl⟩ := hx
        have hfin := hwz.trans hv4
        clear p0 p1 p2 p3 p4 r0 r1 r2 r3 r4
        go_wp2
        go_ret
        exact ⟨rfl, hfin⟩
end Go.Proofs.YtmdcjfgdmmncpaaDoor
