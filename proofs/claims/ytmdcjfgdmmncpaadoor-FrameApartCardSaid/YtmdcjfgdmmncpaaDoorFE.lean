/- FrameApart walked: short ones. -/
import Derived.Test.YtmdcjfgdmmncpaaDoorFD
namespace Go.Proofs.YtmdcjfgdmmncpaaDoor
set_option linter.unusedSimpArgs false
set_option linter.unusedVariables false
open Go Go.RowKit



set_option maxRecDepth 100000 in
set_option maxHeartbeats 3200000 in
theorem frameApart_yes (f g : Fr) (a b : Option Addr) (cap cap2 : Nat) (s : ByteArray) (w : World) (ev : Nat → Value) (he : Errs w ev) (hev : ∀ c, c ≠ 0 → ∃ t v, ev c = .iface t v) (hr : Ints w a f.nums.length f.nums) (hr2 : Ints w b g.nums.length g.nums) (h1 : f.nums.length ≤ 40) (h2 : g.nums.length ≤ 40) (h3 : s.size ≤ 300) :
    Calls Tryd.prog 3 #[frv f a cap, frv g b cap2, .string s] w fun e w' => e = .returned (.bool true) ∧ Ext w w' := by
  have HN := fun w1 (x : Ext w w1) => hid (framed_any w1 ev (he.ext x))
  obtain ⟨k1, f1, t1, s1, n1⟩ := f
  obtain ⟨k2, f2, t2, s2, n2⟩ := g
  unfold frv
  simp only at *
  obtain ⟨W, hW⟩ : ∃ W, W = (w.alloc (Obj.cells #[Value.int .u8 (k1.toNat : Int), .int .i64 f1, .int .i64 t1, .int .i64 s1, .slice a n1.length cap] 24)).alloc (.cells #[Value.int .u8 (k2.toNat : Int), .int .i64 f2, .int .i64 t2, .int .i64 s2, .slice b n2.length cap2] 24) := ⟨_, rfl⟩
  have xW : Ext w W := by rw [hW]; exact ((Ext.refl w).alloc _).alloc _
  have bA : Blk W w.heap.size #[Value.int .u8 (k1.toNat : Int), .int .i64 f1, .int .i64 t1, .int .i64 s1, .slice a n1.length cap] 24 := by rw [hW]; exact (Blk.new _ _ _).alloc _
  have bB : Blk W (w.heap.size + 1) #[Value.int .u8 (k2.toNat : Int), .int .i64 f2, .int .i64 t2, .int .i64 s2, .slice b n2.length cap2] 24 := by
    rw [hW]
    have := Blk.new (w.alloc (Obj.cells #[Value.int .u8 (k1.toNat : Int), .int .i64 f1, .int .i64 t1, .int .i64 s1, .slice a n1.length cap] 24)) #[Value.int .u8 (k2.toNat : Int), .int .i64 f2, .int .i64 t2, .int .i64 s2, .slice b n2.length cap2] 24
    rwa [heap_size_alloc] at this
  have HW := hid hW
  have hsz : s.size ≤ 1000000 := by omega
  clear hW
  have HA1 := fun w1 (x : Ext W w1) => hid (asframe_any ⟨k1, f1, t1, s1, n1⟩ a cap w1 (hr.ext (xW.trans x)) (by simp only; omega))
  have HA2 := fun w1 (x : Ext W w1) => hid (asframe_any ⟨k2, f2, t2, s2, n2⟩ b cap2 w1 (hr2.ext (xW.trans x)) (by simp only; omega))
  have hi1 := hr.hi
  have hi2 := hr2.hi
  have hm1 : (n1.length : Int) ≤ 9223372036854775807 := by omega
  have hm2 : (n2.length : Int) ≤ 9223372036854775807 := by omega
  unfold frv at HA1 HA2
  simp only at HA1 HA2
  have HR1 := fun w1 (x : Ext W w1) => hid (hr.ext (xW.trans x))
  have HR2 := fun w1 (x : Ext W w1) => hid (hr2.ext (xW.trans x))
  clear hr hr2
  have d0 := bA.ec 0 rfl
  have d1 := bA.ec 1 rfl
  have d2 := bA.ec 2 rfl
  have d3 := bA.ec 3 rfl
  have d4 := bA.ec 4 rfl
  have e0 := bB.ec 0 rfl
  have e1 := bB.ec 1 rfl
  have e2 := bB.ec 2 rfl
  have e3 := bB.ec 3 rfl
  have e4 := bB.ec 4 rfl
  obtain ⟨x1, hX1⟩ : ∃ x, x = Fr.text ⟨k1, f1, t1, s1, n1⟩ := ⟨_, rfl⟩
  obtain ⟨x2, hX2⟩ : ∃ x, x = Fr.text ⟨k2, f2, t2, s2, n2⟩ := ⟨_, rfl⟩
  have Hi1 := hid hi1
  have Hi2 := hid hi2
  have HX1 := hid hX1
  have HX2 := hid hX2
  clear hi1 hi2 hX1 hX2
  by_cases hc1 : Fr.code ⟨k1, f1, t1, s1, n1⟩ = 0
  · have HNe : ∀ (_ : (⟨k1, f1, t1, s1, n1⟩ : Fr) ≠ ⟨k2, f2, t2, s2, n2⟩) (_ : Fr.code ⟨k2, f2, t2, s2, n2⟩ = 0), Hid ((x1 == x2) = false) := fun h h2 => hid (beq_eq_false_iff_ne.2 fun e => h (Fr.text_inj hc1 h2 (by rw [← HX1.out, ← HX2.out, e])))
    have HS := fun w1 (x : Ext W w1) => hid (sameints_any a b n1.length n2.length cap cap2 n1 n2 w1 (HR1 w1 x).out (HR2 w1 x).out hm1 hm2)
    go_enter Tryd.func3, Tryd.ntmps3
    go_wp2_with fail
    rw [← HW.out]
    refine (HN W xW).out.mono ?_
    intro e w1 hx
    obtain ⟨rfl, hx1⟩ := hx
    clear HN
    go_wp2_with fail
    refine (HA1 _ hx1).out.mono ?_
    rintro e u1 ⟨a1, c1, rfl, hI1, hy1⟩
    replace hy1 := Ext.trans hx1 hy1
    have hE1 := hid (fencode_ok ⟨k1, f1, t1, s1, n1⟩ a1 c1 u1 ev (hI1.ints Hi1.out) hm1 (he.ext (xW.trans hy1)) hc1)
    unfold frv at hE1
    simp only at hE1
    rw [← HX1.out] at hE1
    go_wp2_with fail
    refine hE1.out.mono ?_
    intro e v1 hx
    obtain ⟨rfl, hq1⟩ := hx
    replace hq1 := hy1.trans hq1
    clear hE1 hI1 HA1
    go_wp2_with fail
    refine (HA2 _ hq1).out.mono ?_
    rintro e u2 ⟨a2, c2, rfl, hI2, hy2⟩
    replace hy2 := Ext.trans hq1 hy2
    by_cases hc2 : Fr.code ⟨k2, f2, t2, s2, n2⟩ = 0
    · have hE2 := hid (fencode_ok ⟨k2, f2, t2, s2, n2⟩ a2 c2 u2 ev (hI2.ints Hi2.out) hm2 (he.ext (xW.trans hy2)) hc2)
      unfold frv at hE2
      simp only at hE2
      rw [← HX2.out] at hE2
      go_wp2_with fail
      refine hE2.out.mono ?_
      intro e v2 hx
      obtain ⟨rfl, hq2⟩ := hx
      replace hq2 := hy2.trans hq2
      clear hE2 hI2 HA2
      have HNe' := fun h => (HNe h hc2).out
      clear HNe hc1 hc2
      by_cases hk : k1 = k2
      · subst hk
        by_cases hf : f1 = f2
        · subst hf
          by_cases ht : t1 = t2
          · subst ht
            by_cases hs : s1 = s2
            · subst hs
              by_cases hn : n1 = n2
              · have hxx : x1 = x2 := by rw [HX1.out, HX2.out, hn]
                subst hxx
                rw [decide_eq_true hn] at HS
                clear HNe' hn HX1 HX2
                go_wp2_with fail
                refine (HS _ hq2).out.mono ?_
                intro e v3 hx
                obtain ⟨rfl, hq3⟩ := hx
                replace hq3 := hq2.trans hq3
                by_cases hc : textCode s = 0
                · have hD := hid (fdecode_ok s v3 ev hsz (he.ext (xW.trans hq3)) hc)
                  have htx := frOf_text (textCode_zero hc).1 (textCode_zero hc).2.1
                  have hlen := Fr.text_len (frOf s)
                  have hc0 := (textCode_zero hc).2.2
                  rcases hg : frOf s with ⟨gk, gf, gt, gs, gn⟩
                  rw [hg] at hD htx hlen hc0
                  rw [htx] at hlen
                  unfold frv at hD
                  simp only at hD hlen
                  have Htx : Hid ((⟨(Fr.text ⟨gk, gf, gt, gs, gn⟩).toArray⟩ : ByteArray) = s) := hid (by rw [htx])
                  have Hlen : Hid ((s.size : Int) = 12 + 4 * (gn.length : Int)) := hid (by simp at hlen; omega)
                  have Hc0 := hid hc0
                  have hgl : (gn.length : Int) ≤ 9223372036854775807 := by have := Hlen.out; omega
                  clear hc hg htx hlen hc0
                  go_wp2_with fail
                  refine hD.out.mono ?_
                  rintro e u ⟨ad, cd, rfl, hI, hy⟩
                  replace hy := Ext.trans hq3 hy
                  have HE := fun w1 (x : Ext u w1) => hid (fencode_ok ⟨gk, gf, gt, gs, gn⟩ ad cd w1 ev (hI.ext x) hgl (he.ext (xW.trans (hy.trans x))) Hc0.out)
                  rw [Htx.out] at HE
                  unfold frv at HE
                  simp only at HE
                  clear hD hI
                  have hsq : (s.size : Int) - 12 = 4 * (gn.length : Int) := by have := Hlen.out; omega
                  have c4 := (Blk.new u #[Value.int .u8 (gk.toNat : Int), .int .i64 gf, .int .i64 gt, .int .i64 gs, .slice ad gn.length cd] 30).ec 4 rfl
                  go_wp2_with fail
                  refine (HE _ ((Ext.refl _).alloc _)).out.mono ?_
                  intro e u7 hx
                  obtain ⟨rfl, hx7⟩ := hx
                  clear HE
                  have hfin := (hy.alloc _).trans hx7
                  have hl4 := Hlen.out
                  go_wp2
                  go_ret
                  exact ⟨rfl, xW.trans hfin⟩
                · have hD := hid (fdecode_bad s v3 ev hsz (he.ext (xW.trans hq3)) hev hc)
                  obtain ⟨et, ee, hee⟩ := hev _ hc
                  rw [hee] at hD
                  clear hee
                  unfold fr0 at hD
                  go_wp2_with fail
                  refine hD.out.mono ?_
                  intro e u hx
                  obtain ⟨rfl, hy⟩ := hx
                  replace hy := Ext.trans hq3 hy
                  clear hD
                  go_wp2
                  go_ret
                  exact ⟨rfl, xW.trans (hy.alloc _)⟩
              · have hxx := HNe' (fun e => hn (Fr.mk.inj e).2.2.2.2)
                rw [decide_eq_false hn] at HS
                clear HNe' hn HX1 HX2
                go_wp2_with fail
                refine (HS _ hq2).out.mono ?_
                intro e v3 hx
                obtain ⟨rfl, hq3⟩ := hx
                replace hq3 := hq2.trans hq3
                by_cases hc : textCode s = 0
                · have hD := hid (fdecode_ok s v3 ev hsz (he.ext (xW.trans hq3)) hc)
                  have htx := frOf_text (textCode_zero hc).1 (textCode_zero hc).2.1
                  have hlen := Fr.text_len (frOf s)
                  have hc0 := (textCode_zero hc).2.2
                  rcases hg : frOf s with ⟨gk, gf, gt, gs, gn⟩
                  rw [hg] at hD htx hlen hc0
                  rw [htx] at hlen
                  unfold frv at hD
                  simp only at hD hlen
                  have Htx : Hid ((⟨(Fr.text ⟨gk, gf, gt, gs, gn⟩).toArray⟩ : ByteArray) = s) := hid (by rw [htx])
                  have Hlen : Hid ((s.size : Int) = 12 + 4 * (gn.length : Int)) := hid (by simp at hlen; omega)
                  have Hc0 := hid hc0
                  have hgl : (gn.length : Int) ≤ 9223372036854775807 := by have := Hlen.out; omega
                  clear hc hg htx hlen hc0
                  go_wp2_with fail
                  refine hD.out.mono ?_
                  rintro e u ⟨ad, cd, rfl, hI, hy⟩
                  replace hy := Ext.trans hq3 hy
                  have HE := fun w1 (x : Ext u w1) => hid (fencode_ok ⟨gk, gf, gt, gs, gn⟩ ad cd w1 ev (hI.ext x) hgl (he.ext (xW.trans (hy.trans x))) Hc0.out)
                  rw [Htx.out] at HE
                  unfold frv at HE
                  simp only at HE
                  clear hD hI
                  have hsq : (s.size : Int) - 12 = 4 * (gn.length : Int) := by have := Hlen.out; omega
                  have c4 := (Blk.new u #[Value.int .u8 (gk.toNat : Int), .int .i64 gf, .int .i64 gt, .int .i64 gs, .slice ad gn.length cd] 30).ec 4 rfl
                  go_wp2_with fail
                  refine (HE _ ((Ext.refl _).alloc _)).out.mono ?_
                  intro e u7 hx
                  obtain ⟨rfl, hx7⟩ := hx
                  clear HE
                  have hfin := (hy.alloc _).trans hx7
                  have hl4 := Hlen.out
                  go_wp2
                  go_ret
                  exact ⟨rfl, xW.trans hfin⟩
                · have hD := hid (fdecode_bad s v3 ev hsz (he.ext (xW.trans hq3)) hev hc)
                  obtain ⟨et, ee, hee⟩ := hev _ hc
                  rw [hee] at hD
                  clear hee
                  unfold fr0 at hD
                  go_wp2_with fail
                  refine hD.out.mono ?_
                  intro e u hx
                  obtain ⟨rfl, hy⟩ := hx
                  replace hy := Ext.trans hq3 hy
                  clear hD
                  go_wp2
                  go_ret
                  exact ⟨rfl, xW.trans (hy.alloc _)⟩
            · have hxx := HNe' (fun e => hs (Fr.mk.inj e).2.2.2.1)
              clear HNe' HS
              by_cases hc : textCode s = 0
              · have hD := hid (fdecode_ok s v2 ev hsz (he.ext (xW.trans hq2)) hc)
                have htx := frOf_text (textCode_zero hc).1 (textCode_zero hc).2.1
                have hlen := Fr.text_len (frOf s)
                have hc0 := (textCode_zero hc).2.2
                rcases hg : frOf s with ⟨gk, gf, gt, gs, gn⟩
                rw [hg] at hD htx hlen hc0
                rw [htx] at hlen
                unfold frv at hD
                simp only at hD hlen
                have Htx : Hid ((⟨(Fr.text ⟨gk, gf, gt, gs, gn⟩).toArray⟩ : ByteArray) = s) := hid (by rw [htx])
                have Hlen : Hid ((s.size : Int) = 12 + 4 * (gn.length : Int)) := hid (by simp at hlen; omega)
                have Hc0 := hid hc0
                have hgl : (gn.length : Int) ≤ 9223372036854775807 := by have := Hlen.out; omega
                clear hc hg htx hlen hc0
                go_wp2_with fail
                refine hD.out.mono ?_
                rintro e u ⟨ad, cd, rfl, hI, hy⟩
                replace hy := Ext.trans hq2 hy
                have HE := fun w1 (x : Ext u w1) => hid (fencode_ok ⟨gk, gf, gt, gs, gn⟩ ad cd w1 ev (hI.ext x) hgl (he.ext (xW.trans (hy.trans x))) Hc0.out)
                rw [Htx.out] at HE
                unfold frv at HE
                simp only at HE
                clear hD hI
                have hsq : (s.size : Int) - 12 = 4 * (gn.length : Int) := by have := Hlen.out; omega
                have c4 := (Blk.new u #[Value.int .u8 (gk.toNat : Int), .int .i64 gf, .int .i64 gt, .int .i64 gs, .slice ad gn.length cd] 30).ec 4 rfl
                go_wp2_with fail
                refine (HE _ ((Ext.refl _).alloc _)).out.mono ?_
                intro e u7 hx
                obtain ⟨rfl, hx7⟩ := hx
                clear HE
                have hfin := (hy.alloc _).trans hx7
                have hl4 := Hlen.out
                go_wp2
                go_ret
                exact ⟨rfl, xW.trans hfin⟩
              · have hD := hid (fdecode_bad s v2 ev hsz (he.ext (xW.trans hq2)) hev hc)
                obtain ⟨et, ee, hee⟩ := hev _ hc
                rw [hee] at hD
                clear hee
                unfold fr0 at hD
                go_wp2_with fail
                refine hD.out.mono ?_
                intro e u hx
                obtain ⟨rfl, hy⟩ := hx
                replace hy := Ext.trans hq2 hy
                clear hD
                go_wp2
                go_ret
                exact ⟨rfl, xW.trans (hy.alloc _)⟩
          · have hxx := HNe' (fun e => ht (Fr.mk.inj e).2.2.1)
            clear HNe' HS
            by_cases hc : textCode s = 0
            · have hD := hid (fdecode_ok s v2 ev hsz (he.ext (xW.trans hq2)) hc)
              have htx := frOf_text (textCode_zero hc).1 (textCode_zero hc).2.1
              have hlen := Fr.text_len (frOf s)
              have hc0 := (textCode_zero hc).2.2
              rcases hg : frOf s with ⟨gk, gf, gt, gs, gn⟩
              rw [hg] at hD htx hlen hc0
              rw [htx] at hlen
              unfold frv at hD
              simp only at hD hlen
              have Htx : Hid ((⟨(Fr.text ⟨gk, gf, gt, gs, gn⟩).toArray⟩ : ByteArray) = s) := hid (by rw [htx])
              have Hlen : Hid ((s.size : Int) = 12 + 4 * (gn.length : Int)) := hid (by simp at hlen; omega)
              have Hc0 := hid hc0
              have hgl : (gn.length : Int) ≤ 9223372036854775807 := by have := Hlen.out; omega
              clear hc hg htx hlen hc0
              go_wp2_with fail
              refine hD.out.mono ?_
              rintro e u ⟨ad, cd, rfl, hI, hy⟩
              replace hy := Ext.trans hq2 hy
              have HE := fun w1 (x : Ext u w1) => hid (fencode_ok ⟨gk, gf, gt, gs, gn⟩ ad cd w1 ev (hI.ext x) hgl (he.ext (xW.trans (hy.trans x))) Hc0.out)
              rw [Htx.out] at HE
              unfold frv at HE
              simp only at HE
              clear hD hI
              have hsq : (s.size : Int) - 12 = 4 * (gn.length : Int) := by have := Hlen.out; omega
              have c4 := (Blk.new u #[Value.int .u8 (gk.toNat : Int), .int .i64 gf, .int .i64 gt, .int .i64 gs, .slice ad gn.length cd] 30).ec 4 rfl
              go_wp2_with fail
              refine (HE _ ((Ext.refl _).alloc _)).out.mono ?_
              intro e u7 hx
              obtain ⟨rfl, hx7⟩ := hx
              clear HE
              have hfin := (hy.alloc _).trans hx7
              have hl4 := Hlen.out
              go_wp2
              go_ret
              exact ⟨rfl, xW.trans hfin⟩
            · have hD := hid (fdecode_bad s v2 ev hsz (he.ext (xW.trans hq2)) hev hc)
              obtain ⟨et, ee, hee⟩ := hev _ hc
              rw [hee] at hD
              clear hee
              unfold fr0 at hD
              go_wp2_with fail
              refine hD.out.mono ?_
              intro e u hx
              obtain ⟨rfl, hy⟩ := hx
              replace hy := Ext.trans hq2 hy
              clear hD
              go_wp2
              go_ret
              exact ⟨rfl, xW.trans (hy.alloc _)⟩
        · have hxx := HNe' (fun e => hf (Fr.mk.inj e).2.1)
          clear HNe' HS
          by_cases hc : textCode s = 0
          · have hD := hid (fdecode_ok s v2 ev hsz (he.ext (xW.trans hq2)) hc)
            have htx := frOf_text (textCode_zero hc).1 (textCode_zero hc).2.1
            have hlen := Fr.text_len (frOf s)
            have hc0 := (textCode_zero hc).2.2
            rcases hg : frOf s with ⟨gk, gf, gt, gs, gn⟩
            rw [hg] at hD htx hlen hc0
            rw [htx] at hlen
            unfold frv at hD
            simp only at hD hlen
            have Htx : Hid ((⟨(Fr.text ⟨gk, gf, gt, gs, gn⟩).toArray⟩ : ByteArray) = s) := hid (by rw [htx])
            have Hlen : Hid ((s.size : Int) = 12 + 4 * (gn.length : Int)) := hid (by simp at hlen; omega)
            have Hc0 := hid hc0
            have hgl : (gn.length : Int) ≤ 9223372036854775807 := by have := Hlen.out; omega
            clear hc hg htx hlen hc0
            go_wp2_with fail
            refine hD.out.mono ?_
            rintro e u ⟨ad, cd, rfl, hI, hy⟩
            replace hy := Ext.trans hq2 hy
            have HE := fun w1 (x : Ext u w1) => hid (fencode_ok ⟨gk, gf, gt, gs, gn⟩ ad cd w1 ev (hI.ext x) hgl (he.ext (xW.trans (hy.trans x))) Hc0.out)
            rw [Htx.out] at HE
            unfold frv at HE
            simp only at HE
            clear hD hI
            have hsq : (s.size : Int) - 12 = 4 * (gn.length : Int) := by have := Hlen.out; omega
            have c4 := (Blk.new u #[Value.int .u8 (gk.toNat : Int), .int .i64 gf, .int .i64 gt, .int .i64 gs, .slice ad gn.length cd] 30).ec 4 rfl
            go_wp2_with fail
            refine (HE _ ((Ext.refl _).alloc _)).out.mono ?_
            intro e u7 hx
            obtain ⟨rfl, hx7⟩ := hx
            clear HE
            have hfin := (hy.alloc _).trans hx7
            have hl4 := Hlen.out
            go_wp2
            go_ret
            exact ⟨rfl, xW.trans hfin⟩
          · have hD := hid (fdecode_bad s v2 ev hsz (he.ext (xW.trans hq2)) hev hc)
            obtain ⟨et, ee, hee⟩ := hev _ hc
            rw [hee] at hD
            clear hee
            unfold fr0 at hD
            go_wp2_with fail
            refine hD.out.mono ?_
            intro e u hx
            obtain ⟨rfl, hy⟩ := hx
            replace hy := Ext.trans hq2 hy
            clear hD
            go_wp2
            go_ret
            exact ⟨rfl, xW.trans (hy.alloc _)⟩
      · have hxx := HNe' (fun e => hk (Fr.mk.inj e).1)
        have hkk : ¬ (k1.toNat : Int) = (k2.toNat : Int) := fun e => hk (UInt8.toNat_inj.1 (by omega))
        clear HNe' HS hk
        by_cases hc : textCode s = 0
        · have hD := hid (fdecode_ok s v2 ev hsz (he.ext (xW.trans hq2)) hc)
          have htx := frOf_text (textCode_zero hc).1 (textCode_zero hc).2.1
          have hlen := Fr.text_len (frOf s)
          have hc0 := (textCode_zero hc).2.2
          rcases hg : frOf s with ⟨gk, gf, gt, gs, gn⟩
          rw [hg] at hD htx hlen hc0
          rw [htx] at hlen
          unfold frv at hD
          simp only at hD hlen
          have Htx : Hid ((⟨(Fr.text ⟨gk, gf, gt, gs, gn⟩).toArray⟩ : ByteArray) = s) := hid (by rw [htx])
          have Hlen : Hid ((s.size : Int) = 12 + 4 * (gn.length : Int)) := hid (by simp at hlen; omega)
          have Hc0 := hid hc0
          have hgl : (gn.length : Int) ≤ 9223372036854775807 := by have := Hlen.out; omega
          clear hc hg htx hlen hc0
          go_wp2_with fail
          refine hD.out.mono ?_
          rintro e u ⟨ad, cd, rfl, hI, hy⟩
          replace hy := Ext.trans hq2 hy
          have HE := fun w1 (x : Ext u w1) => hid (fencode_ok ⟨gk, gf, gt, gs, gn⟩ ad cd w1 ev (hI.ext x) hgl (he.ext (xW.trans (hy.trans x))) Hc0.out)
          rw [Htx.out] at HE
          unfold frv at HE
          simp only at HE
          clear hD hI
          have hsq : (s.size : Int) - 12 = 4 * (gn.length : Int) := by have := Hlen.out; omega
          have c4 := (Blk.new u #[Value.int .u8 (gk.toNat : Int), .int .i64 gf, .int .i64 gt, .int .i64 gs, .slice ad gn.length cd] 30).ec 4 rfl
          go_wp2_with fail
          refine (HE _ ((Ext.refl _).alloc _)).out.mono ?_
          intro e u7 hx
          obtain ⟨rfl, hx7⟩ := hx
          clear HE
          have hfin := (hy.alloc _).trans hx7
          have hl4 := Hlen.out
          go_wp2
          go_ret
          exact ⟨rfl, xW.trans hfin⟩
        · have hD := hid (fdecode_bad s v2 ev hsz (he.ext (xW.trans hq2)) hev hc)
          obtain ⟨et, ee, hee⟩ := hev _ hc
          rw [hee] at hD
          clear hee
          unfold fr0 at hD
          go_wp2_with fail
          refine hD.out.mono ?_
          intro e u hx
          obtain ⟨rfl, hy⟩ := hx
          replace hy := Ext.trans hq2 hy
          clear hD
          go_wp2
          go_ret
          exact ⟨rfl, xW.trans (hy.alloc _)⟩
    · clear HNe HS
      have hE2 := hid (fencode_bad' ⟨k2, f2, t2, s2, n2⟩ a2 c2 u2 ev (hI2.ints Hi2.out) hm2 (he.ext (xW.trans hy2)) hc2 hev)
      unfold frv at hE2
      simp only at hE2
      go_wp2_with fail
      refine hE2.out.mono ?_
      rintro e v2 ⟨et2, ev2, rfl, hq2⟩
      replace hq2 := hy2.trans hq2
      clear hE2 hI2 HA2
      by_cases hc : textCode s = 0
      · have hD := hid (fdecode_ok s v2 ev hsz (he.ext (xW.trans hq2)) hc)
        have htx := frOf_text (textCode_zero hc).1 (textCode_zero hc).2.1
        have hlen := Fr.text_len (frOf s)
        have hc0 := (textCode_zero hc).2.2
        rcases hg : frOf s with ⟨gk, gf, gt, gs, gn⟩
        rw [hg] at hD htx hlen hc0
        rw [htx] at hlen
        unfold frv at hD
        simp only at hD hlen
        have Htx : Hid ((⟨(Fr.text ⟨gk, gf, gt, gs, gn⟩).toArray⟩ : ByteArray) = s) := hid (by rw [htx])
        have Hlen : Hid ((s.size : Int) = 12 + 4 * (gn.length : Int)) := hid (by simp at hlen; omega)
        have Hc0 := hid hc0
        have hgl : (gn.length : Int) ≤ 9223372036854775807 := by have := Hlen.out; omega
        clear hc hg htx hlen hc0
        go_wp2_with fail
        refine hD.out.mono ?_
        rintro e u ⟨ad, cd, rfl, hI, hy⟩
        replace hy := Ext.trans hq2 hy
        have HE := fun w1 (x : Ext u w1) => hid (fencode_ok ⟨gk, gf, gt, gs, gn⟩ ad cd w1 ev (hI.ext x) hgl (he.ext (xW.trans (hy.trans x))) Hc0.out)
        rw [Htx.out] at HE
        unfold frv at HE
        simp only at HE
        clear hD hI
        have hsq : (s.size : Int) - 12 = 4 * (gn.length : Int) := by have := Hlen.out; omega
        have c4 := (Blk.new u #[Value.int .u8 (gk.toNat : Int), .int .i64 gf, .int .i64 gt, .int .i64 gs, .slice ad gn.length cd] 30).ec 4 rfl
        go_wp2_with fail
        refine (HE _ ((Ext.refl _).alloc _)).out.mono ?_
        intro e u7 hx
        obtain ⟨rfl, hx7⟩ := hx
        clear HE
        have hfin := (hy.alloc _).trans hx7
        have hl4 := Hlen.out
        go_wp2
        go_ret
        exact ⟨rfl, xW.trans hfin⟩
      · have hD := hid (fdecode_bad s v2 ev hsz (he.ext (xW.trans hq2)) hev hc)
        obtain ⟨et, ee, hee⟩ := hev _ hc
        rw [hee] at hD
        clear hee
        unfold fr0 at hD
        go_wp2_with fail
        refine hD.out.mono ?_
        intro e u hx
        obtain ⟨rfl, hy⟩ := hx
        replace hy := Ext.trans hq2 hy
        clear hD
        go_wp2
        go_ret
        exact ⟨rfl, xW.trans (hy.alloc _)⟩
  · go_enter Tryd.func3, Tryd.ntmps3
    go_wp2_with fail
    rw [← HW.out]
    refine (HN W xW).out.mono ?_
    intro e w1 hx
    obtain ⟨rfl, hx1⟩ := hx
    clear HN
    go_wp2_with fail
    refine (HA1 _ hx1).out.mono ?_
    rintro e u1 ⟨a1, c1, rfl, hI1, hy1⟩
    replace hy1 := Ext.trans hx1 hy1
    have hE1 := hid (fencode_bad' ⟨k1, f1, t1, s1, n1⟩ a1 c1 u1 ev (hI1.ints Hi1.out) hm1 (he.ext (xW.trans hy1)) hc1 hev)
    unfold frv at hE1
    simp only at hE1
    go_wp2_with fail
    refine hE1.out.mono ?_
    rintro e v1 ⟨et1, ev1, rfl, hq1⟩
    replace hq1 := hy1.trans hq1
    clear hE1 hI1 HA1
    go_wp2_with fail
    refine (HA2 _ hq1).out.mono ?_
    rintro e u2 ⟨a2, c2, rfl, hI2, hy2⟩
    replace hy2 := Ext.trans hq1 hy2
    by_cases hc2 : Fr.code ⟨k2, f2, t2, s2, n2⟩ = 0
    · have hE2 := hid (fencode_ok ⟨k2, f2, t2, s2, n2⟩ a2 c2 u2 ev (hI2.ints Hi2.out) hm2 (he.ext (xW.trans hy2)) hc2)
      unfold frv at hE2
      simp only at hE2
      rw [← HX2.out] at hE2
      go_wp2_with fail
      refine hE2.out.mono ?_
      intro e v2 hx
      obtain ⟨rfl, hq2⟩ := hx
      replace hq2 := hy2.trans hq2
      clear hE2 hI2 HA2
      by_cases hc : textCode s = 0
      · have hD := hid (fdecode_ok s v2 ev hsz (he.ext (xW.trans hq2)) hc)
        have htx := frOf_text (textCode_zero hc).1 (textCode_zero hc).2.1
        have hlen := Fr.text_len (frOf s)
        have hc0 := (textCode_zero hc).2.2
        rcases hg : frOf s with ⟨gk, gf, gt, gs, gn⟩
        rw [hg] at hD htx hlen hc0
        rw [htx] at hlen
        unfold frv at hD
        simp only at hD hlen
        have Htx : Hid ((⟨(Fr.text ⟨gk, gf, gt, gs, gn⟩).toArray⟩ : ByteArray) = s) := hid (by rw [htx])
        have Hlen : Hid ((s.size : Int) = 12 + 4 * (gn.length : Int)) := hid (by simp at hlen; omega)
        have Hc0 := hid hc0
        have hgl : (gn.length : Int) ≤ 9223372036854775807 := by have := Hlen.out; omega
        clear hc hg htx hlen hc0
        go_wp2_with fail
        refine hD.out.mono ?_
        rintro e u ⟨ad, cd, rfl, hI, hy⟩
        replace hy := Ext.trans hq2 hy
        have HE := fun w1 (x : Ext u w1) => hid (fencode_ok ⟨gk, gf, gt, gs, gn⟩ ad cd w1 ev (hI.ext x) hgl (he.ext (xW.trans (hy.trans x))) Hc0.out)
        rw [Htx.out] at HE
        unfold frv at HE
        simp only at HE
        clear hD hI
        have hsq : (s.size : Int) - 12 = 4 * (gn.length : Int) := by have := Hlen.out; omega
        have c4 := (Blk.new u #[Value.int .u8 (gk.toNat : Int), .int .i64 gf, .int .i64 gt, .int .i64 gs, .slice ad gn.length cd] 30).ec 4 rfl
        go_wp2_with fail
        refine (HE _ ((Ext.refl _).alloc _)).out.mono ?_
        intro e u7 hx
        obtain ⟨rfl, hx7⟩ := hx
        clear HE
        have hfin := (hy.alloc _).trans hx7
        have hl4 := Hlen.out
        go_wp2
        go_ret
        exact ⟨rfl, xW.trans hfin⟩
      · have hD := hid (fdecode_bad s v2 ev hsz (he.ext (xW.trans hq2)) hev hc)
        obtain ⟨et, ee, hee⟩ := hev _ hc
        rw [hee] at hD
        clear hee
        unfold fr0 at hD
        go_wp2_with fail
        refine hD.out.mono ?_
        intro e u hx
        obtain ⟨rfl, hy⟩ := hx
        replace hy := Ext.trans hq2 hy
        clear hD
        go_wp2
        go_ret
        exact ⟨rfl, xW.trans (hy.alloc _)⟩
    · have hE2 := hid (fencode_bad' ⟨k2, f2, t2, s2, n2⟩ a2 c2 u2 ev (hI2.ints Hi2.out) hm2 (he.ext (xW.trans hy2)) hc2 hev)
      unfold frv at hE2
      simp only at hE2
      go_wp2_with fail
      refine hE2.out.mono ?_
      rintro e v2 ⟨et2, ev2, rfl, hq2⟩
      replace hq2 := hy2.trans hq2
      clear hE2 hI2 HA2
      by_cases hc : textCode s = 0
      · have hD := hid (fdecode_ok s v2 ev hsz (he.ext (xW.trans hq2)) hc)
        have htx := frOf_text (textCode_zero hc).1 (textCode_zero hc).2.1
        have hlen := Fr.text_len (frOf s)
        have hc0 := (textCode_zero hc).2.2
        rcases hg : frOf s with ⟨gk, gf, gt, gs, gn⟩
        rw [hg] at hD htx hlen hc0
        rw [htx] at hlen
        unfold frv at hD
        simp only at hD hlen
        have Htx : Hid ((⟨(Fr.text ⟨gk, gf, gt, gs, gn⟩).toArray⟩ : ByteArray) = s) := hid (by rw [htx])
        have Hlen : Hid ((s.size : Int) = 12 + 4 * (gn.length : Int)) := hid (by simp at hlen; omega)
        have Hc0 := hid hc0
        have hgl : (gn.length : Int) ≤ 9223372036854775807 := by have := Hlen.out; omega
        clear hc hg htx hlen hc0
        go_wp2_with fail
        refine hD.out.mono ?_
        rintro e u ⟨ad, cd, rfl, hI, hy⟩
        replace hy := Ext.trans hq2 hy
        have HE := fun w1 (x : Ext u w1) => hid (fencode_ok ⟨gk, gf, gt, gs, gn⟩ ad cd w1 ev (hI.ext x) hgl (he.ext (xW.trans (hy.trans x))) Hc0.out)
        rw [Htx.out] at HE
        unfold frv at HE
        simp only at HE
        clear hD hI
        have hsq : (s.size : Int) - 12 = 4 * (gn.length : Int) := by have := Hlen.out; omega
        have c4 := (Blk.new u #[Value.int .u8 (gk.toNat : Int), .int .i64 gf, .int .i64 gt, .int .i64 gs, .slice ad gn.length cd] 30).ec 4 rfl
        go_wp2_with fail
        refine (HE _ ((Ext.refl _).alloc _)).out.mono ?_
        intro e u7 hx
        obtain ⟨rfl, hx7⟩ := hx
        clear HE
        have hfin := (hy.alloc _).trans hx7
        have hl4 := Hlen.out
        go_wp2
        go_ret
        exact ⟨rfl, xW.trans hfin⟩
      · have hD := hid (fdecode_bad s v2 ev hsz (he.ext (xW.trans hq2)) hev hc)
        obtain ⟨et, ee, hee⟩ := hev _ hc
        rw [hee] at hD
        clear hee
        unfold fr0 at hD
        go_wp2_with fail
        refine hD.out.mono ?_
        intro e u hx
        obtain ⟨rfl, hy⟩ := hx
        replace hy := Ext.trans hq2 hy
        clear hD
        go_wp2
        go_ret
        exact ⟨rfl, xW.trans (hy.alloc _)⟩

/-- The walk: whatever the frames, whatever the text. -/
theorem frameApart_any (f g : Fr) (a b : Option Addr) (cap cap2 : Nat) (s : ByteArray) (w : World) (ev : Nat → Value) (he : Errs w ev) (hev : ∀ c, c ≠ 0 → ∃ t v, ev c = .iface t v) (hr : Ints w a f.nums.length f.nums) (hr2 : Ints w b g.nums.length g.nums) (h1 : (f.nums.length : Int) ≤ 9223372036854775807) (h2 : (g.nums.length : Int) ≤ 9223372036854775807) (h3 : (s.size : Int) ≤ 9223372036854775807) :
    Calls Tryd.prog 3 #[frv f a cap, frv g b cap2, .string s] w fun e w' => e = .returned (.bool true) ∧ Ext w w' := by
  by_cases h : 40 < f.nums.length ∨ 40 < g.nums.length ∨ 300 < s.size
  · exact frameApart_no f g a b cap cap2 s w ev he h1 h2 h3 h
  · exact frameApart_yes f g a b cap cap2 s w ev he hev hr hr2 (by omega) (by omega) (by omega)
end Go.Proofs.YtmdcjfgdmmncpaaDoor
