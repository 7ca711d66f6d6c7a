/- Texts of one proof, put together: ZZZA. -/
import Derived.Test.YtbagppdibncfdaaGreatDoorHHN28
import Derived.Test.YtbagppdibncfdaaGreatDoorHHN01
set_option linter.unusedSimpArgs false
set_option linter.unusedVariables false
namespace Go.Proofs.YtbagppdibncfdaaGreatDoor
open Go Go.RowKit
set_option maxRecDepth 100000 in
set_option maxHeartbeats 12800000 in
theorem shardany_yes (a1 a2 a3 : Option Addr) (c1 c2 c3 : Nat) (P : PP) (k2 : Nat) (sa : Option Addr) (sc : Nat) (nums : List Int) (w : World) (ad : Nat → Addr) (hE : ErrsP w ad) (hA : AllErrs w ad) (hP : ProgR w w.heap.size (.slice a1 P.vars.length c1) (.slice a2 P.funs.length c2) (.slice a3 P.stmts.length c3) P) (hI : IntsR w w.heap.size (.slice sa nums.length sc) nums) (hw : P.Well) (hb : 1 ≤ k2 ∧ k2 ≤ 6) :
    Calls Tryz.prog 4 #[pval a1 a2 a3 c1 c2 c3 P, .int .i64 (k2 : Int), .slice sa nums.length sc] w fun e w' => e = .returned (.bool true) ∧ Ext w w' := by
  have Hw := hid hw
  have Hk := hid hb
  clear hw hb
  have HAA := hid hA
  have HIs := hid hI
  have hnl := hI.len
  clear hA hI
  have HE := hid hE
  have HP := hid hP
  obtain ⟨W1, hW1⟩ : ∃ W1, W1 = w.alloc (.cells (pcells a1 a2 a3 c1 c2 c3 P) 26) := ⟨_, rfl⟩
  have HX1 : Hid (Ext w W1) := hid (by rw [hW1]; exact (Ext.refl _).alloc _)
  have HB1 : Hid (Blk W1 w.heap.size (pcells a1 a2 a3 c1 c2 c3 P) 26) := hid (by rw [hW1]; exact Blk.new _ _ _)
  have HR := hid (shardedfact_any W1 ad (hE.ext HX1.out))
  have HW1 : Hid (W1 = w.alloc (.cells #[.slice a1 P.vars.length c1, .slice a2 P.funs.length c2, .slice a3 P.stmts.length c3] 26)) := hid (by rw [hW1]; rfl)
  unfold pval
  clear hE hP hW1
  go_enter Tryz.func4, Tryz.ntmps4
  go_wp2_with fail
  rw [← HW1.out]
  refine HR.out.mono ?_
  intro e w1 hx
  obtain ⟨rfl, hx1⟩ := hx
  have HL := hid (large_q a1 a2 a3 c1 c2 c3 16 (by omega) P w1 w.heap.size (HP.out.ext (HX1.out.trans hx1)))
  rw [show ((16 : Nat) : Int) = (16 : Int) from rfl] at HL
  unfold pval at HL
  have HX1' := hid (HX1.out.trans hx1)
  have HBp1 := hid (HB1.out.ext hx1)
  have p0 := HBp1.out.av 0 rfl
  have p1 := HBp1.out.av 1 rfl
  have p2 := HBp1.out.av 2 rfl
  simp only [pcells, qA0, qA1, qA2] at p0 p1 p2
  clear HR hx1
  go_wp2_with fail
  refine HL.out.mono ?_
  intro e w2 hx
  obtain ⟨r, rfl, hr, hsm, hx2⟩ := hx
  have HX2 := hid (HX1'.out.trans hx2)
  have HBp := hid (HBp1.out.ext hx2)
  clear HL hx2 p0 p1 p2
  rcases (by omega : r = 1 ∨ r = 0) with rfl | rfl
  · clear hsm hr
    go_wp2
    go_ret
    exact ⟨rfl, HX2.out⟩
  have HSm := hid (hsm rfl).1
  have HQl := hid (hsm rfl).2.1
  have HVl := hid (hsm rfl).2.2
  clear hsm hr
  by_cases hlen : nums.length ≤ 100
  case neg =>
    go_wp2
    go_ret
    exact ⟨rfl, HX2.out⟩
  have Hlen := hid hlen
  clear hnl
  have hz1 : ∀ s ∈ P.vars, s.size ≤ 1000000 := fun s hs => by have := HSm.out.vs s hs; omega
  have hz2 : ∀ s ∈ P.names, s.size ≤ 1000000 := fun s hs => by
    obtain ⟨f, hf, rfl⟩ := List.mem_map.1 hs
    have := (HSm.out.fs f hf).1
    omega
  have Hz1 := hid hz1
  have Hz2 := hid hz2
  have HPS := hid (show PS0 w2 w2.heap.size ad a1 a2 a3 c1 c2 c3 P from ⟨HE.out.ext HX2.out, (HP.out.ext HX2.out).lift HX2.out.size, Hz1.out, Hz2.out⟩)
  clear hz1 hz2
  have HQ := hid (ownprogram_any a1 a2 a3 c1 c2 c3 P w2 HPS.out.prog HSm.out)
  unfold pval at HQ
  have p0 := HBp.out.av 0 rfl
  have p1 := HBp.out.av 1 rfl
  have p2 := HBp.out.av 2 rfl
  simp only [pcells, qA0, qA1, qA2] at p0 p1 p2
  go_wp2_with fail
  refine HQ.out.mono ?_
  intro e w3 hx
  obtain ⟨hx3, b1, b2, b3, d1, d2, d3, rfl, hq⟩ := hx
  obtain ⟨W3, hW3⟩ : ∃ W3, W3 = w3.alloc (.cells (pcells b1 b2 b3 d1 d2 d3 P) 26) := ⟨_, rfl⟩
  have hx3' : Ext w3 W3 := by rw [hW3]; exact (Ext.refl _).alloc _
  have HBo : Hid (Blk W3 w3.heap.size (pcells b1 b2 b3 d1 d2 d3 P) 26) := hid (by rw [hW3]; exact Blk.new _ _ _)
  have HW3 : Hid (W3 = w3.alloc (.cells #[.slice b1 P.vars.length d1, .slice b2 P.funs.length d2, .slice b3 P.stmts.length d3] 26)) := hid (by rw [hW3]; rfl)
  have Hx3 := hid (hx3.trans hx3')
  have HX3 := hid (HX2.out.trans Hx3.out)
  have HPo := hid (show PS0 W3 W3.heap.size ad b1 b2 b3 d1 d2 d3 P from ⟨HE.out.ext HX3.out, (hq.ext hx3').lift hx3'.size, Hz1.out, Hz2.out⟩)
  have HF9 := hid (rfprog_all a1 a2 a3 c1 c2 c3 P W3 (HPS.out.on (Nat.le_refl _) Hx3.out).prog Hz1.out Hz2.out)
  unfold pval at HF9
  clear HQ hx3 hx3' hq hW3 p0 p1 p2
  have p0 := (HBp.out.ext Hx3.out).av 0 rfl
  have p1 := (HBp.out.ext Hx3.out).av 1 rfl
  have p2 := (HBp.out.ext Hx3.out).av 2 rfl
  simp only [pcells, qA0, qA1, qA2] at p0 p1 p2
  rw [HW3.out] at p0 p1 p2
  go_wp2_with fail
  rw [← HW3.out]
  refine HF9.out.mono ?_
  intro e w8 hx
  obtain ⟨hx8, fc, fp, rfl, hfi⟩ := hx
  have Hfi := hid hfi
  obtain ⟨W8, hW8⟩ : ∃ W8, W8 = w8.alloc (.cells #[.int .i64 (fc : Int), .int .i64 fp] 31) := ⟨_, rfl⟩
  have hx8' : Ext w8 W8 := by rw [hW8]; exact (Ext.refl _).alloc _
  have HBf : Hid (Blk W8 w8.heap.size #[.int .i64 (fc : Int), .int .i64 fp] 31) := hid (by rw [hW8]; exact Blk.new _ _ _)
  have HW8 := hid hW8
  have Hx38 := hid (hx8.trans hx8')
  have Hw38 := hid hx8
  have Hw88 := hid hx8'
  have HX8 := hid (HX3.out.trans Hx38.out)
  clear HF9 hfi hx8 hx8' hW8 p0 p1 p2
  have k0 := HBf.out.av 0 rfl
  have k1 := HBf.out.av 1 rfl
  simp only [qA0, qA1, qA2] at k0 k1
  have q0 := (HBo.out.ext Hx38.out).av 0 rfl
  have q1 := (HBo.out.ext Hx38.out).av 1 rfl
  have q2 := (HBo.out.ext Hx38.out).av 2 rfl
  simp only [pcells, qA0, qA1, qA2] at q0 q1 q2
  rw [HW8.out] at k0 k1 q0 q1 q2
  obtain ⟨rfl, rfl⟩ := Hfi.out.well Hw.out
  clear k0 k1 q0 q1 q2
  have HW8 : Hid (W8 = w8.alloc (.cells #[.int .i64 0, .int .i64 (-1)] 31)) := hid HW8.out
  have HBf : Hid (Blk W8 w8.heap.size #[.int .i64 0, .int .i64 (-1)] 31) := hid HBf.out
  have k0 := HBf.out.av 0 rfl
  have k1 := HBf.out.av 1 rfl
  have q0 := (HBo.out.ext Hx38.out).av 0 rfl
  have q1 := (HBo.out.ext Hx38.out).av 1 rfl
  have q2 := (HBo.out.ext Hx38.out).av 2 rfl
  simp only [pcells, qA0, qA1, qA2] at k0 k1 q0 q1 q2
  rw [HW8.out] at k0 k1 q0 q1 q2
  obtain ⟨n, S, hL⟩ := least_exists Hw.out
  have HLe := hid hL
  have HG := hid (hL.good Hw.out)
  have HSl := hid HG.out.2.1
  have Hx28 := hid (Hx3.out.trans Hx38.out)
  have HC := hid (rleastof_new a1 a2 a3 c1 c2 c3 P W8 (HPS.out.on (Nat.le_refl _) Hx28.out).prog Hw.out n S HLe.out)
  rw [← HSl.out] at HC
  have Hs120 : Hid (S.length ≤ 120) := hid (by rw [HSl.out]; exact Hw.out.nodes.1)
  unfold pval at HC
  have p0 := (HBp.out.ext Hx28.out).av 0 rfl
  have p1 := (HBp.out.ext Hx28.out).av 1 rfl
  have p2 := (HBp.out.ext Hx28.out).av 2 rfl
  simp only [pcells, qA0, qA1, qA2] at p0 p1 p2
  rw [HW8.out] at p0 p1 p2
  have j1 : (k2 = 0) = False := by have := Hk.out; simp; omega
  have j2 : (6 < k2) = False := by have := Hk.out; simp; omega
  have j4 : ((k2 : Int) < 1) = False := by have := Hk.out; simp; omega
  have j5 : ((6 : Int) < (k2 : Int)) = False := by have := Hk.out; simp; omega
  clear hL
  go_wp2_with fail
  rw [← HW8.out]
  refine HC.out.mono ?_
  intro e w9 hx
  obtain ⟨ah, ch, rfl, hs9, hns, hx9⟩ := hx
  have Hsn := hid hs9
  have Hx89 := hid hx9
  have HX9 := hid (HX8.out.trans hx9)
  have Hx39 := hid (Hx38.out.trans hx9)
  clear HC hs9 hns hx9 p0 p1 p2 k0 k1 q0 q1 q2 j1 j2 j4 j5
  go_wp2
  go_loopw [15, 16, 17] (fun t15 t16 t17 wr => ∃ (m : Nat) (L : List SR) (ns : List NV) (os : List N2) (aa : Option Addr) (ca : Nat) (an : Option Addr) (nn cn : Nat), t17 = .int .i64 (m : Int) ∧ t15 = .slice aa m ca ∧ t16 = .slice an nn cn ∧ m ≤ k2 ∧ L.length = m ∧ ns.length = nn ∧ Stand P k2 S w9.heap.size wr (.slice aa m ca) (.slice an nn cn) L ns os ∧ mass (L.map SR.s) ns ≤ m * 20000000 ∧ Ext w9 wr) (fun _ _ t17 _ => k2 - (intOf t17).toNat)
  case atStart => exact ⟨0, [], [], [], none, 0, none, 0, 0, rfl, rfl, rfl, Nat.zero_le _, rfl, rfl, Stand.start P k2 S w9, Nat.zero_le _, Ext.refl _⟩
  case round =>
    obtain ⟨m, L, ns, os, aa, ca, an, nn, cn, rfl, rfl, rfl, hm, hLm, hnn, hSt, hma, hxr⟩ := hrel
    have HSt := hid hSt
    have Hma := hid hma
    have Hxr := hid hxr
    have HLm := hid hLm
    have Hnn := hid hnn
    have Hx3r := hid (Hx39.out.trans hxr)
    clear hSt hma hxr hLm hnn
    by_cases hlt : m < k2
    · have HN := hid (shardnew_yes b1 b2 b3 d1 d2 d3 P m k2 wr wr.heap.size ad ((HPo.out.on (Nat.le_refl _) Hx3r.out).pw Hw.out) (Nat.le_refl _) ⟨hlt, Hk.out.2⟩)
      unfold pval at HN
      have q0 := (HBo.out.ext Hx3r.out).av 0 rfl
      have q1 := (HBo.out.ext Hx3r.out).av 1 rfl
      have q2 := (HBo.out.ext Hx3r.out).av 2 rfl
      simp only [pcells, qA0, qA1, qA2] at q0 q1 q2
      go_wp2_with fail
      refine HN.out.mono ?_
      intro e w5 hx
      obtain ⟨g, c, G, F, u, t, os2, rfl, hcP, hcm, hck, hr, ht, hS, hN, hF, hI, hG, hx5⟩ := hx
      obtain ⟨au, cu, hu⟩ := hN.row.form
      subst hu
      have hoS := start_okS (me := (m : Nat)) (k := (k2 : Nat)) Hw.out
      have hot := hr.ok Hw.out hoS.1
      have Hol : Hid (t.out.length ≤ 20000000) := hid (Nat.le_trans (phi_load t) (Nat.le_trans hot.2 hoS.2))
      have HAp := hid (lawapart_any (.slice au t.out.length cu) t.out os2 (m : Int) (k2 : Int) w5 F hN (out_apart (by omega) hot.1) (by have := Hol.out; omega))
      have HNo := hid hN
      obtain ⟨no, hno⟩ : ∃ no, no = t.out.length := ⟨_, rfl⟩
      have Hno := hid hno
      rw [← hno] at HAp ⊢
      have HP5 := hid (And.intro hcP (And.intro hcm (And.intro hck (And.intro hr ht))))
      have HP6 := hid (And.intro hS (And.intro hF (And.intro hI (And.intro hG hx5))))
      clear HN q0 q1 q2 hcP hcm hck hr ht hS hN hF hI hG hx5 hoS hot hno
      go_wp2_with fail
      refine HAp.out.mono ?_
      intro e w6 hx
      obtain ⟨rfl, hx6⟩ := hx
      have Hx6 := hid hx6
      clear HAp hx6
      have HNo : Hid (NotesR w5 F (.slice au no cu) t.out os2) := hid (by rw [Hno.out]; exact HNo.out)
      obtain ⟨W7, hW7⟩ : ∃ W7, W7 = w6.alloc (.cells #[.pointer (some ⟨g, 0, none⟩)] 47) := ⟨_, rfl⟩
      have HW7 := hid hW7
      have Hx67 : Hid (Ext w6 W7) := hid (by rw [hW7]; exact (Ext.refl _).alloc _)
      have HB7 : Hid (Blk W7 w6.heap.size #[.pointer (some ⟨g, 0, none⟩)] 47) := hid (by rw [hW7]; exact Blk.new _ _ _)
      have Hx57 := hid (Hx6.out.trans Hx67.out)
      have Hxr7 := hid (HP6.out.2.2.2.2.trans Hx57.out)
      have Hp7 : Hid (W7.ownsRow w9.heap.size 47 1 (.slice aa m ca) m (L.map fun r => Value.pointer (some ⟨r.g, 0, none⟩))) := hid (by
        have := own_ext HSt.out.ptr Hxr7.out
        rwa [HLm.out] at this)
      have Hn7 : Hid (NotesO w9.heap.size W7 (.slice an nn cn) ns os) := hid (HSt.out.notes.ext Hxr7.out)
      have Hs7 : Hid (w9.heap.size ≤ W7.heap.size) := hid (Nat.le_trans Hxr.out.size Hxr7.out.size)
      have Hmb : Hid (nn ≤ 200000000) := hid (by
        have h1 := Hma.out
        have h2 := Hk.out
        have h3 := Hnn.out
        unfold mass at h1
        omega)
      have Hlt := hid hlt
      have hk6 : k2 ≤ 6 := Hk.out.2
      clear hW7
      go_wp2_with (first
        | (at_builtin; rw [← HW7.out]; refine wpList_append_el w9.heap.size Hs7.out 54 47 (.pointer none) 1 8 Tryz.underlying54 pshard_info rfl (by omega) (by omega) rfl _ _ rfl (.slice aa m ca) m (L.map fun r => Value.pointer (some ⟨r.g, 0, none⟩)) rfl Hp7.out w6.heap.size [.pointer (some ⟨g, 0, none⟩)] rfl (by simp [Value.oneCell']) rfl HB7.out (by have := Hk.out; omega) ?_
           intro v7 w7 h7 k7 o7
           obtain ⟨a7, c7, rfl⟩ := row_form h7
           have H7 := hid h7
           have K7 := hid k7
           have O7 : Hid (∀ b, (Value.slice a7 (m + 1) c7).ownBlock = some b → (Value.slice aa m ca).ownBlock = some b ∨ W7.heap.size ≤ b) := hid fun b hb => o7.elim (fun e => .inl (e ▸ hb)) fun e => .inr (by rw [e] at hb; have := Option.some.inj hb; omega)
           have Hn8 : Hid (NotesO w9.heap.size w7 (.slice an nn cn) ns os) := hid (Hn7.out.keep k7 (fun b hb hx => by
             obtain ⟨c', hc⟩ := own_ty Hn7.out.row hb
             obtain ⟨c2', hc2⟩ := own_ty Hp7.out hx
             exact off_of hc (by decide) ⟨_, hc2⟩) fun b hb hx => by
             obtain ⟨c2', hc2⟩ := own_ty Hp7.out hx
             exact IsInt.not hc2 (by decide) hb)
           have Hr8 : Hid (NotesR w7 F (.slice au no cu) t.out os2) := hid ((HNo.out.ext Hx57.out).off k7 (fun b hb => by
             obtain ⟨c2', hc2⟩ := own_ty Hp7.out hb
             exact off_of hc2 (by decide)) fun b hb => by
             obtain ⟨c2', hc2⟩ := own_ty Hp7.out hb
             exact off_of hc2 (by decide))
           have Hrow8 : Hid (w7.ownsRow w9.heap.size 57 3 (.slice an nn cn) nn (os.flatMap N2.cells)) := hid (by have := Hn8.out.row; rwa [Hnn.out] at this)
           have Hs8 : Hid (w9.heap.size ≤ w7.heap.size) := hid (Nat.le_trans Hs7.out k7.size)
           have Hsr8 := hid Hr8.out.src
           clear h7 k7 o7)
        | (at_builtin; refine wpList_append_big w9.heap.size Hs8.out rfl _ _ rfl (.slice an nn cn) nn (os.flatMap N2.cells) rfl Hrow8.out au no cu (os2.flatMap N2.cells) rfl Hsr8.out (by have := Hmb.out; have := Hol.out; have := Hno.out; omega) ?_
           intro v8 w8' h8 k8 o8
           obtain ⟨a8, c8, rfl⟩ := row_form h8
           have H8 := hid h8
           have K8 := hid k8
           have O8 := hid o8
           clear h8 k8 o8))
      have hN8 : NotesO w9.heap.size w8' (.slice a8 (nn + no) c8) (ns ++ t.out) (os ++ os2) := Hn8.out.more Hr8.out.nums Hr8.out.eq K8.out (by rw [Hnn.out, ← Hno.out]; exact H8.out)
      obtain ⟨L', e1, e2, e3⟩ := HSt.out.add HLe.out Hw.out HLm.out HP5.out.1 HP5.out.2.1 HP5.out.2.2.1 HP5.out.2.2.2.1 HP5.out.2.2.2.2 HP6.out.1 HP6.out.2.1 HP6.out.2.2.1 HP6.out.2.2.2.1 HP6.out.2.2.2.2 Hx57.out K7.out H7.out O7.out K8.out hN8 O8.out
      have E1 := hid e1
      have E2 := hid e2
      have E3 := hid e3
      have Hxw : Hid (Ext w9 w8') := hid (by
        have h1 : Ext w9 w7 := Keep.new (Hxr.out.trans Hxr7.out) K7.out fun b hb => (World.ownsRow.lt Hp7.out b hb).1
        exact Keep.new h1 K8.out fun b hb => (World.ownsRow.lt Hrow8.out b hb).1)
      clear e1 e2 e3 hN8
      go_roundw
      case rel => exact ⟨m + 1, L', ns ++ t.out, os ++ os2, a7, c7, a8, nn + no, c8, by go_num, rfl, rfl, by have := Hlt.out; omega, E1.out, by rw [List.length_append, Hnn.out, Hno.out], E2.out, by have := E3.out; have := Hma.out; omega, Hxw.out⟩
      case measure => simp [intOf]; omega
    · obtain rfl : k2 = m := by omega
      clear Hx3r
      clear hm hlt
      have HXr := hid (HX9.out.trans Hxr.out)
      go_wp2
      go_loopw [16, 21] (fun t16 t21 wq => ∃ (i : Nat) (an : Option Addr) (nn cn : Nat), t21 = .int .i64 (i : Int) ∧ t16 = .slice an nn cn ∧ (∃ (L : List SR) (ns : List NV) (os : List N2), L.length = k2 ∧ Stand P k2 S w9.heap.size wq (.slice aa k2 ca) (.slice an nn cn) L ns os) ∧ i + standMes P k2 S w9.heap.size (.slice aa k2 ca) (.slice an nn cn) wq ≤ 120000000 ∧ Ext w9 wq) (fun t16 _ wq => standMes P k2 S w9.heap.size (.slice aa k2 ca) t16 wq)
      case atStart => exact ⟨0, an, nn, cn, rfl, rfl, ⟨L, ns, os, HLm.out, HSt.out⟩, by have := standMes_le HLm.out HSt.out; have := Hma.out; have := Hk.out; omega, Hxr.out⟩
      case round =>
        clear HSt Hma HLm Hnn HXr Hxr
        clear os ns L
        obtain ⟨i, an, nn, cn, rfl, rfl, ⟨L0, ns0, os0, hl0, hS0⟩, hmes, hxq⟩ := hrel
        obtain ⟨L, ns, os, hl, hS, hM⟩ := standMes_of hl0 hS0
        have hnn : nn = ns.length := by
          obtain ⟨_, _, e'⟩ := (OwnsQ.ofRow hS.notes.row).form
          simp only [Value.slice.injEq] at e'
          exact e'.2.1
        have HS := hid hS
        have HM := hid hM
        have Hmes := hid hmes
        have Hxq := hid hxq
        have Hl := hid hl
        have Hnn := hid hnn
        obtain ⟨ga, ca2, hge⟩ := own_some hS.ptr (by have := Hk.out; omega)
        simp only [Value.slice.injEq] at hge
        obtain ⟨rfl, -, rfl⟩ := hge
        clear hS0 hl0 hmes hxq hM hS hnn hl
        by_cases hn0 : nn = 0
        · subst hn0
          have HNe := hid (lawnear_any ⟨ga, 0, none⟩ k2 ca ah ch S true _ Hk.out ((Hsn.out.ext Hxq.out).lift Hxq.out.size) fun i hi => HS.out.near HLe.out Hw.out Hk.out.1 Hl.out HSl.out true (fun _ => List.eq_nil_of_length_eq_zero Hnn.out.symm) hi)
          go_wp2_with fail
          refine HNe.out.mono ?_
          intro e w10 hx
          obtain ⟨rfl, hx10⟩ := hx
          have HXz := hid (HX9.out.trans (Hxq.out.trans hx10))
          clear HNe hx10
          go_wp2
          go_ret
          exact ⟨rfl, HXz.out⟩
        · have hnpos : 0 < nn := by omega
          have hnz : ((nn : Int) == 0) = false := beq_eq_false_iff_ne.2 (by omega)
          have hnz2 : ((nn : Int) = 0) = False := by simp; omega
          have hnz3 : (nn = 0) = False := by simp; omega
          have Hnrow := hid HS.out.notes.row
          rw [← Hnn.out] at Hnrow
          obtain ⟨gq, cq2, hge⟩ := own_some Hnrow.out hnpos
          simp only [Value.slice.injEq] at hge
          obtain ⟨rfl, -, rfl⟩ := hge
          obtain ⟨_, _, _, hcn, hcm, _, _⟩ := own_blk Hnrow.out
          have hcn' : (nn : Int) ≤ (cn : Int) := by omega
          have hcm' : (cn : Int) ≤ 9223372036854775807 := by unfold maxLen at hcm; omega
          have Hos : Hid (os.length = nn) := hid (by rw [HS.out.notes.len, Hnn.out])
          have hbig : i + nn ≤ 120000000 := by
            have h1 := Hmes.out
            rw [← HM.out] at h1
            unfold mass at h1
            have h3 := Hnn.out
            omega
          clear hcn hcm hn0
          by_cases hin : i < nums.length
          · obtain ⟨ya, y, hya, hyl, hyc⟩ := (HIs.out.old ((HX9.out.trans Hxq.out).old _)).at (k := i) hin
            subst hya
            by_cases hy : y < 0
            · have hqn : 0 < nn := hnpos
              clear hyl
              by_cases hcq : cn = 1
              · have hcq2 : ((1 : Int) = (cn : Int)) = True := by simp; omega
                have hcq3 : cn - (0 + 1) = 0 := by omega
                obtain ⟨⟨⟨xto, xkd, xl⟩, xv⟩, hx⟩ : ∃ x : N2, os[0]? = some x := ⟨_, List.getElem?_eq_getElem (by rw [Hos.out]; exact hqn)⟩
                have hxn : ns[0]? = some ⟨xto, xkd, xl⟩ := by rw [← HS.out.notes.eq, List.getElem?_map, hx]; rfl
                obtain ⟨hok, hl2⟩ := HS.out.play.nok _ (List.mem_of_getElem? hxn)
                have hnu := HS.out.notes.nums _ (List.mem_of_getElem? hx)
                obtain ⟨x0, l, hxl⟩ := nok_cons hok
                simp only at hxl
                subst hxl
                obtain ⟨j, hjk, hxj⟩ := to_nat Hk.out.1 hok
                simp only at hxj
                subst hxj
                obtain ⟨av, cv, hv⟩ := row_form hnu
                simp only at hv
                subst hv
                obtain ⟨r, hr⟩ : ∃ r, L[j]? = some r := ⟨_, List.getElem?_eq_getElem (by rw [Hl.out]; exact hjk)⟩
                have z0 := HS.out.notes.cell hx 0 _ rfl (by omega)
                have z1 := HS.out.notes.cell hx 1 _ rfl (by omega)
                have z2 := HS.out.notes.cell hx 2 _ rfl (by omega)
                obtain ⟨LL, hLL⟩ : ∃ LL, LL = x0 :: l := ⟨_, rfl⟩
                obtain ⟨NL, hNL⟩ : ∃ NL, NL = LL.length := ⟨_, rfl⟩
                rw [← hLL, ← hNL] at z2 hnu
                rw [← hLL] at hxn hok hx
                simp only [Nat.zero_mul, Nat.zero_add, Nat.add_zero] at z0 z1 z2
                obtain ⟨W1, hW1⟩ : ∃ W1, W1 = wr.alloc (.cells #[.int .i64 (j : Int), .int .u8 xkd, .slice av NL cv] 57) := ⟨_, rfl⟩
                have HW1n := hid hW1
                have Hx1 : Hid (Ext wr W1) := hid (by rw [hW1]; exact (Ext.refl _).alloc _)
                have HB1n : Hid (Blk W1 wr.heap.size #[.int .i64 (j : Int), .int .u8 xkd, .slice av NL cv] 57) := hid (by rw [hW1]; exact Blk.new _ _ _)
                have Hs1 : Hid (Src W1 (some ⟨gq, 0, none⟩) 0 3 ((os.take 0).flatMap N2.cells)) := hid (by
                  have := (HS.out.notes.ext Hx1.out).src 0 0 (by rw [← Hnn.out]; omega)
                  rwa [List.drop_zero, Nat.zero_mul] at this)
                have Hb1 : Hid (w9.heap.size ≤ W1.heap.size) := hid (Nat.le_trans Hxq.out.size Hx1.out.size)
                have Hqn := hid hqn
                have Hxn := hid hxn
                have Hnok := hid (And.intro hok hl2)
                have Hnu := hid hnu
                have HLL := hid hLL
                have HNL := hid hNL
                have Hr := hid hr
                have Hjk := hid hjk
                have hlim1 : 0 + 0 ≤ 1000000000 := by omega
                have hlim2 : 0 + (nn - (0 + 1)) ≤ 1000000000 := by omega
                clear hxn hok hl2 hnu hLL hNL hr hW1 hx
                go_wp2_with (first
                  | (at_builtin; rw [← HW1n.out]; refine wpList_append_big w9.heap.size Hb1.out rfl _ _ rfl (.slice none 0 0) 0 [] rfl (World.ownsRow_nil _ _ _ _) (some ⟨gq, 0, none⟩) 0 _ ((os.take 0).flatMap N2.cells) rfl Hs1.out hlim1 ?_
                     intro v2 w2 ho2 hk2 hl2
                     simp only [Nat.zero_add, List.nil_append] at ho2
                     obtain ⟨a2', c2', rfl⟩ := row_form ho2
                     have Hx2 := hid (Keep.new (Ext.refl _) hk2 (fun i hi => by cases hi))
                     have Hn2 := hid (HS.out.notes.ext (Hx1.out.trans Hx2.out))
                     have Ho2 := hid ho2
                     have Hl2 : Hid (∀ b, (Value.slice a2' 0 c2').ownBlock = some b → W1.heap.size ≤ b) := hid fun b hb => (hl2 b hb).elim (fun h => by cases h) id
                     have Hs2 := hid (Src.none3 w2 ⟨gq, 0, none⟩ (q := 0) (by omega) Hos.out)
                     have Hb2 := hid (Nat.le_trans Hb1.out Hx2.out.size)
                     clear ho2 hk2 hl2)
                  | (at_builtin; refine wpList_append_big w9.heap.size Hb2.out rfl _ _ rfl (.slice a2' 0 c2') 0 ((os.take 0).flatMap N2.cells) rfl Ho2.out (some ⟨gq, 0, none⟩) (nn - (0 + 1)) _ ((os.drop (0 + 1)).flatMap N2.cells) rfl Hs2.out hlim2 ?_
                     intro v3 w3 ho3 hk3 hl3
                     obtain ⟨a3', c3', rfl⟩ := row_form ho3
                     have Hk3 := hid hk3
                     have Ho3 := hid ho3
                     have Hl3 := hid hl3
                     clear ho3 hk3 hl3))
                simp only [Nat.zero_add] at Ho3 Hl3
                generalize hN3x : nn - 1 = N3 at Ho3 Hl3 ⊢
                have hN3 : 0 + (nn - (0 + 1)) = N3 := by omega
                clear hN3x
                have hx13 := Keep.new Hx2.out Hk3.out fun b hb => Hl2.out b hb
                have Hx3n := hid (Hx1.out.trans hx13)
                have Hn3 := hid (NotesO.left HS.out.notes 0 Hx1.out Hx2.out Hk3.out Ho2.out (by rw [← Hnn.out]; exact Hqn.out) (by rw [← Hnn.out, hN3]; exact Ho3.out))
                have Hlen3 : Hid ((ns.take 0 ++ ns.drop (0 + 1)).length = N3) := hid (by rw [List.length_append, List.length_take, List.length_drop, ← Hnn.out, Nat.min_eq_left (by omega), hN3])
                have HN3b : Hid (N3 ≤ 120000000) := hid (by omega)
                have Ho3v : Hid (∀ b, (Value.slice a3' N3 c3').ownBlock = some b → wr.heap.size ≤ b) := hid fun b hb => (Hl3.out b hb).elim (fun h => Nat.le_trans Hx1.out.size (Hl2.out b h)) fun h => Nat.le_trans (Hx1.out.trans Hx2.out).size h
                have hLLx := HLL.out
                subst hLLx
                have hNLx := HNL.out
                have hmass : mass (L.map SR.s) ns ≤ 120000000 := by rw [HM.out]; have := Hmes.out; omega
                have Hmass := hid hmass
                clear hN3
                have HTk := fun w5 (y : Ext w3 w5) => hid (HS.out.takes Hx3n.out Hn3.out Ho3v.out Hr.out Hxn.out hmass (own_ext Hnu.out Hx3n.out) w5 y)
                obtain ⟨t1, t2, t3, t4, t5, t6, t7, t8, t9⟩ := HS.out.ready Hx3n.out Hn3.out Ho3v.out Hr.out
                obtain ⟨Fj, hFj⟩ : ∃ Fj, Fj = (r.grow wr.heap.size w3.heap.size).F := ⟨_, rfl⟩
                have HFj := hid hFj
                rw [← hFj] at HTk t6 t7 t9
                have Hlow := hid t6
                have Hfga := t9 ga (.inl rfl)
                have Hfwr := t7 wr.heap.size (Nat.le_refl _) (Nat.lt_of_lt_of_le HB1n.out.lt hx13.size)
                have hptr := own_ext HS.out.ptr Hx3n.out
                rw [Hl.out] at hptr
                have hpc := own_get hptr j (u := .pointer (some ⟨r.g, 0, none⟩)) (by rw [List.getElem?_map, Hr.out]; rfl)
                have pj : ∀ w1, Keep (fun b => ¬ Fj b) w3 w1 → w1.cell? ⟨ga, j, none⟩ = some (.pointer (some ⟨r.g, 0, none⟩)) := fun w1 k => k.cellx hpc (fun h => h Hfga)
                have s0 := (HB1n.out.ext hx13).kc (X := fun b => ¬ Fj b) (fun h => h Hfwr) 0 rfl
                have s1 := (HB1n.out.ext hx13).kc (X := fun b => ¬ Fj b) (fun h => h Hfwr) 1 rfl
                have s2 := (HB1n.out.ext hx13).kc (X := fun b => ¬ Fj b) (fun h => h Hfwr) 2 rfl
                simp only [qA0, qA1, qA2] at s0 s1 s2
                have HB3n := hid (HB1n.out.ext hx13)
                have Hfw := hid Hfwr
                have hjk2 := Hjk.out
                clear hx13 hmass t1 t2 t3 t4 t5 t6 t7 t8 t9 hFj hptr hpc Hfga Hfwr hNLx
                go_wp2
                refine wp_flowT (fun b => ¬ Fj b) (by kernel_rfl) (by kernel_rfl) ?_
                repeat (apply FlowT.d; (intro w1 hk; unfold does; go_simp; (try go_ints); (first | exact DetR.mk | (simp only [↓IntWalk.iteOmega, Oper.doesUpon_value]; exact DetR.mk) | (simp only [↓IntWalk.iteOmega]; go_simp; (try go_ints); exact DetR.mk))); simp only [Act.put, qS0, qS1, qS2])
                refine FlowT.s (fun v' w' => TookN w3 r.G Fj r.g r.c r.s ⟨(j : Int), xkd, x0 :: l⟩ v' w') 9 rfl (by kernel_rfl) (fun _ _ _ h y => h.ext y) (fun w5 hC hk => ?_) ?_
                · unfold does
                  go_simp
                  refine CallR.act ((HTk w5 hC).out.mono ?_)
                  rintro e w6 ⟨v', rfl, u, t, os2, F', h1, h2, h3, h4, h5, h6, h7, h8⟩
                  exact ⟨v', rfl, hk.trans h8, u, t, os2, F', h1, h2, h3, h4, h5, h6, h7, hk.trans h8⟩
                rintro _ ⟨_, u, t, os2, F', rfl, _, _, _, hu, _, _, _⟩
                obtain ⟨au, cu, rfl⟩ := hu.row.form
                generalize t.out.length = no
                clear hu
                simp only [Act.put, qS0, qS1, qS2]
                repeat (apply FlowT.d; (intro w1 hk; unfold does; go_simp; (try go_ints); (first | exact DetR.mk | (simp only [↓IntWalk.iteOmega, Oper.doesUpon_value]; exact DetR.mk) | (simp only [↓IntWalk.iteOmega]; go_simp; (try go_ints); exact DetR.mk))); simp only [Act.put, qS0, qS1, qS2])
                refine FlowT.fin fun w4 hC4 hk4 => ?_
                obtain ⟨u', t', os2', F2, e1, g1, g2, g3, g4, g5, g6, g7⟩ := hC4
                obtain rfl : u' = .slice au no cu := by simp at e1; exact e1.symm
                have hno : no = t'.out.length := by
                  obtain ⟨_, _, e'⟩ := g4.row.form
                  simp only [Value.slice.injEq] at e'
                  exact e'.2.1
                rw [HFj.out] at g5 g7
                obtain ⟨o1, o2, o3⟩ := HS.out.outs Hw.out Hk.out.1 Hx3n.out Hn3.out Ho3v.out Hr.out Hxn.out rfl Hmass.out g1 g2 g3 g5 g6 g7
                have hnb : no ≤ 120000001 := by rw [hno]; exact o2
                have HAp := hid (lawapart_any (.slice au no cu) t'.out os2' (j : Int) (k2 : Int) w4 F2 g4 o1 (by omega))
                have Hx94 : Hid (Ext w9 w4) := hid (Keep.new (Hxq.out.trans Hx3n.out) g7 fun b hb => Nat.le_of_not_lt fun h => hb (by rw [← HFj.out]; exact Hlow.out b h))
                have HG := hid (And.intro g1 (And.intro g2 (And.intro g3 (And.intro g5 (And.intro g6 g7)))))
                have Hg4 := hid g4
                have Hno := hid hno
                have Hn4 := hid o3
                have s0 := s0 w4 hk4
                clear hno e1 g1 g2 g3 g4 g5 g6 g7 o1 o2 o3 hk4 pj s1 s2 HTk
                go_wp2_with fail
                refine HAp.out.mono ?_
                intro e w5 hx
                obtain ⟨rfl, hx5⟩ := hx
                have Hx5 := hid hx5
                have Hrow5 : Hid (w5.ownsRow w9.heap.size 57 3 (.slice a3' N3 c3') N3 ((os.take 0 ++ os.drop (0 + 1)).flatMap N2.cells)) := hid (by
                  have := (Hn4.out.ext hx5).row
                  rwa [Hlen3.out] at this)
                have Hsr5 := hid (Hg4.out.ext hx5).src
                have Hb5 := hid (Nat.le_trans Hx94.out.size hx5.size)
                have Hnb := hid hnb
                clear HAp hx5 s0 hnb
                go_wp2_with (at_builtin; refine wpList_append_big w9.heap.size Hb5.out rfl _ _ rfl (.slice a3' N3 c3') N3 ((os.take 0 ++ os.drop (0 + 1)).flatMap N2.cells) rfl Hrow5.out au no cu (os2'.flatMap N2.cells) rfl Hsr5.out (by have := HN3b.out; have := Hnb.out; omega) ?_
                             intro v6 w6 ho6 hk6 hl6
                             obtain ⟨a6', c6', rfl⟩ := row_form ho6
                             have Ho6 := hid ho6
                             have Hk6 := hid hk6
                             have Hl6 := hid hl6
                             clear ho6 hk6 hl6)
                have hN6 : NotesO w9.heap.size w6 (.slice a6' (N3 + no) c6') ((ns.take 0 ++ ns.drop (0 + 1)) ++ t'.out) ((os.take 0 ++ os.drop (0 + 1)) ++ os2') := (Hn4.out.ext Hx5.out).more (Hg4.out.ext Hx5.out).nums Hg4.out.eq Hk6.out (by rw [Hlen3.out, ← Hno.out]; exact Ho6.out)
                obtain ⟨L6, e1, e2, e3⟩ := HS.out.next HLe.out Hw.out Hl.out Hx3n.out Hn3.out Ho3v.out Hr.out Hxn.out rfl HG.out.1 HG.out.2.1 HG.out.2.2.1 HG.out.2.2.2.1 HG.out.2.2.2.2.1 HG.out.2.2.2.2.2 Hx5.out Hk6.out hN6 Hl6.out
                have E1 := hid e1
                have E2 := hid e2
                have E3 : Hid (mass (L6.map SR.s) ((ns.take 0 ++ ns.drop (0 + 1)) ++ t'.out) < standMes P k2 S w9.heap.size (.slice (some ⟨ga, 0, none⟩) k2 ca) (.slice (some ⟨gq, 0, none⟩) nn cn) wr) := hid (by rw [← HM.out]; exact e3)
                have Hx96 : Hid (Ext w9 w6) := hid (Keep.new (Hx94.out.trans Hx5.out) Hk6.out fun b hb => (World.ownsRow.lt Hrow5.out b hb).1)
                have Hlen6 : Hid (((ns.take 0 ++ ns.drop (0 + 1)) ++ t'.out).length = N3 + no) := hid (by rw [List.length_append, Hlen3.out, Hno.out])
                clear e1 e2 e3 hN6
                have HNe := hid (lawnear_any ⟨ga, 0, none⟩ k2 ca ah ch S false w6 Hk.out ((Hsn.out.ext Hx96.out).lift Hx96.out.size) fun i hi => E2.out.near HLe.out Hw.out Hk.out.1 E1.out HSl.out false (fun h => by cases h) hi)
                refine HNe.out.mono ?_
                intro e w7 hx
                obtain ⟨rfl, hx7⟩ := hx
                have Hx7 := hid hx7
                clear HNe hx7
                go_wp2
                have E4 := hid (standMes_le (by rw [List.length_map]; exact E1.out) (E2.out.ext Hx7.out))
                rw [grow_s] at E4
                go_roundw
                case rel => exact ⟨i + 1, a6', N3 + no, c6', by go_num, rfl, ⟨_, _, _, by rw [List.length_map]; exact E1.out, E2.out.ext Hx7.out⟩, by have := E4.out; have := E3.out; have := Hmes.out; omega, Hx96.out.trans Hx7.out⟩
                case measure => exact Nat.lt_of_le_of_lt E4.out E3.out
              · have hcq2 : ((1 : Int) = (cn : Int)) = False := by simp; omega
                obtain ⟨⟨⟨xto, xkd, xl⟩, xv⟩, hx⟩ : ∃ x : N2, os[0]? = some x := ⟨_, List.getElem?_eq_getElem (by rw [Hos.out]; exact hqn)⟩
                have hxn : ns[0]? = some ⟨xto, xkd, xl⟩ := by rw [← HS.out.notes.eq, List.getElem?_map, hx]; rfl
                obtain ⟨hok, hl2⟩ := HS.out.play.nok _ (List.mem_of_getElem? hxn)
                have hnu := HS.out.notes.nums _ (List.mem_of_getElem? hx)
                obtain ⟨x0, l, hxl⟩ := nok_cons hok
                simp only at hxl
                subst hxl
                obtain ⟨j, hjk, hxj⟩ := to_nat Hk.out.1 hok
                simp only at hxj
                subst hxj
                obtain ⟨av, cv, hv⟩ := row_form hnu
                simp only at hv
                subst hv
                obtain ⟨r, hr⟩ : ∃ r, L[j]? = some r := ⟨_, List.getElem?_eq_getElem (by rw [Hl.out]; exact hjk)⟩
                have z0 := HS.out.notes.cell hx 0 _ rfl (by omega)
                have z1 := HS.out.notes.cell hx 1 _ rfl (by omega)
                have z2 := HS.out.notes.cell hx 2 _ rfl (by omega)
                obtain ⟨LL, hLL⟩ : ∃ LL, LL = x0 :: l := ⟨_, rfl⟩
                obtain ⟨NL, hNL⟩ : ∃ NL, NL = LL.length := ⟨_, rfl⟩
                rw [← hLL, ← hNL] at z2 hnu
                rw [← hLL] at hxn hok hx
                simp only [Nat.zero_mul, Nat.zero_add, Nat.add_zero] at z0 z1 z2
                obtain ⟨W1, hW1⟩ : ∃ W1, W1 = wr.alloc (.cells #[.int .i64 (j : Int), .int .u8 xkd, .slice av NL cv] 57) := ⟨_, rfl⟩
                have HW1n := hid hW1
                have Hx1 : Hid (Ext wr W1) := hid (by rw [hW1]; exact (Ext.refl _).alloc _)
                have HB1n : Hid (Blk W1 wr.heap.size #[.int .i64 (j : Int), .int .u8 xkd, .slice av NL cv] 57) := hid (by rw [hW1]; exact Blk.new _ _ _)
                have Hs1 : Hid (Src W1 (some ⟨gq, 0, none⟩) 0 3 ((os.take 0).flatMap N2.cells)) := hid (by
                  have := (HS.out.notes.ext Hx1.out).src 0 0 (by rw [← Hnn.out]; omega)
                  rwa [List.drop_zero, Nat.zero_mul] at this)
                have Hb1 : Hid (w9.heap.size ≤ W1.heap.size) := hid (Nat.le_trans Hxq.out.size Hx1.out.size)
                have Hqn := hid hqn
                have Hxn := hid hxn
                have Hnok := hid (And.intro hok hl2)
                have Hnu := hid hnu
                have HLL := hid hLL
                have HNL := hid hNL
                have Hr := hid hr
                have Hjk := hid hjk
                have hlim1 : 0 + 0 ≤ 1000000000 := by omega
                have hlim2 : 0 + (nn - (0 + 1)) ≤ 1000000000 := by omega
                clear hxn hok hl2 hnu hLL hNL hr hW1 hx
                go_wp2_with (first
                  | (at_builtin; rw [← HW1n.out]; refine wpList_append_big w9.heap.size Hb1.out rfl _ _ rfl (.slice none 0 0) 0 [] rfl (World.ownsRow_nil _ _ _ _) (some ⟨gq, 0, none⟩) 0 _ ((os.take 0).flatMap N2.cells) rfl Hs1.out hlim1 ?_
                     intro v2 w2 ho2 hk2 hl2
                     simp only [Nat.zero_add, List.nil_append] at ho2
                     obtain ⟨a2', c2', rfl⟩ := row_form ho2
                     have Hx2 := hid (Keep.new (Ext.refl _) hk2 (fun i hi => by cases hi))
                     have Hn2 := hid (HS.out.notes.ext (Hx1.out.trans Hx2.out))
                     have Ho2 := hid ho2
                     have Hl2 : Hid (∀ b, (Value.slice a2' 0 c2').ownBlock = some b → W1.heap.size ≤ b) := hid fun b hb => (hl2 b hb).elim (fun h => by cases h) id
                     have Hs2 := hid (show Src w2 (some ⟨gq, (0 + 1) * 3, none⟩) (nn - (0 + 1)) 3 ((os.drop (0 + 1)).flatMap N2.cells) from by have := Hn2.out.src (0 + 1) (nn - (0 + 1)) (by rw [← Hnn.out]; omega); rwa [List.take_of_length_le (by rw [List.length_drop, Hos.out]; exact Nat.le_refl _)] at this)
                     have Hb2 := hid (Nat.le_trans Hb1.out Hx2.out.size)
                     clear ho2 hk2 hl2)
                  | (at_builtin; refine wpList_append_big w9.heap.size Hb2.out rfl _ _ rfl (.slice a2' 0 c2') 0 ((os.take 0).flatMap N2.cells) rfl Ho2.out (some ⟨gq, (0 + 1) * 3, none⟩) (nn - (0 + 1)) _ ((os.drop (0 + 1)).flatMap N2.cells) rfl Hs2.out hlim2 ?_
                     intro v3 w3 ho3 hk3 hl3
                     obtain ⟨a3', c3', rfl⟩ := row_form ho3
                     have Hk3 := hid hk3
                     have Ho3 := hid ho3
                     have Hl3 := hid hl3
                     clear ho3 hk3 hl3))
                simp only [Nat.zero_add] at Ho3 Hl3
                generalize hN3x : nn - 1 = N3 at Ho3 Hl3 ⊢
                have hN3 : 0 + (nn - (0 + 1)) = N3 := by omega
                clear hN3x
                have hx13 := Keep.new Hx2.out Hk3.out fun b hb => Hl2.out b hb
                have Hx3n := hid (Hx1.out.trans hx13)
                have Hn3 := hid (NotesO.left HS.out.notes 0 Hx1.out Hx2.out Hk3.out Ho2.out (by rw [← Hnn.out]; exact Hqn.out) (by rw [← Hnn.out, hN3]; exact Ho3.out))
                have Hlen3 : Hid ((ns.take 0 ++ ns.drop (0 + 1)).length = N3) := hid (by rw [List.length_append, List.length_take, List.length_drop, ← Hnn.out, Nat.min_eq_left (by omega), hN3])
                have HN3b : Hid (N3 ≤ 120000000) := hid (by omega)
                have Ho3v : Hid (∀ b, (Value.slice a3' N3 c3').ownBlock = some b → wr.heap.size ≤ b) := hid fun b hb => (Hl3.out b hb).elim (fun h => Nat.le_trans Hx1.out.size (Hl2.out b h)) fun h => Nat.le_trans (Hx1.out.trans Hx2.out).size h
                have hLLx := HLL.out
                subst hLLx
                have hNLx := HNL.out
                have hmass : mass (L.map SR.s) ns ≤ 120000000 := by rw [HM.out]; have := Hmes.out; omega
                have Hmass := hid hmass
                clear hN3
                have HTk := fun w5 (y : Ext w3 w5) => hid (HS.out.takes Hx3n.out Hn3.out Ho3v.out Hr.out Hxn.out hmass (own_ext Hnu.out Hx3n.out) w5 y)
                obtain ⟨t1, t2, t3, t4, t5, t6, t7, t8, t9⟩ := HS.out.ready Hx3n.out Hn3.out Ho3v.out Hr.out
                obtain ⟨Fj, hFj⟩ : ∃ Fj, Fj = (r.grow wr.heap.size w3.heap.size).F := ⟨_, rfl⟩
                have HFj := hid hFj
                rw [← hFj] at HTk t6 t7 t9
                have Hlow := hid t6
                have Hfga := t9 ga (.inl rfl)
                have Hfwr := t7 wr.heap.size (Nat.le_refl _) (Nat.lt_of_lt_of_le HB1n.out.lt hx13.size)
                have hptr := own_ext HS.out.ptr Hx3n.out
                rw [Hl.out] at hptr
                have hpc := own_get hptr j (u := .pointer (some ⟨r.g, 0, none⟩)) (by rw [List.getElem?_map, Hr.out]; rfl)
                have pj : ∀ w1, Keep (fun b => ¬ Fj b) w3 w1 → w1.cell? ⟨ga, j, none⟩ = some (.pointer (some ⟨r.g, 0, none⟩)) := fun w1 k => k.cellx hpc (fun h => h Hfga)
                have s0 := (HB1n.out.ext hx13).kc (X := fun b => ¬ Fj b) (fun h => h Hfwr) 0 rfl
                have s1 := (HB1n.out.ext hx13).kc (X := fun b => ¬ Fj b) (fun h => h Hfwr) 1 rfl
                have s2 := (HB1n.out.ext hx13).kc (X := fun b => ¬ Fj b) (fun h => h Hfwr) 2 rfl
                simp only [qA0, qA1, qA2] at s0 s1 s2
                have HB3n := hid (HB1n.out.ext hx13)
                have Hfw := hid Hfwr
                have hjk2 := Hjk.out
                clear hx13 hmass t1 t2 t3 t4 t5 t6 t7 t8 t9 hFj hptr hpc Hfga Hfwr hNLx
                go_wp2
                refine wp_flowT (fun b => ¬ Fj b) (by kernel_rfl) (by kernel_rfl) ?_
                repeat (apply FlowT.d; (intro w1 hk; unfold does; go_simp; (try go_ints); (first | exact DetR.mk | (simp only [↓IntWalk.iteOmega, Oper.doesUpon_value]; exact DetR.mk) | (simp only [↓IntWalk.iteOmega]; go_simp; (try go_ints); exact DetR.mk))); simp only [Act.put, qS0, qS1, qS2])
                refine FlowT.s (fun v' w' => TookN w3 r.G Fj r.g r.c r.s ⟨(j : Int), xkd, x0 :: l⟩ v' w') 9 rfl (by kernel_rfl) (fun _ _ _ h y => h.ext y) (fun w5 hC hk => ?_) ?_
                · unfold does
                  go_simp
                  refine CallR.act ((HTk w5 hC).out.mono ?_)
                  rintro e w6 ⟨v', rfl, u, t, os2, F', h1, h2, h3, h4, h5, h6, h7, h8⟩
                  exact ⟨v', rfl, hk.trans h8, u, t, os2, F', h1, h2, h3, h4, h5, h6, h7, hk.trans h8⟩
                rintro _ ⟨_, u, t, os2, F', rfl, _, _, _, hu, _, _, _⟩
                obtain ⟨au, cu, rfl⟩ := hu.row.form
                generalize t.out.length = no
                clear hu
                simp only [Act.put, qS0, qS1, qS2]
                repeat (apply FlowT.d; (intro w1 hk; unfold does; go_simp; (try go_ints); (first | exact DetR.mk | (simp only [↓IntWalk.iteOmega, Oper.doesUpon_value]; exact DetR.mk) | (simp only [↓IntWalk.iteOmega]; go_simp; (try go_ints); exact DetR.mk))); simp only [Act.put, qS0, qS1, qS2])
                refine FlowT.fin fun w4 hC4 hk4 => ?_
                obtain ⟨u', t', os2', F2, e1, g1, g2, g3, g4, g5, g6, g7⟩ := hC4
                obtain rfl : u' = .slice au no cu := by simp at e1; exact e1.symm
                have hno : no = t'.out.length := by
                  obtain ⟨_, _, e'⟩ := g4.row.form
                  simp only [Value.slice.injEq] at e'
                  exact e'.2.1
                rw [HFj.out] at g5 g7
                obtain ⟨o1, o2, o3⟩ := HS.out.outs Hw.out Hk.out.1 Hx3n.out Hn3.out Ho3v.out Hr.out Hxn.out rfl Hmass.out g1 g2 g3 g5 g6 g7
                have hnb : no ≤ 120000001 := by rw [hno]; exact o2
                have HAp := hid (lawapart_any (.slice au no cu) t'.out os2' (j : Int) (k2 : Int) w4 F2 g4 o1 (by omega))
                have Hx94 : Hid (Ext w9 w4) := hid (Keep.new (Hxq.out.trans Hx3n.out) g7 fun b hb => Nat.le_of_not_lt fun h => hb (by rw [← HFj.out]; exact Hlow.out b h))
                have HG := hid (And.intro g1 (And.intro g2 (And.intro g3 (And.intro g5 (And.intro g6 g7)))))
                have Hg4 := hid g4
                have Hno := hid hno
                have Hn4 := hid o3
                have s0 := s0 w4 hk4
                clear hno e1 g1 g2 g3 g4 g5 g6 g7 o1 o2 o3 hk4 pj s1 s2 HTk
                go_wp2_with fail
                refine HAp.out.mono ?_
                intro e w5 hx
                obtain ⟨rfl, hx5⟩ := hx
                have Hx5 := hid hx5
                have Hrow5 : Hid (w5.ownsRow w9.heap.size 57 3 (.slice a3' N3 c3') N3 ((os.take 0 ++ os.drop (0 + 1)).flatMap N2.cells)) := hid (by
                  have := (Hn4.out.ext hx5).row
                  rwa [Hlen3.out] at this)
                have Hsr5 := hid (Hg4.out.ext hx5).src
                have Hb5 := hid (Nat.le_trans Hx94.out.size hx5.size)
                have Hnb := hid hnb
                clear HAp hx5 s0 hnb
                go_wp2_with (at_builtin; refine wpList_append_big w9.heap.size Hb5.out rfl _ _ rfl (.slice a3' N3 c3') N3 ((os.take 0 ++ os.drop (0 + 1)).flatMap N2.cells) rfl Hrow5.out au no cu (os2'.flatMap N2.cells) rfl Hsr5.out (by have := HN3b.out; have := Hnb.out; omega) ?_
                             intro v6 w6 ho6 hk6 hl6
                             obtain ⟨a6', c6', rfl⟩ := row_form ho6
                             have Ho6 := hid ho6
                             have Hk6 := hid hk6
                             have Hl6 := hid hl6
                             clear ho6 hk6 hl6)
                have hN6 : NotesO w9.heap.size w6 (.slice a6' (N3 + no) c6') ((ns.take 0 ++ ns.drop (0 + 1)) ++ t'.out) ((os.take 0 ++ os.drop (0 + 1)) ++ os2') := (Hn4.out.ext Hx5.out).more (Hg4.out.ext Hx5.out).nums Hg4.out.eq Hk6.out (by rw [Hlen3.out, ← Hno.out]; exact Ho6.out)
                obtain ⟨L6, e1, e2, e3⟩ := HS.out.next HLe.out Hw.out Hl.out Hx3n.out Hn3.out Ho3v.out Hr.out Hxn.out rfl HG.out.1 HG.out.2.1 HG.out.2.2.1 HG.out.2.2.2.1 HG.out.2.2.2.2.1 HG.out.2.2.2.2.2 Hx5.out Hk6.out hN6 Hl6.out
                have E1 := hid e1
                have E2 := hid e2
                have E3 : Hid (mass (L6.map SR.s) ((ns.take 0 ++ ns.drop (0 + 1)) ++ t'.out) < standMes P k2 S w9.heap.size (.slice (some ⟨ga, 0, none⟩) k2 ca) (.slice (some ⟨gq, 0, none⟩) nn cn) wr) := hid (by rw [← HM.out]; exact e3)
                have Hx96 : Hid (Ext w9 w6) := hid (Keep.new (Hx94.out.trans Hx5.out) Hk6.out fun b hb => (World.ownsRow.lt Hrow5.out b hb).1)
                have Hlen6 : Hid (((ns.take 0 ++ ns.drop (0 + 1)) ++ t'.out).length = N3 + no) := hid (by rw [List.length_append, Hlen3.out, Hno.out])
                clear e1 e2 e3 hN6
                have HNe := hid (lawnear_any ⟨ga, 0, none⟩ k2 ca ah ch S false w6 Hk.out ((Hsn.out.ext Hx96.out).lift Hx96.out.size) fun i hi => E2.out.near HLe.out Hw.out Hk.out.1 E1.out HSl.out false (fun h => by cases h) hi)
                refine HNe.out.mono ?_
                intro e w7 hx
                obtain ⟨rfl, hx7⟩ := hx
                have Hx7 := hid hx7
                clear HNe hx7
                go_wp2
                have E4 := hid (standMes_le (by rw [List.length_map]; exact E1.out) (E2.out.ext Hx7.out))
                rw [grow_s] at E4
                go_roundw
                case rel => exact ⟨i + 1, a6', N3 + no, c6', by go_num, rfl, ⟨_, _, _, by rw [List.length_map]; exact E1.out, E2.out.ext Hx7.out⟩, by have := E4.out; have := E3.out; have := Hmes.out; omega, Hx96.out.trans Hx7.out⟩
                case measure => exact Nat.lt_of_le_of_lt E4.out E3.out
            · obtain ⟨yn, rfl⟩ := Int.eq_ofNat_of_zero_le (show 0 ≤ y by omega)
              have htm := tmod_nat yn nn
              have hqn : yn % nn < nn := Nat.mod_lt _ hnpos
              generalize yn % nn = q at htm hqn
              clear hy hyl
              by_cases hcq : cn = q + 1
              · have hcq2 : ((q : Int) + 1 = (cn : Int)) = True := by simp; omega
                have hcq3 : cn - (q + 1) = 0 := by omega
                obtain ⟨⟨⟨xto, xkd, xl⟩, xv⟩, hx⟩ : ∃ x : N2, os[q]? = some x := ⟨_, List.getElem?_eq_getElem (by rw [Hos.out]; exact hqn)⟩
                have hxn : ns[q]? = some ⟨xto, xkd, xl⟩ := by rw [← HS.out.notes.eq, List.getElem?_map, hx]; rfl
                obtain ⟨hok, hl2⟩ := HS.out.play.nok _ (List.mem_of_getElem? hxn)
                have hnu := HS.out.notes.nums _ (List.mem_of_getElem? hx)
                obtain ⟨x0, l, hxl⟩ := nok_cons hok
                simp only at hxl
                subst hxl
                obtain ⟨j, hjk, hxj⟩ := to_nat Hk.out.1 hok
                simp only at hxj
                subst hxj
                obtain ⟨av, cv, hv⟩ := row_form hnu
                simp only at hv
                subst hv
                obtain ⟨r, hr⟩ : ∃ r, L[j]? = some r := ⟨_, List.getElem?_eq_getElem (by rw [Hl.out]; exact hjk)⟩
                have z0 := HS.out.notes.cell hx 0 _ rfl (by omega)
                have z1 := HS.out.notes.cell hx 1 _ rfl (by omega)
                have z2 := HS.out.notes.cell hx 2 _ rfl (by omega)
                obtain ⟨LL, hLL⟩ : ∃ LL, LL = x0 :: l := ⟨_, rfl⟩
                obtain ⟨NL, hNL⟩ : ∃ NL, NL = LL.length := ⟨_, rfl⟩
                rw [← hLL, ← hNL] at z2 hnu
                rw [← hLL] at hxn hok hx
                simp only [Nat.zero_mul, Nat.zero_add, Nat.add_zero] at z0 z1 z2
                obtain ⟨W1, hW1⟩ : ∃ W1, W1 = wr.alloc (.cells #[.int .i64 (j : Int), .int .u8 xkd, .slice av NL cv] 57) := ⟨_, rfl⟩
                have HW1n := hid hW1
                have Hx1 : Hid (Ext wr W1) := hid (by rw [hW1]; exact (Ext.refl _).alloc _)
                have HB1n : Hid (Blk W1 wr.heap.size #[.int .i64 (j : Int), .int .u8 xkd, .slice av NL cv] 57) := hid (by rw [hW1]; exact Blk.new _ _ _)
                have Hs1 : Hid (Src W1 (some ⟨gq, 0, none⟩) q 3 ((os.take q).flatMap N2.cells)) := hid (by
                  have := (HS.out.notes.ext Hx1.out).src 0 q (by rw [← Hnn.out]; omega)
                  rwa [List.drop_zero, Nat.zero_mul] at this)
                have Hb1 : Hid (w9.heap.size ≤ W1.heap.size) := hid (Nat.le_trans Hxq.out.size Hx1.out.size)
                have Hqn := hid hqn
                have Hxn := hid hxn
                have Hnok := hid (And.intro hok hl2)
                have Hnu := hid hnu
                have HLL := hid hLL
                have HNL := hid hNL
                have Hr := hid hr
                have Hjk := hid hjk
                have hlim1 : 0 + q ≤ 1000000000 := by omega
                have hlim2 : q + (nn - (q + 1)) ≤ 1000000000 := by omega
                clear hxn hok hl2 hnu hLL hNL hr hW1 hx
                go_wp2_with (first
                  | (at_builtin; rw [← HW1n.out]; refine wpList_append_big w9.heap.size Hb1.out rfl _ _ rfl (.slice none 0 0) 0 [] rfl (World.ownsRow_nil _ _ _ _) (some ⟨gq, 0, none⟩) q _ ((os.take q).flatMap N2.cells) rfl Hs1.out hlim1 ?_
                     intro v2 w2 ho2 hk2 hl2
                     simp only [Nat.zero_add, List.nil_append] at ho2
                     obtain ⟨a2', c2', rfl⟩ := row_form ho2
                     have Hx2 := hid (Keep.new (Ext.refl _) hk2 (fun i hi => by cases hi))
                     have Hn2 := hid (HS.out.notes.ext (Hx1.out.trans Hx2.out))
                     have Ho2 := hid ho2
                     have Hl2 : Hid (∀ b, (Value.slice a2' q c2').ownBlock = some b → W1.heap.size ≤ b) := hid fun b hb => (hl2 b hb).elim (fun h => by cases h) id
                     have Hs2 := hid (Src.none3 w2 ⟨gq, 0, none⟩ (q := q) (by omega) Hos.out)
                     have Hb2 := hid (Nat.le_trans Hb1.out Hx2.out.size)
                     clear ho2 hk2 hl2)
                  | (at_builtin; refine wpList_append_big w9.heap.size Hb2.out rfl _ _ rfl (.slice a2' q c2') q ((os.take q).flatMap N2.cells) rfl Ho2.out (some ⟨gq, 0, none⟩) (nn - (q + 1)) _ ((os.drop (q + 1)).flatMap N2.cells) rfl Hs2.out hlim2 ?_
                     intro v3 w3 ho3 hk3 hl3
                     obtain ⟨a3', c3', rfl⟩ := row_form ho3
                     have Hk3 := hid hk3
                     have Ho3 := hid ho3
                     have Hl3 := hid hl3
                     clear ho3 hk3 hl3))
                skip
                generalize hN3x : q + (nn - (q + 1)) = N3 at Ho3 Hl3 ⊢
                have hN3 : q + (nn - (q + 1)) = N3 := by omega
                clear hN3x
                have hx13 := Keep.new Hx2.out Hk3.out fun b hb => Hl2.out b hb
                have Hx3n := hid (Hx1.out.trans hx13)
                have Hn3 := hid (NotesO.left HS.out.notes q Hx1.out Hx2.out Hk3.out Ho2.out (by rw [← Hnn.out]; exact Hqn.out) (by rw [← Hnn.out, hN3]; exact Ho3.out))
                have Hlen3 : Hid ((ns.take q ++ ns.drop (q + 1)).length = N3) := hid (by rw [List.length_append, List.length_take, List.length_drop, ← Hnn.out, Nat.min_eq_left (by omega), hN3])
                have HN3b : Hid (N3 ≤ 120000000) := hid (by omega)
                have Ho3v : Hid (∀ b, (Value.slice a3' N3 c3').ownBlock = some b → wr.heap.size ≤ b) := hid fun b hb => (Hl3.out b hb).elim (fun h => Nat.le_trans Hx1.out.size (Hl2.out b h)) fun h => Nat.le_trans (Hx1.out.trans Hx2.out).size h
                have hLLx := HLL.out
                subst hLLx
                have hNLx := HNL.out
                have hmass : mass (L.map SR.s) ns ≤ 120000000 := by rw [HM.out]; have := Hmes.out; omega
                have Hmass := hid hmass
                clear hN3
                have HTk := fun w5 (y : Ext w3 w5) => hid (HS.out.takes Hx3n.out Hn3.out Ho3v.out Hr.out Hxn.out hmass (own_ext Hnu.out Hx3n.out) w5 y)
                obtain ⟨t1, t2, t3, t4, t5, t6, t7, t8, t9⟩ := HS.out.ready Hx3n.out Hn3.out Ho3v.out Hr.out
                obtain ⟨Fj, hFj⟩ : ∃ Fj, Fj = (r.grow wr.heap.size w3.heap.size).F := ⟨_, rfl⟩
                have HFj := hid hFj
                rw [← hFj] at HTk t6 t7 t9
                have Hlow := hid t6
                have Hfga := t9 ga (.inl rfl)
                have Hfwr := t7 wr.heap.size (Nat.le_refl _) (Nat.lt_of_lt_of_le HB1n.out.lt hx13.size)
                have hptr := own_ext HS.out.ptr Hx3n.out
                rw [Hl.out] at hptr
                have hpc := own_get hptr j (u := .pointer (some ⟨r.g, 0, none⟩)) (by rw [List.getElem?_map, Hr.out]; rfl)
                have pj : ∀ w1, Keep (fun b => ¬ Fj b) w3 w1 → w1.cell? ⟨ga, j, none⟩ = some (.pointer (some ⟨r.g, 0, none⟩)) := fun w1 k => k.cellx hpc (fun h => h Hfga)
                have s0 := (HB1n.out.ext hx13).kc (X := fun b => ¬ Fj b) (fun h => h Hfwr) 0 rfl
                have s1 := (HB1n.out.ext hx13).kc (X := fun b => ¬ Fj b) (fun h => h Hfwr) 1 rfl
                have s2 := (HB1n.out.ext hx13).kc (X := fun b => ¬ Fj b) (fun h => h Hfwr) 2 rfl
                simp only [qA0, qA1, qA2] at s0 s1 s2
                have HB3n := hid (HB1n.out.ext hx13)
                have Hfw := hid Hfwr
                have hjk2 := Hjk.out
                clear hx13 hmass t1 t2 t3 t4 t5 t6 t7 t8 t9 hFj hptr hpc Hfga Hfwr hNLx
                go_wp2
                refine wp_flowT (fun b => ¬ Fj b) (by kernel_rfl) (by kernel_rfl) ?_
                repeat (apply FlowT.d; (intro w1 hk; unfold does; go_simp; (try go_ints); (first | exact DetR.mk | (simp only [↓IntWalk.iteOmega, Oper.doesUpon_value]; exact DetR.mk) | (simp only [↓IntWalk.iteOmega]; go_simp; (try go_ints); exact DetR.mk))); simp only [Act.put, qS0, qS1, qS2])
                refine FlowT.s (fun v' w' => TookN w3 r.G Fj r.g r.c r.s ⟨(j : Int), xkd, x0 :: l⟩ v' w') 9 rfl (by kernel_rfl) (fun _ _ _ h y => h.ext y) (fun w5 hC hk => ?_) ?_
                · unfold does
                  go_simp
                  refine CallR.act ((HTk w5 hC).out.mono ?_)
                  rintro e w6 ⟨v', rfl, u, t, os2, F', h1, h2, h3, h4, h5, h6, h7, h8⟩
                  exact ⟨v', rfl, hk.trans h8, u, t, os2, F', h1, h2, h3, h4, h5, h6, h7, hk.trans h8⟩
                rintro _ ⟨_, u, t, os2, F', rfl, _, _, _, hu, _, _, _⟩
                obtain ⟨au, cu, rfl⟩ := hu.row.form
                generalize t.out.length = no
                clear hu
                simp only [Act.put, qS0, qS1, qS2]
                repeat (apply FlowT.d; (intro w1 hk; unfold does; go_simp; (try go_ints); (first | exact DetR.mk | (simp only [↓IntWalk.iteOmega, Oper.doesUpon_value]; exact DetR.mk) | (simp only [↓IntWalk.iteOmega]; go_simp; (try go_ints); exact DetR.mk))); simp only [Act.put, qS0, qS1, qS2])
                refine FlowT.fin fun w4 hC4 hk4 => ?_
                obtain ⟨u', t', os2', F2, e1, g1, g2, g3, g4, g5, g6, g7⟩ := hC4
                obtain rfl : u' = .slice au no cu := by simp at e1; exact e1.symm
                have hno : no = t'.out.length := by
                  obtain ⟨_, _, e'⟩ := g4.row.form
                  simp only [Value.slice.injEq] at e'
                  exact e'.2.1
                rw [HFj.out] at g5 g7
                obtain ⟨o1, o2, o3⟩ := HS.out.outs Hw.out Hk.out.1 Hx3n.out Hn3.out Ho3v.out Hr.out Hxn.out rfl Hmass.out g1 g2 g3 g5 g6 g7
                have hnb : no ≤ 120000001 := by rw [hno]; exact o2
                have HAp := hid (lawapart_any (.slice au no cu) t'.out os2' (j : Int) (k2 : Int) w4 F2 g4 o1 (by omega))
                have Hx94 : Hid (Ext w9 w4) := hid (Keep.new (Hxq.out.trans Hx3n.out) g7 fun b hb => Nat.le_of_not_lt fun h => hb (by rw [← HFj.out]; exact Hlow.out b h))
                have HG := hid (And.intro g1 (And.intro g2 (And.intro g3 (And.intro g5 (And.intro g6 g7)))))
                have Hg4 := hid g4
                have Hno := hid hno
                have Hn4 := hid o3
                have s0 := s0 w4 hk4
                clear hno e1 g1 g2 g3 g4 g5 g6 g7 o1 o2 o3 hk4 pj s1 s2 HTk
                go_wp2_with fail
                refine HAp.out.mono ?_
                intro e w5 hx
                obtain ⟨rfl, hx5⟩ := hx
                have Hx5 := hid hx5
                have Hrow5 : Hid (w5.ownsRow w9.heap.size 57 3 (.slice a3' N3 c3') N3 ((os.take q ++ os.drop (q + 1)).flatMap N2.cells)) := hid (by
                  have := (Hn4.out.ext hx5).row
                  rwa [Hlen3.out] at this)
                have Hsr5 := hid (Hg4.out.ext hx5).src
                have Hb5 := hid (Nat.le_trans Hx94.out.size hx5.size)
                have Hnb := hid hnb
                clear HAp hx5 s0 hnb
                go_wp2_with (at_builtin; refine wpList_append_big w9.heap.size Hb5.out rfl _ _ rfl (.slice a3' N3 c3') N3 ((os.take q ++ os.drop (q + 1)).flatMap N2.cells) rfl Hrow5.out au no cu (os2'.flatMap N2.cells) rfl Hsr5.out (by have := HN3b.out; have := Hnb.out; omega) ?_
                             intro v6 w6 ho6 hk6 hl6
                             obtain ⟨a6', c6', rfl⟩ := row_form ho6
                             have Ho6 := hid ho6
                             have Hk6 := hid hk6
                             have Hl6 := hid hl6
                             clear ho6 hk6 hl6)
                have hN6 : NotesO w9.heap.size w6 (.slice a6' (N3 + no) c6') ((ns.take q ++ ns.drop (q + 1)) ++ t'.out) ((os.take q ++ os.drop (q + 1)) ++ os2') := (Hn4.out.ext Hx5.out).more (Hg4.out.ext Hx5.out).nums Hg4.out.eq Hk6.out (by rw [Hlen3.out, ← Hno.out]; exact Ho6.out)
                obtain ⟨L6, e1, e2, e3⟩ := HS.out.next HLe.out Hw.out Hl.out Hx3n.out Hn3.out Ho3v.out Hr.out Hxn.out rfl HG.out.1 HG.out.2.1 HG.out.2.2.1 HG.out.2.2.2.1 HG.out.2.2.2.2.1 HG.out.2.2.2.2.2 Hx5.out Hk6.out hN6 Hl6.out
                have E1 := hid e1
                have E2 := hid e2
                have E3 : Hid (mass (L6.map SR.s) ((ns.take q ++ ns.drop (q + 1)) ++ t'.out) < standMes P k2 S w9.heap.size (.slice (some ⟨ga, 0, none⟩) k2 ca) (.slice (some ⟨gq, 0, none⟩) nn cn) wr) := hid (by rw [← HM.out]; exact e3)
                have Hx96 : Hid (Ext w9 w6) := hid (Keep.new (Hx94.out.trans Hx5.out) Hk6.out fun b hb => (World.ownsRow.lt Hrow5.out b hb).1)
                have Hlen6 : Hid (((ns.take q ++ ns.drop (q + 1)) ++ t'.out).length = N3 + no) := hid (by rw [List.length_append, Hlen3.out, Hno.out])
                clear e1 e2 e3 hN6
                have HNe := hid (lawnear_any ⟨ga, 0, none⟩ k2 ca ah ch S false w6 Hk.out ((Hsn.out.ext Hx96.out).lift Hx96.out.size) fun i hi => E2.out.near HLe.out Hw.out Hk.out.1 E1.out HSl.out false (fun h => by cases h) hi)
                refine HNe.out.mono ?_
                intro e w7 hx
                obtain ⟨rfl, hx7⟩ := hx
                have Hx7 := hid hx7
                clear HNe hx7
                go_wp2
                have E4 := hid (standMes_le (by rw [List.length_map]; exact E1.out) (E2.out.ext Hx7.out))
                rw [grow_s] at E4
                go_roundw
                case rel => exact ⟨i + 1, a6', N3 + no, c6', by go_num, rfl, ⟨_, _, _, by rw [List.length_map]; exact E1.out, E2.out.ext Hx7.out⟩, by have := E4.out; have := E3.out; have := Hmes.out; omega, Hx96.out.trans Hx7.out⟩
                case measure => exact Nat.lt_of_le_of_lt E4.out E3.out
              · have hcq2 : ((q : Int) + 1 = (cn : Int)) = False := by simp; omega
                obtain ⟨⟨⟨xto, xkd, xl⟩, xv⟩, hx⟩ : ∃ x : N2, os[q]? = some x := ⟨_, List.getElem?_eq_getElem (by rw [Hos.out]; exact hqn)⟩
                have hxn : ns[q]? = some ⟨xto, xkd, xl⟩ := by rw [← HS.out.notes.eq, List.getElem?_map, hx]; rfl
                obtain ⟨hok, hl2⟩ := HS.out.play.nok _ (List.mem_of_getElem? hxn)
                have hnu := HS.out.notes.nums _ (List.mem_of_getElem? hx)
                obtain ⟨x0, l, hxl⟩ := nok_cons hok
                simp only at hxl
                subst hxl
                obtain ⟨j, hjk, hxj⟩ := to_nat Hk.out.1 hok
                simp only at hxj
                subst hxj
                obtain ⟨av, cv, hv⟩ := row_form hnu
                simp only at hv
                subst hv
                obtain ⟨r, hr⟩ : ∃ r, L[j]? = some r := ⟨_, List.getElem?_eq_getElem (by rw [Hl.out]; exact hjk)⟩
                have z0 := HS.out.notes.cell hx 0 _ rfl (by omega)
                have z1 := HS.out.notes.cell hx 1 _ rfl (by omega)
                have z2 := HS.out.notes.cell hx 2 _ rfl (by omega)
                obtain ⟨LL, hLL⟩ : ∃ LL, LL = x0 :: l := ⟨_, rfl⟩
                obtain ⟨NL, hNL⟩ : ∃ NL, NL = LL.length := ⟨_, rfl⟩
                rw [← hLL, ← hNL] at z2 hnu
                rw [← hLL] at hxn hok hx
                simp only [Nat.zero_mul, Nat.zero_add, Nat.add_zero] at z0 z1 z2
                obtain ⟨W1, hW1⟩ : ∃ W1, W1 = wr.alloc (.cells #[.int .i64 (j : Int), .int .u8 xkd, .slice av NL cv] 57) := ⟨_, rfl⟩
                have HW1n := hid hW1
                have Hx1 : Hid (Ext wr W1) := hid (by rw [hW1]; exact (Ext.refl _).alloc _)
                have HB1n : Hid (Blk W1 wr.heap.size #[.int .i64 (j : Int), .int .u8 xkd, .slice av NL cv] 57) := hid (by rw [hW1]; exact Blk.new _ _ _)
                have Hs1 : Hid (Src W1 (some ⟨gq, 0, none⟩) q 3 ((os.take q).flatMap N2.cells)) := hid (by
                  have := (HS.out.notes.ext Hx1.out).src 0 q (by rw [← Hnn.out]; omega)
                  rwa [List.drop_zero, Nat.zero_mul] at this)
                have Hb1 : Hid (w9.heap.size ≤ W1.heap.size) := hid (Nat.le_trans Hxq.out.size Hx1.out.size)
                have Hqn := hid hqn
                have Hxn := hid hxn
                have Hnok := hid (And.intro hok hl2)
                have Hnu := hid hnu
                have HLL := hid hLL
                have HNL := hid hNL
                have Hr := hid hr
                have Hjk := hid hjk
                have hlim1 : 0 + q ≤ 1000000000 := by omega
                have hlim2 : q + (nn - (q + 1)) ≤ 1000000000 := by omega
                clear hxn hok hl2 hnu hLL hNL hr hW1 hx
                go_wp2_with (first
                  | (at_builtin; rw [← HW1n.out]; refine wpList_append_big w9.heap.size Hb1.out rfl _ _ rfl (.slice none 0 0) 0 [] rfl (World.ownsRow_nil _ _ _ _) (some ⟨gq, 0, none⟩) q _ ((os.take q).flatMap N2.cells) rfl Hs1.out hlim1 ?_
                     intro v2 w2 ho2 hk2 hl2
                     simp only [Nat.zero_add, List.nil_append] at ho2
                     obtain ⟨a2', c2', rfl⟩ := row_form ho2
                     have Hx2 := hid (Keep.new (Ext.refl _) hk2 (fun i hi => by cases hi))
                     have Hn2 := hid (HS.out.notes.ext (Hx1.out.trans Hx2.out))
                     have Ho2 := hid ho2
                     have Hl2 : Hid (∀ b, (Value.slice a2' q c2').ownBlock = some b → W1.heap.size ≤ b) := hid fun b hb => (hl2 b hb).elim (fun h => by cases h) id
                     have Hs2 := hid (show Src w2 (some ⟨gq, (q + 1) * 3, none⟩) (nn - (q + 1)) 3 ((os.drop (q + 1)).flatMap N2.cells) from by have := Hn2.out.src (q + 1) (nn - (q + 1)) (by rw [← Hnn.out]; omega); rwa [List.take_of_length_le (by rw [List.length_drop, Hos.out]; exact Nat.le_refl _)] at this)
                     have Hb2 := hid (Nat.le_trans Hb1.out Hx2.out.size)
                     clear ho2 hk2 hl2)
                  | (at_builtin; refine wpList_append_big w9.heap.size Hb2.out rfl _ _ rfl (.slice a2' q c2') q ((os.take q).flatMap N2.cells) rfl Ho2.out (some ⟨gq, (q + 1) * 3, none⟩) (nn - (q + 1)) _ ((os.drop (q + 1)).flatMap N2.cells) rfl Hs2.out hlim2 ?_
                     intro v3 w3 ho3 hk3 hl3
                     obtain ⟨a3', c3', rfl⟩ := row_form ho3
                     have Hk3 := hid hk3
                     have Ho3 := hid ho3
                     have Hl3 := hid hl3
                     clear ho3 hk3 hl3))
                skip
                generalize hN3x : q + (nn - (q + 1)) = N3 at Ho3 Hl3 ⊢
                have hN3 : q + (nn - (q + 1)) = N3 := by omega
                clear hN3x
                have hx13 := Keep.new Hx2.out Hk3.out fun b hb => Hl2.out b hb
                have Hx3n := hid (Hx1.out.trans hx13)
                have Hn3 := hid (NotesO.left HS.out.notes q Hx1.out Hx2.out Hk3.out Ho2.out (by rw [← Hnn.out]; exact Hqn.out) (by rw [← Hnn.out, hN3]; exact Ho3.out))
                have Hlen3 : Hid ((ns.take q ++ ns.drop (q + 1)).length = N3) := hid (by rw [List.length_append, List.length_take, List.length_drop, ← Hnn.out, Nat.min_eq_left (by omega), hN3])
                have HN3b : Hid (N3 ≤ 120000000) := hid (by omega)
                have Ho3v : Hid (∀ b, (Value.slice a3' N3 c3').ownBlock = some b → wr.heap.size ≤ b) := hid fun b hb => (Hl3.out b hb).elim (fun h => Nat.le_trans Hx1.out.size (Hl2.out b h)) fun h => Nat.le_trans (Hx1.out.trans Hx2.out).size h
                have hLLx := HLL.out
                subst hLLx
                have hNLx := HNL.out
                have hmass : mass (L.map SR.s) ns ≤ 120000000 := by rw [HM.out]; have := Hmes.out; omega
                have Hmass := hid hmass
                clear hN3
                have HTk := fun w5 (y : Ext w3 w5) => hid (HS.out.takes Hx3n.out Hn3.out Ho3v.out Hr.out Hxn.out hmass (own_ext Hnu.out Hx3n.out) w5 y)
                obtain ⟨t1, t2, t3, t4, t5, t6, t7, t8, t9⟩ := HS.out.ready Hx3n.out Hn3.out Ho3v.out Hr.out
                obtain ⟨Fj, hFj⟩ : ∃ Fj, Fj = (r.grow wr.heap.size w3.heap.size).F := ⟨_, rfl⟩
                have HFj := hid hFj
                rw [← hFj] at HTk t6 t7 t9
                have Hlow := hid t6
                have Hfga := t9 ga (.inl rfl)
                have Hfwr := t7 wr.heap.size (Nat.le_refl _) (Nat.lt_of_lt_of_le HB1n.out.lt hx13.size)
                have hptr := own_ext HS.out.ptr Hx3n.out
                rw [Hl.out] at hptr
                have hpc := own_get hptr j (u := .pointer (some ⟨r.g, 0, none⟩)) (by rw [List.getElem?_map, Hr.out]; rfl)
                have pj : ∀ w1, Keep (fun b => ¬ Fj b) w3 w1 → w1.cell? ⟨ga, j, none⟩ = some (.pointer (some ⟨r.g, 0, none⟩)) := fun w1 k => k.cellx hpc (fun h => h Hfga)
                have s0 := (HB1n.out.ext hx13).kc (X := fun b => ¬ Fj b) (fun h => h Hfwr) 0 rfl
                have s1 := (HB1n.out.ext hx13).kc (X := fun b => ¬ Fj b) (fun h => h Hfwr) 1 rfl
                have s2 := (HB1n.out.ext hx13).kc (X := fun b => ¬ Fj b) (fun h => h Hfwr) 2 rfl
                simp only [qA0, qA1, qA2] at s0 s1 s2
                have HB3n := hid (HB1n.out.ext hx13)
                have Hfw := hid Hfwr
                have hjk2 := Hjk.out
                clear hx13 hmass t1 t2 t3 t4 t5 t6 t7 t8 t9 hFj hptr hpc Hfga Hfwr hNLx
                go_wp2
                refine wp_flowT (fun b => ¬ Fj b) (by kernel_rfl) (by kernel_rfl) ?_
                repeat (apply FlowT.d; (intro w1 hk; unfold does; go_simp; (try go_ints); (first | exact DetR.mk | (simp only [↓IntWalk.iteOmega, Oper.doesUpon_value]; exact DetR.mk) | (simp only [↓IntWalk.iteOmega]; go_simp; (try go_ints); exact DetR.mk))); simp only [Act.put, qS0, qS1, qS2])
                refine FlowT.s (fun v' w' => TookN w3 r.G Fj r.g r.c r.s ⟨(j : Int), xkd, x0 :: l⟩ v' w') 9 rfl (by kernel_rfl) (fun _ _ _ h y => h.ext y) (fun w5 hC hk => ?_) ?_
                · unfold does
                  go_simp
                  refine CallR.act ((HTk w5 hC).out.mono ?_)
                  rintro e w6 ⟨v', rfl, u, t, os2, F', h1, h2, h3, h4, h5, h6, h7, h8⟩
                  exact ⟨v', rfl, hk.trans h8, u, t, os2, F', h1, h2, h3, h4, h5, h6, h7, hk.trans h8⟩
                rintro _ ⟨_, u, t, os2, F', rfl, _, _, _, hu, _, _, _⟩
                obtain ⟨au, cu, rfl⟩ := hu.row.form
                generalize t.out.length = no
                clear hu
                simp only [Act.put, qS0, qS1, qS2]
                repeat (apply FlowT.d; (intro w1 hk; unfold does; go_simp; (try go_ints); (first | exact DetR.mk | (simp only [↓IntWalk.iteOmega, Oper.doesUpon_value]; exact DetR.mk) | (simp only [↓IntWalk.iteOmega]; go_simp; (try go_ints); exact DetR.mk))); simp only [Act.put, qS0, qS1, qS2])
                refine FlowT.fin fun w4 hC4 hk4 => ?_
                obtain ⟨u', t', os2', F2, e1, g1, g2, g3, g4, g5, g6, g7⟩ := hC4
                obtain rfl : u' = .slice au no cu := by simp at e1; exact e1.symm
                have hno : no = t'.out.length := by
                  obtain ⟨_, _, e'⟩ := g4.row.form
                  simp only [Value.slice.injEq] at e'
                  exact e'.2.1
                rw [HFj.out] at g5 g7
                obtain ⟨o1, o2, o3⟩ := HS.out.outs Hw.out Hk.out.1 Hx3n.out Hn3.out Ho3v.out Hr.out Hxn.out rfl Hmass.out g1 g2 g3 g5 g6 g7
                have hnb : no ≤ 120000001 := by rw [hno]; exact o2
                have HAp := hid (lawapart_any (.slice au no cu) t'.out os2' (j : Int) (k2 : Int) w4 F2 g4 o1 (by omega))
                have Hx94 : Hid (Ext w9 w4) := hid (Keep.new (Hxq.out.trans Hx3n.out) g7 fun b hb => Nat.le_of_not_lt fun h => hb (by rw [← HFj.out]; exact Hlow.out b h))
                have HG := hid (And.intro g1 (And.intro g2 (And.intro g3 (And.intro g5 (And.intro g6 g7)))))
                have Hg4 := hid g4
                have Hno := hid hno
                have Hn4 := hid o3
                have s0 := s0 w4 hk4
                clear hno e1 g1 g2 g3 g4 g5 g6 g7 o1 o2 o3 hk4 pj s1 s2 HTk
                go_wp2_with fail
                refine HAp.out.mono ?_
                intro e w5 hx
                obtain ⟨rfl, hx5⟩ := hx
                have Hx5 := hid hx5
                have Hrow5 : Hid (w5.ownsRow w9.heap.size 57 3 (.slice a3' N3 c3') N3 ((os.take q ++ os.drop (q + 1)).flatMap N2.cells)) := hid (by
                  have := (Hn4.out.ext hx5).row
                  rwa [Hlen3.out] at this)
                have Hsr5 := hid (Hg4.out.ext hx5).src
                have Hb5 := hid (Nat.le_trans Hx94.out.size hx5.size)
                have Hnb := hid hnb
                clear HAp hx5 s0 hnb
                go_wp2_with (at_builtin; refine wpList_append_big w9.heap.size Hb5.out rfl _ _ rfl (.slice a3' N3 c3') N3 ((os.take q ++ os.drop (q + 1)).flatMap N2.cells) rfl Hrow5.out au no cu (os2'.flatMap N2.cells) rfl Hsr5.out (by have := HN3b.out; have := Hnb.out; omega) ?_
                             intro v6 w6 ho6 hk6 hl6
                             obtain ⟨a6', c6', rfl⟩ := row_form ho6
                             have Ho6 := hid ho6
                             have Hk6 := hid hk6
                             have Hl6 := hid hl6
                             clear ho6 hk6 hl6)
                have hN6 : NotesO w9.heap.size w6 (.slice a6' (N3 + no) c6') ((ns.take q ++ ns.drop (q + 1)) ++ t'.out) ((os.take q ++ os.drop (q + 1)) ++ os2') := (Hn4.out.ext Hx5.out).more (Hg4.out.ext Hx5.out).nums Hg4.out.eq Hk6.out (by rw [Hlen3.out, ← Hno.out]; exact Ho6.out)
                obtain ⟨L6, e1, e2, e3⟩ := HS.out.next HLe.out Hw.out Hl.out Hx3n.out Hn3.out Ho3v.out Hr.out Hxn.out rfl HG.out.1 HG.out.2.1 HG.out.2.2.1 HG.out.2.2.2.1 HG.out.2.2.2.2.1 HG.out.2.2.2.2.2 Hx5.out Hk6.out hN6 Hl6.out
                have E1 := hid e1
                have E2 := hid e2
                have E3 : Hid (mass (L6.map SR.s) ((ns.take q ++ ns.drop (q + 1)) ++ t'.out) < standMes P k2 S w9.heap.size (.slice (some ⟨ga, 0, none⟩) k2 ca) (.slice (some ⟨gq, 0, none⟩) nn cn) wr) := hid (by rw [← HM.out]; exact e3)
                have Hx96 : Hid (Ext w9 w6) := hid (Keep.new (Hx94.out.trans Hx5.out) Hk6.out fun b hb => (World.ownsRow.lt Hrow5.out b hb).1)
                have Hlen6 : Hid (((ns.take q ++ ns.drop (q + 1)) ++ t'.out).length = N3 + no) := hid (by rw [List.length_append, Hlen3.out, Hno.out])
                clear e1 e2 e3 hN6
                have HNe := hid (lawnear_any ⟨ga, 0, none⟩ k2 ca ah ch S false w6 Hk.out ((Hsn.out.ext Hx96.out).lift Hx96.out.size) fun i hi => E2.out.near HLe.out Hw.out Hk.out.1 E1.out HSl.out false (fun h => by cases h) hi)
                refine HNe.out.mono ?_
                intro e w7 hx
                obtain ⟨rfl, hx7⟩ := hx
                have Hx7 := hid hx7
                clear HNe hx7
                go_wp2
                have E4 := hid (standMes_le (by rw [List.length_map]; exact E1.out) (E2.out.ext Hx7.out))
                rw [grow_s] at E4
                go_roundw
                case rel => exact ⟨i + 1, a6', N3 + no, c6', by go_num, rfl, ⟨_, _, _, by rw [List.length_map]; exact E1.out, E2.out.ext Hx7.out⟩, by have := E4.out; have := E3.out; have := Hmes.out; omega, Hx96.out.trans Hx7.out⟩
                case measure => exact Nat.lt_of_le_of_lt E4.out E3.out
          · have hqn : 0 < nn := hnpos
            by_cases hcq : cn = 1
            · have hcq2 : ((1 : Int) = (cn : Int)) = True := by simp; omega
              have hcq3 : cn - (0 + 1) = 0 := by omega
              obtain ⟨⟨⟨xto, xkd, xl⟩, xv⟩, hx⟩ : ∃ x : N2, os[0]? = some x := ⟨_, List.getElem?_eq_getElem (by rw [Hos.out]; exact hqn)⟩
              have hxn : ns[0]? = some ⟨xto, xkd, xl⟩ := by rw [← HS.out.notes.eq, List.getElem?_map, hx]; rfl
              obtain ⟨hok, hl2⟩ := HS.out.play.nok _ (List.mem_of_getElem? hxn)
              have hnu := HS.out.notes.nums _ (List.mem_of_getElem? hx)
              obtain ⟨x0, l, hxl⟩ := nok_cons hok
              simp only at hxl
              subst hxl
              obtain ⟨j, hjk, hxj⟩ := to_nat Hk.out.1 hok
              simp only at hxj
              subst hxj
              obtain ⟨av, cv, hv⟩ := row_form hnu
              simp only at hv
              subst hv
              obtain ⟨r, hr⟩ : ∃ r, L[j]? = some r := ⟨_, List.getElem?_eq_getElem (by rw [Hl.out]; exact hjk)⟩
              have z0 := HS.out.notes.cell hx 0 _ rfl (by omega)
              have z1 := HS.out.notes.cell hx 1 _ rfl (by omega)
              have z2 := HS.out.notes.cell hx 2 _ rfl (by omega)
              obtain ⟨LL, hLL⟩ : ∃ LL, LL = x0 :: l := ⟨_, rfl⟩
              obtain ⟨NL, hNL⟩ : ∃ NL, NL = LL.length := ⟨_, rfl⟩
              rw [← hLL, ← hNL] at z2 hnu
              rw [← hLL] at hxn hok hx
              simp only [Nat.zero_mul, Nat.zero_add, Nat.add_zero] at z0 z1 z2
              obtain ⟨W1, hW1⟩ : ∃ W1, W1 = wr.alloc (.cells #[.int .i64 (j : Int), .int .u8 xkd, .slice av NL cv] 57) := ⟨_, rfl⟩
              have HW1n := hid hW1
              have Hx1 : Hid (Ext wr W1) := hid (by rw [hW1]; exact (Ext.refl _).alloc _)
              have HB1n : Hid (Blk W1 wr.heap.size #[.int .i64 (j : Int), .int .u8 xkd, .slice av NL cv] 57) := hid (by rw [hW1]; exact Blk.new _ _ _)
              have Hs1 : Hid (Src W1 (some ⟨gq, 0, none⟩) 0 3 ((os.take 0).flatMap N2.cells)) := hid (by
                have := (HS.out.notes.ext Hx1.out).src 0 0 (by rw [← Hnn.out]; omega)
                rwa [List.drop_zero, Nat.zero_mul] at this)
              have Hb1 : Hid (w9.heap.size ≤ W1.heap.size) := hid (Nat.le_trans Hxq.out.size Hx1.out.size)
              have Hqn := hid hqn
              have Hxn := hid hxn
              have Hnok := hid (And.intro hok hl2)
              have Hnu := hid hnu
              have HLL := hid hLL
              have HNL := hid hNL
              have Hr := hid hr
              have Hjk := hid hjk
              have hlim1 : 0 + 0 ≤ 1000000000 := by omega
              have hlim2 : 0 + (nn - (0 + 1)) ≤ 1000000000 := by omega
              clear hxn hok hl2 hnu hLL hNL hr hW1 hx
              go_wp2_with (first
                | (at_builtin; rw [← HW1n.out]; refine wpList_append_big w9.heap.size Hb1.out rfl _ _ rfl (.slice none 0 0) 0 [] rfl (World.ownsRow_nil _ _ _ _) (some ⟨gq, 0, none⟩) 0 _ ((os.take 0).flatMap N2.cells) rfl Hs1.out hlim1 ?_
                   intro v2 w2 ho2 hk2 hl2
                   simp only [Nat.zero_add, List.nil_append] at ho2
                   obtain ⟨a2', c2', rfl⟩ := row_form ho2
                   have Hx2 := hid (Keep.new (Ext.refl _) hk2 (fun i hi => by cases hi))
                   have Hn2 := hid (HS.out.notes.ext (Hx1.out.trans Hx2.out))
                   have Ho2 := hid ho2
                   have Hl2 : Hid (∀ b, (Value.slice a2' 0 c2').ownBlock = some b → W1.heap.size ≤ b) := hid fun b hb => (hl2 b hb).elim (fun h => by cases h) id
                   have Hs2 := hid (Src.none3 w2 ⟨gq, 0, none⟩ (q := 0) (by omega) Hos.out)
                   have Hb2 := hid (Nat.le_trans Hb1.out Hx2.out.size)
                   clear ho2 hk2 hl2)
                | (at_builtin; refine wpList_append_big w9.heap.size Hb2.out rfl _ _ rfl (.slice a2' 0 c2') 0 ((os.take 0).flatMap N2.cells) rfl Ho2.out (some ⟨gq, 0, none⟩) (nn - (0 + 1)) _ ((os.drop (0 + 1)).flatMap N2.cells) rfl Hs2.out hlim2 ?_
                   intro v3 w3 ho3 hk3 hl3
                   obtain ⟨a3', c3', rfl⟩ := row_form ho3
                   have Hk3 := hid hk3
                   have Ho3 := hid ho3
                   have Hl3 := hid hl3
                   clear ho3 hk3 hl3))
              simp only [Nat.zero_add] at Ho3 Hl3
              generalize hN3x : nn - 1 = N3 at Ho3 Hl3 ⊢
              have hN3 : 0 + (nn - (0 + 1)) = N3 := by omega
              clear hN3x
              have hx13 := Keep.new Hx2.out Hk3.out fun b hb => Hl2.out b hb
              have Hx3n := hid (Hx1.out.trans hx13)
              have Hn3 := hid (NotesO.left HS.out.notes 0 Hx1.out Hx2.out Hk3.out Ho2.out (by rw [← Hnn.out]; exact Hqn.out) (by rw [← Hnn.out, hN3]; exact Ho3.out))
              have Hlen3 : Hid ((ns.take 0 ++ ns.drop (0 + 1)).length = N3) := hid (by rw [List.length_append, List.length_take, List.length_drop, ← Hnn.out, Nat.min_eq_left (by omega), hN3])
              have HN3b : Hid (N3 ≤ 120000000) := hid (by omega)
              have Ho3v : Hid (∀ b, (Value.slice a3' N3 c3').ownBlock = some b → wr.heap.size ≤ b) := hid fun b hb => (Hl3.out b hb).elim (fun h => Nat.le_trans Hx1.out.size (Hl2.out b h)) fun h => Nat.le_trans (Hx1.out.trans Hx2.out).size h
              have hLLx := HLL.out
              subst hLLx
              have hNLx := HNL.out
              have hmass : mass (L.map SR.s) ns ≤ 120000000 := by rw [HM.out]; have := Hmes.out; omega
              have Hmass := hid hmass
              clear hN3
              have HTk := fun w5 (y : Ext w3 w5) => hid (HS.out.takes Hx3n.out Hn3.out Ho3v.out Hr.out Hxn.out hmass (own_ext Hnu.out Hx3n.out) w5 y)
              obtain ⟨t1, t2, t3, t4, t5, t6, t7, t8, t9⟩ := HS.out.ready Hx3n.out Hn3.out Ho3v.out Hr.out
              obtain ⟨Fj, hFj⟩ : ∃ Fj, Fj = (r.grow wr.heap.size w3.heap.size).F := ⟨_, rfl⟩
              have HFj := hid hFj
              rw [← hFj] at HTk t6 t7 t9
              have Hlow := hid t6
              have Hfga := t9 ga (.inl rfl)
              have Hfwr := t7 wr.heap.size (Nat.le_refl _) (Nat.lt_of_lt_of_le HB1n.out.lt hx13.size)
              have hptr := own_ext HS.out.ptr Hx3n.out
              rw [Hl.out] at hptr
              have hpc := own_get hptr j (u := .pointer (some ⟨r.g, 0, none⟩)) (by rw [List.getElem?_map, Hr.out]; rfl)
              have pj : ∀ w1, Keep (fun b => ¬ Fj b) w3 w1 → w1.cell? ⟨ga, j, none⟩ = some (.pointer (some ⟨r.g, 0, none⟩)) := fun w1 k => k.cellx hpc (fun h => h Hfga)
              have s0 := (HB1n.out.ext hx13).kc (X := fun b => ¬ Fj b) (fun h => h Hfwr) 0 rfl
              have s1 := (HB1n.out.ext hx13).kc (X := fun b => ¬ Fj b) (fun h => h Hfwr) 1 rfl
              have s2 := (HB1n.out.ext hx13).kc (X := fun b => ¬ Fj b) (fun h => h Hfwr) 2 rfl
              simp only [qA0, qA1, qA2] at s0 s1 s2
              have HB3n := hid (HB1n.out.ext hx13)
              have Hfw := hid Hfwr
              have hjk2 := Hjk.out
              clear hx13 hmass t1 t2 t3 t4 t5 t6 t7 t8 t9 hFj hptr hpc Hfga Hfwr hNLx
              go_wp2
              refine wp_flowT (fun b => ¬ Fj b) (by kernel_rfl) (by kernel_rfl) ?_
              repeat (apply FlowT.d; (intro w1 hk; unfold does; go_simp; (try go_ints); (first | exact DetR.mk | (simp only [↓IntWalk.iteOmega, Oper.doesUpon_value]; exact DetR.mk) | (simp only [↓IntWalk.iteOmega]; go_simp; (try go_ints); exact DetR.mk))); simp only [Act.put, qS0, qS1, qS2])
              refine FlowT.s (fun v' w' => TookN w3 r.G Fj r.g r.c r.s ⟨(j : Int), xkd, x0 :: l⟩ v' w') 9 rfl (by kernel_rfl) (fun _ _ _ h y => h.ext y) (fun w5 hC hk => ?_) ?_
              · unfold does
                go_simp
                refine CallR.act ((HTk w5 hC).out.mono ?_)
                rintro e w6 ⟨v', rfl, u, t, os2, F', h1, h2, h3, h4, h5, h6, h7, h8⟩
                exact ⟨v', rfl, hk.trans h8, u, t, os2, F', h1, h2, h3, h4, h5, h6, h7, hk.trans h8⟩
              rintro _ ⟨_, u, t, os2, F', rfl, _, _, _, hu, _, _, _⟩
              obtain ⟨au, cu, rfl⟩ := hu.row.form
              generalize t.out.length = no
              clear hu
              simp only [Act.put, qS0, qS1, qS2]
              repeat (apply FlowT.d; (intro w1 hk; unfold does; go_simp; (try go_ints); (first | exact DetR.mk | (simp only [↓IntWalk.iteOmega, Oper.doesUpon_value]; exact DetR.mk) | (simp only [↓IntWalk.iteOmega]; go_simp; (try go_ints); exact DetR.mk))); simp only [Act.put, qS0, qS1, qS2])
              refine FlowT.fin fun w4 hC4 hk4 => ?_
              obtain ⟨u', t', os2', F2, e1, g1, g2, g3, g4, g5, g6, g7⟩ := hC4
              obtain rfl : u' = .slice au no cu := by simp at e1; exact e1.symm
              have hno : no = t'.out.length := by
                obtain ⟨_, _, e'⟩ := g4.row.form
                simp only [Value.slice.injEq] at e'
                exact e'.2.1
              rw [HFj.out] at g5 g7
              obtain ⟨o1, o2, o3⟩ := HS.out.outs Hw.out Hk.out.1 Hx3n.out Hn3.out Ho3v.out Hr.out Hxn.out rfl Hmass.out g1 g2 g3 g5 g6 g7
              have hnb : no ≤ 120000001 := by rw [hno]; exact o2
              have HAp := hid (lawapart_any (.slice au no cu) t'.out os2' (j : Int) (k2 : Int) w4 F2 g4 o1 (by omega))
              have Hx94 : Hid (Ext w9 w4) := hid (Keep.new (Hxq.out.trans Hx3n.out) g7 fun b hb => Nat.le_of_not_lt fun h => hb (by rw [← HFj.out]; exact Hlow.out b h))
              have HG := hid (And.intro g1 (And.intro g2 (And.intro g3 (And.intro g5 (And.intro g6 g7)))))
              have Hg4 := hid g4
              have Hno := hid hno
              have Hn4 := hid o3
              have s0 := s0 w4 hk4
              clear hno e1 g1 g2 g3 g4 g5 g6 g7 o1 o2 o3 hk4 pj s1 s2 HTk
              go_wp2_with fail
              refine HAp.out.mono ?_
              intro e w5 hx
              obtain ⟨rfl, hx5⟩ := hx
              have Hx5 := hid hx5
              have Hrow5 : Hid (w5.ownsRow w9.heap.size 57 3 (.slice a3' N3 c3') N3 ((os.take 0 ++ os.drop (0 + 1)).flatMap N2.cells)) := hid (by
                have := (Hn4.out.ext hx5).row
                rwa [Hlen3.out] at this)
              have Hsr5 := hid (Hg4.out.ext hx5).src
              have Hb5 := hid (Nat.le_trans Hx94.out.size hx5.size)
              have Hnb := hid hnb
              clear HAp hx5 s0 hnb
              go_wp2_with (at_builtin; refine wpList_append_big w9.heap.size Hb5.out rfl _ _ rfl (.slice a3' N3 c3') N3 ((os.take 0 ++ os.drop (0 + 1)).flatMap N2.cells) rfl Hrow5.out au no cu (os2'.flatMap N2.cells) rfl Hsr5.out (by have := HN3b.out; have := Hnb.out; omega) ?_
                           intro v6 w6 ho6 hk6 hl6
                           obtain ⟨a6', c6', rfl⟩ := row_form ho6
                           have Ho6 := hid ho6
                           have Hk6 := hid hk6
                           have Hl6 := hid hl6
                           clear ho6 hk6 hl6)
              have hN6 : NotesO w9.heap.size w6 (.slice a6' (N3 + no) c6') ((ns.take 0 ++ ns.drop (0 + 1)) ++ t'.out) ((os.take 0 ++ os.drop (0 + 1)) ++ os2') := (Hn4.out.ext Hx5.out).more (Hg4.out.ext Hx5.out).nums Hg4.out.eq Hk6.out (by rw [Hlen3.out, ← Hno.out]; exact Ho6.out)
              obtain ⟨L6, e1, e2, e3⟩ := HS.out.next HLe.out Hw.out Hl.out Hx3n.out Hn3.out Ho3v.out Hr.out Hxn.out rfl HG.out.1 HG.out.2.1 HG.out.2.2.1 HG.out.2.2.2.1 HG.out.2.2.2.2.1 HG.out.2.2.2.2.2 Hx5.out Hk6.out hN6 Hl6.out
              have E1 := hid e1
              have E2 := hid e2
              have E3 : Hid (mass (L6.map SR.s) ((ns.take 0 ++ ns.drop (0 + 1)) ++ t'.out) < standMes P k2 S w9.heap.size (.slice (some ⟨ga, 0, none⟩) k2 ca) (.slice (some ⟨gq, 0, none⟩) nn cn) wr) := hid (by rw [← HM.out]; exact e3)
              have Hx96 : Hid (Ext w9 w6) := hid (Keep.new (Hx94.out.trans Hx5.out) Hk6.out fun b hb => (World.ownsRow.lt Hrow5.out b hb).1)
              have Hlen6 : Hid (((ns.take 0 ++ ns.drop (0 + 1)) ++ t'.out).length = N3 + no) := hid (by rw [List.length_append, Hlen3.out, Hno.out])
              clear e1 e2 e3 hN6
              have E4 := hid (standMes_le E1.out E2.out)
              go_roundw
              case rel => exact ⟨i + 1, a6', N3 + no, c6', by go_num, rfl, ⟨_, _, _, E1.out, E2.out⟩, by have := E4.out; have := E3.out; have := Hmes.out; omega, Hx96.out⟩
              case measure => exact Nat.lt_of_le_of_lt E4.out E3.out
            · have hcq2 : ((1 : Int) = (cn : Int)) = False := by simp; omega
              obtain ⟨⟨⟨xto, xkd, xl⟩, xv⟩, hx⟩ : ∃ x : N2, os[0]? = some x := ⟨_, List.getElem?_eq_getElem (by rw [Hos.out]; exact hqn)⟩
              have hxn : ns[0]? = some ⟨xto, xkd, xl⟩ := by rw [← HS.out.notes.eq, List.getElem?_map, hx]; rfl
              obtain ⟨hok, hl2⟩ := HS.out.play.nok _ (List.mem_of_getElem? hxn)
              have hnu := HS.out.notes.nums _ (List.mem_of_getElem? hx)
              obtain ⟨x0, l, hxl⟩ := nok_cons hok
              simp only at hxl
              subst hxl
              obtain ⟨j, hjk, hxj⟩ := to_nat Hk.out.1 hok
              simp only at hxj
              subst hxj
              obtain ⟨av, cv, hv⟩ := row_form hnu
              simp only at hv
              subst hv
              obtain ⟨r, hr⟩ : ∃ r, L[j]? = some r := ⟨_, List.getElem?_eq_getElem (by rw [Hl.out]; exact hjk)⟩
              have z0 := HS.out.notes.cell hx 0 _ rfl (by omega)
              have z1 := HS.out.notes.cell hx 1 _ rfl (by omega)
              have z2 := HS.out.notes.cell hx 2 _ rfl (by omega)
              obtain ⟨LL, hLL⟩ : ∃ LL, LL = x0 :: l := ⟨_, rfl⟩
              obtain ⟨NL, hNL⟩ : ∃ NL, NL = LL.length := ⟨_, rfl⟩
              rw [← hLL, ← hNL] at z2 hnu
              rw [← hLL] at hxn hok hx
              simp only [Nat.zero_mul, Nat.zero_add, Nat.add_zero] at z0 z1 z2
              obtain ⟨W1, hW1⟩ : ∃ W1, W1 = wr.alloc (.cells #[.int .i64 (j : Int), .int .u8 xkd, .slice av NL cv] 57) := ⟨_, rfl⟩
              have HW1n := hid hW1
              have Hx1 : Hid (Ext wr W1) := hid (by rw [hW1]; exact (Ext.refl _).alloc _)
              have HB1n : Hid (Blk W1 wr.heap.size #[.int .i64 (j : Int), .int .u8 xkd, .slice av NL cv] 57) := hid (by rw [hW1]; exact Blk.new _ _ _)
              have Hs1 : Hid (Src W1 (some ⟨gq, 0, none⟩) 0 3 ((os.take 0).flatMap N2.cells)) := hid (by
                have := (HS.out.notes.ext Hx1.out).src 0 0 (by rw [← Hnn.out]; omega)
                rwa [List.drop_zero, Nat.zero_mul] at this)
              have Hb1 : Hid (w9.heap.size ≤ W1.heap.size) := hid (Nat.le_trans Hxq.out.size Hx1.out.size)
              have Hqn := hid hqn
              have Hxn := hid hxn
              have Hnok := hid (And.intro hok hl2)
              have Hnu := hid hnu
              have HLL := hid hLL
              have HNL := hid hNL
              have Hr := hid hr
              have Hjk := hid hjk
              have hlim1 : 0 + 0 ≤ 1000000000 := by omega
              have hlim2 : 0 + (nn - (0 + 1)) ≤ 1000000000 := by omega
              clear hxn hok hl2 hnu hLL hNL hr hW1 hx
              go_wp2_with (first
                | (at_builtin; rw [← HW1n.out]; refine wpList_append_big w9.heap.size Hb1.out rfl _ _ rfl (.slice none 0 0) 0 [] rfl (World.ownsRow_nil _ _ _ _) (some ⟨gq, 0, none⟩) 0 _ ((os.take 0).flatMap N2.cells) rfl Hs1.out hlim1 ?_
                   intro v2 w2 ho2 hk2 hl2
                   simp only [Nat.zero_add, List.nil_append] at ho2
                   obtain ⟨a2', c2', rfl⟩ := row_form ho2
                   have Hx2 := hid (Keep.new (Ext.refl _) hk2 (fun i hi => by cases hi))
                   have Hn2 := hid (HS.out.notes.ext (Hx1.out.trans Hx2.out))
                   have Ho2 := hid ho2
                   have Hl2 : Hid (∀ b, (Value.slice a2' 0 c2').ownBlock = some b → W1.heap.size ≤ b) := hid fun b hb => (hl2 b hb).elim (fun h => by cases h) id
                   have Hs2 := hid (show Src w2 (some ⟨gq, (0 + 1) * 3, none⟩) (nn - (0 + 1)) 3 ((os.drop (0 + 1)).flatMap N2.cells) from by have := Hn2.out.src (0 + 1) (nn - (0 + 1)) (by rw [← Hnn.out]; omega); rwa [List.take_of_length_le (by rw [List.length_drop, Hos.out]; exact Nat.le_refl _)] at this)
                   have Hb2 := hid (Nat.le_trans Hb1.out Hx2.out.size)
                   clear ho2 hk2 hl2)
                | (at_builtin; refine wpList_append_big w9.heap.size Hb2.out rfl _ _ rfl (.slice a2' 0 c2') 0 ((os.take 0).flatMap N2.cells) rfl Ho2.out (some ⟨gq, (0 + 1) * 3, none⟩) (nn - (0 + 1)) _ ((os.drop (0 + 1)).flatMap N2.cells) rfl Hs2.out hlim2 ?_
                   intro v3 w3 ho3 hk3 hl3
                   obtain ⟨a3', c3', rfl⟩ := row_form ho3
                   have Hk3 := hid hk3
                   have Ho3 := hid ho3
                   have Hl3 := hid hl3
                   clear ho3 hk3 hl3))
              simp only [Nat.zero_add] at Ho3 Hl3
              generalize hN3x : nn - 1 = N3 at Ho3 Hl3 ⊢
              have hN3 : 0 + (nn - (0 + 1)) = N3 := by omega
              clear hN3x
              have hx13 := Keep.new Hx2.out Hk3.out fun b hb => Hl2.out b hb
              have Hx3n := hid (Hx1.out.trans hx13)
              have Hn3 := hid (NotesO.left HS.out.notes 0 Hx1.out Hx2.out Hk3.out Ho2.out (by rw [← Hnn.out]; exact Hqn.out) (by rw [← Hnn.out, hN3]; exact Ho3.out))
              have Hlen3 : Hid ((ns.take 0 ++ ns.drop (0 + 1)).length = N3) := hid (by rw [List.length_append, List.length_take, List.length_drop, ← Hnn.out, Nat.min_eq_left (by omega), hN3])
              have HN3b : Hid (N3 ≤ 120000000) := hid (by omega)
              have Ho3v : Hid (∀ b, (Value.slice a3' N3 c3').ownBlock = some b → wr.heap.size ≤ b) := hid fun b hb => (Hl3.out b hb).elim (fun h => Nat.le_trans Hx1.out.size (Hl2.out b h)) fun h => Nat.le_trans (Hx1.out.trans Hx2.out).size h
              have hLLx := HLL.out
              subst hLLx
              have hNLx := HNL.out
              have hmass : mass (L.map SR.s) ns ≤ 120000000 := by rw [HM.out]; have := Hmes.out; omega
              have Hmass := hid hmass
              clear hN3
              have HTk := fun w5 (y : Ext w3 w5) => hid (HS.out.takes Hx3n.out Hn3.out Ho3v.out Hr.out Hxn.out hmass (own_ext Hnu.out Hx3n.out) w5 y)
              obtain ⟨t1, t2, t3, t4, t5, t6, t7, t8, t9⟩ := HS.out.ready Hx3n.out Hn3.out Ho3v.out Hr.out
              obtain ⟨Fj, hFj⟩ : ∃ Fj, Fj = (r.grow wr.heap.size w3.heap.size).F := ⟨_, rfl⟩
              have HFj := hid hFj
              rw [← hFj] at HTk t6 t7 t9
              have Hlow := hid t6
              have Hfga := t9 ga (.inl rfl)
              have Hfwr := t7 wr.heap.size (Nat.le_refl _) (Nat.lt_of_lt_of_le HB1n.out.lt hx13.size)
              have hptr := own_ext HS.out.ptr Hx3n.out
              rw [Hl.out] at hptr
              have hpc := own_get hptr j (u := .pointer (some ⟨r.g, 0, none⟩)) (by rw [List.getElem?_map, Hr.out]; rfl)
              have pj : ∀ w1, Keep (fun b => ¬ Fj b) w3 w1 → w1.cell? ⟨ga, j, none⟩ = some (.pointer (some ⟨r.g, 0, none⟩)) := fun w1 k => k.cellx hpc (fun h => h Hfga)
              have s0 := (HB1n.out.ext hx13).kc (X := fun b => ¬ Fj b) (fun h => h Hfwr) 0 rfl
              have s1 := (HB1n.out.ext hx13).kc (X := fun b => ¬ Fj b) (fun h => h Hfwr) 1 rfl
              have s2 := (HB1n.out.ext hx13).kc (X := fun b => ¬ Fj b) (fun h => h Hfwr) 2 rfl
              simp only [qA0, qA1, qA2] at s0 s1 s2
              have HB3n := hid (HB1n.out.ext hx13)
              have Hfw := hid Hfwr
              have hjk2 := Hjk.out
              clear hx13 hmass t1 t2 t3 t4 t5 t6 t7 t8 t9 hFj hptr hpc Hfga Hfwr hNLx
              go_wp2
              refine wp_flowT (fun b => ¬ Fj b) (by kernel_rfl) (by kernel_rfl) ?_
              repeat (apply FlowT.d; (intro w1 hk; unfold does; go_simp; (try go_ints); (first | exact DetR.mk | (simp only [↓IntWalk.iteOmega, Oper.doesUpon_value]; exact DetR.mk) | (simp only [↓IntWalk.iteOmega]; go_simp; (try go_ints); exact DetR.mk))); simp only [Act.put, qS0, qS1, qS2])
              refine FlowT.s (fun v' w' => TookN w3 r.G Fj r.g r.c r.s ⟨(j : Int), xkd, x0 :: l⟩ v' w') 9 rfl (by kernel_rfl) (fun _ _ _ h y => h.ext y) (fun w5 hC hk => ?_) ?_
              · unfold does
                go_simp
                refine CallR.act ((HTk w5 hC).out.mono ?_)
                rintro e w6 ⟨v', rfl, u, t, os2, F', h1, h2, h3, h4, h5, h6, h7, h8⟩
                exact ⟨v', rfl, hk.trans h8, u, t, os2, F', h1, h2, h3, h4, h5, h6, h7, hk.trans h8⟩
              rintro _ ⟨_, u, t, os2, F', rfl, _, _, _, hu, _, _, _⟩
              obtain ⟨au, cu, rfl⟩ := hu.row.form
              generalize t.out.length = no
              clear hu
              simp only [Act.put, qS0, qS1, qS2]
              repeat (apply FlowT.d; (intro w1 hk; unfold does; go_simp; (try go_ints); (first | exact DetR.mk | (simp only [↓IntWalk.iteOmega, Oper.doesUpon_value]; exact DetR.mk) | (simp only [↓IntWalk.iteOmega]; go_simp; (try go_ints); exact DetR.mk))); simp only [Act.put, qS0, qS1, qS2])
              refine FlowT.fin fun w4 hC4 hk4 => ?_
              obtain ⟨u', t', os2', F2, e1, g1, g2, g3, g4, g5, g6, g7⟩ := hC4
              obtain rfl : u' = .slice au no cu := by simp at e1; exact e1.symm
              have hno : no = t'.out.length := by
                obtain ⟨_, _, e'⟩ := g4.row.form
                simp only [Value.slice.injEq] at e'
                exact e'.2.1
              rw [HFj.out] at g5 g7
              obtain ⟨o1, o2, o3⟩ := HS.out.outs Hw.out Hk.out.1 Hx3n.out Hn3.out Ho3v.out Hr.out Hxn.out rfl Hmass.out g1 g2 g3 g5 g6 g7
              have hnb : no ≤ 120000001 := by rw [hno]; exact o2
              have HAp := hid (lawapart_any (.slice au no cu) t'.out os2' (j : Int) (k2 : Int) w4 F2 g4 o1 (by omega))
              have Hx94 : Hid (Ext w9 w4) := hid (Keep.new (Hxq.out.trans Hx3n.out) g7 fun b hb => Nat.le_of_not_lt fun h => hb (by rw [← HFj.out]; exact Hlow.out b h))
              have HG := hid (And.intro g1 (And.intro g2 (And.intro g3 (And.intro g5 (And.intro g6 g7)))))
              have Hg4 := hid g4
              have Hno := hid hno
              have Hn4 := hid o3
              have s0 := s0 w4 hk4
              clear hno e1 g1 g2 g3 g4 g5 g6 g7 o1 o2 o3 hk4 pj s1 s2 HTk
              go_wp2_with fail
              refine HAp.out.mono ?_
              intro e w5 hx
              obtain ⟨rfl, hx5⟩ := hx
              have Hx5 := hid hx5
              have Hrow5 : Hid (w5.ownsRow w9.heap.size 57 3 (.slice a3' N3 c3') N3 ((os.take 0 ++ os.drop (0 + 1)).flatMap N2.cells)) := hid (by
                have := (Hn4.out.ext hx5).row
                rwa [Hlen3.out] at this)
              have Hsr5 := hid (Hg4.out.ext hx5).src
              have Hb5 := hid (Nat.le_trans Hx94.out.size hx5.size)
              have Hnb := hid hnb
              clear HAp hx5 s0 hnb
              go_wp2_with (at_builtin; refine wpList_append_big w9.heap.size Hb5.out rfl _ _ rfl (.slice a3' N3 c3') N3 ((os.take 0 ++ os.drop (0 + 1)).flatMap N2.cells) rfl Hrow5.out au no cu (os2'.flatMap N2.cells) rfl Hsr5.out (by have := HN3b.out; have := Hnb.out; omega) ?_
                           intro v6 w6 ho6 hk6 hl6
                           obtain ⟨a6', c6', rfl⟩ := row_form ho6
                           have Ho6 := hid ho6
                           have Hk6 := hid hk6
                           have Hl6 := hid hl6
                           clear ho6 hk6 hl6)
              have hN6 : NotesO w9.heap.size w6 (.slice a6' (N3 + no) c6') ((ns.take 0 ++ ns.drop (0 + 1)) ++ t'.out) ((os.take 0 ++ os.drop (0 + 1)) ++ os2') := (Hn4.out.ext Hx5.out).more (Hg4.out.ext Hx5.out).nums Hg4.out.eq Hk6.out (by rw [Hlen3.out, ← Hno.out]; exact Ho6.out)
              obtain ⟨L6, e1, e2, e3⟩ := HS.out.next HLe.out Hw.out Hl.out Hx3n.out Hn3.out Ho3v.out Hr.out Hxn.out rfl HG.out.1 HG.out.2.1 HG.out.2.2.1 HG.out.2.2.2.1 HG.out.2.2.2.2.1 HG.out.2.2.2.2.2 Hx5.out Hk6.out hN6 Hl6.out
              have E1 := hid e1
              have E2 := hid e2
              have E3 : Hid (mass (L6.map SR.s) ((ns.take 0 ++ ns.drop (0 + 1)) ++ t'.out) < standMes P k2 S w9.heap.size (.slice (some ⟨ga, 0, none⟩) k2 ca) (.slice (some ⟨gq, 0, none⟩) nn cn) wr) := hid (by rw [← HM.out]; exact e3)
              have Hx96 : Hid (Ext w9 w6) := hid (Keep.new (Hx94.out.trans Hx5.out) Hk6.out fun b hb => (World.ownsRow.lt Hrow5.out b hb).1)
              have Hlen6 : Hid (((ns.take 0 ++ ns.drop (0 + 1)) ++ t'.out).length = N3 + no) := hid (by rw [List.length_append, Hlen3.out, Hno.out])
              clear e1 e2 e3 hN6
              have E4 := hid (standMes_le E1.out E2.out)
              go_roundw
              case rel => exact ⟨i + 1, a6', N3 + no, c6', by go_num, rfl, ⟨_, _, _, E1.out, E2.out⟩, by have := E4.out; have := E3.out; have := Hmes.out; omega, Hx96.out⟩
              case measure => exact Nat.lt_of_le_of_lt E4.out E3.out
end Go.Proofs.YtbagppdibncfdaaGreatDoor
