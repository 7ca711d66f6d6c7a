/- FrameBits walked. -/
import Derived.Test.YtmdcjfgdmmncpaaDoorFT
import Derived.Test.YtmdcjfgdmmncpaaDoorFQ
import Derived.Test.YtmdcjfgdmmncpaaDoorFD
import Derived.Test.YtmdcjfgdmmncpaaDoorCD
namespace Go.Proofs.YtmdcjfgdmmncpaaDoor
set_option linter.unusedSimpArgs false
set_option linter.unusedVariables false
open Go Go.RowKit

set_option maxRecDepth 100000 in
set_option maxHeartbeats 400000 in
theorem offrame_any (f : Fr) (a : Option Addr) (cap : Nat) (w : World) : Calls Tryd.prog 44 #[frv f a cap] w fun e w' => e = .returned (frv f a cap) ∧ Ext w w' := by
  obtain ⟨kind, fr, to, seq, nums⟩ := f
  unfold frv
  simp only
  go_enter Tryd.func44, Tryd.ntmps44
  go_wp2
  exact bodyPost_ret (v := .agg #[.int .u8 (kind.toNat : Int), .int .i64 fr, .int .i64 to, .int .i64 seq, .slice a nums.length cap]) (by simp [results, Tryd.results44, go_sem]) rfl ⟨rfl, ((Ext.refl w).alloc _).alloc _⟩

theorem textCode_of {f : Fr} (hc : f.code = 0) (s : ByteArray) (hs : s.data.toList = f.text) : textCode s = 0 ∧ frOf s = f := by
  obtain ⟨h1, h2, h3⟩ := Fr.of_text hc s hs
  refine ⟨?_, h3⟩
  unfold textCode
  rw [h1, h2, h3, hc]
  rfl

/-- What '[]byte(s)' leaves. -/
def bytesCap (w : World) (l : List UInt8) : Nat := grownCap w (⟨l.toArray⟩ : ByteArray).size 0 5
def bytesW (w : World) (l : List UInt8) : World := w.drew.alloc (.cells (bytesRow ⟨l.toArray⟩ (bytesCap w l)) 5 ((bytesRow ⟨l.toArray⟩ (bytesCap w l)).size, (bytesRow ⟨l.toArray⟩ (bytesCap w l)).size + 1))
theorem run_bytesW (l : List UInt8) (w : World) : (convert 9 73 (.string ⟨l.toArray⟩)).run Tryd.prog w = .ok (.slice (some ⟨w.heap.size, 0, none⟩) l.length (bytesCap w l)) (bytesW w l) := by
  have := run_bytes_of_string (P := Tryd.prog) w 9 73 5 ⟨l.toArray⟩ Tryd.underlying9 Tryd.underlying73 Tryd.underlying5
  have e : (⟨l.toArray⟩ : ByteArray).size = l.length := by show l.toArray.size = _; simp
  rw [this]
  unfold bytesW bytesCap
  rw [e]
theorem bytesW_ext (l : List UInt8) (w : World) : Ext w (bytesW w l) := by
  have h : Ext w w.drew := ⟨rfl, rfl, rfl, Nat.le_refl _, fun _ _ => rfl⟩
  exact h.alloc _
theorem bytesW_size (l : List UInt8) (w : World) : (bytesW w l).heap.size = w.heap.size + 1 := by unfold bytesW; simp
theorem bytesW_cell (l : List UInt8) (w : World) (i : Nat) (hi : i < l.length) : (bytesW w l).cell? ⟨w.heap.size, i, none⟩ = some (.int .u8 (l[i].toNat : Int)) := by
  unfold bytesW
  have h1 := World.cell?_alloc_mark w.drew (bytesRow ⟨l.toArray⟩ (bytesCap w l)) 5 ((bytesRow ⟨l.toArray⟩ (bytesCap w l)).size, (bytesRow ⟨l.toArray⟩ (bytesCap w l)).size + 1) i
  have h2 := bytesRow_at ⟨l.toArray⟩ (bytesCap w l) i (by simpa using hi)
  refine (h1.trans h2).trans ?_
  simp
theorem bytesW_free (l : List UInt8) (w : World) (i : Nat) (hi : i < l.length) : (bytesW w l).frozen? ⟨w.heap.size, i, none⟩ = false := by
  unfold bytesW
  have h1 := World.frozen?_alloc_mark w.drew (bytesRow ⟨l.toArray⟩ (bytesCap w l)) 5 (bytesRow ⟨l.toArray⟩ (bytesCap w l)).size ((bytesRow ⟨l.toArray⟩ (bytesCap w l)).size + 1) i
  refine h1.trans ?_
  have h3 : l.length ≤ (bytesRow ⟨l.toArray⟩ (bytesCap w l)).size := by
    unfold bytesRow
    rw [Array.size_append, Array.size_map]
    simp
  simp
  omega
theorem bytes_back (l : List UInt8) (w : World) (i : Nat) (hi : i < l.length) (b : UInt8) (cap : Nat) :
    (convert 73 9 (.slice (some ⟨w.heap.size, 0, none⟩) l.length cap)).run Tryd.prog ((bytesW w l).setCell ⟨w.heap.size, i, none⟩ (.int .u8 (b.toNat : Int))) = .ok (.string ⟨(l.set i b).toArray⟩) ((bytesW w l).setCell ⟨w.heap.size, i, none⟩ (.int .u8 (b.toNat : Int))) := by
  have := run_convert_bytes_back (P := Tryd.prog) ((bytesW w l).setCell ⟨w.heap.size, i, none⟩ (.int .u8 (b.toNat : Int))) 73 9 5 ⟨w.heap.size, 0, none⟩ cap (l.set i b) Tryd.underlying73 Tryd.underlying5 Tryd.underlying9 (fun j hj => by
    rw [List.length_set] at hj
    rw [show (⟨w.heap.size, 0, none⟩ : Addr).add j = ⟨w.heap.size, j, none⟩ from by by_cases h0 : j = 0 <;> simp [Addr.add, h0]]
    have hc := bytesW_cell l w j hj
    by_cases hij : i = j
    · subst hij
      rw [World.cell?_setCell_same (h := hc)]
      simp
    · rw [World.cell?_setCell_other (h := by simp [hij]), hc]
      simp [List.getElem_set, hij])
  rwa [List.length_set] at this

theorem turn_bit (b : UInt8) (r : Nat) (hr : r < 8) : bits .xor .u8 (b.toNat : Int) (2 ^ r % 256) = ((UInt8.ofNat (b.toNat ^^^ 2 ^ r)).toNat : Int) ∧ UInt8.ofNat (b.toNat ^^^ 2 ^ r) ≠ b := by
  have hb := byte_lt b
  have hp : 2 ^ r < 2 ^ 8 := Nat.pow_lt_pow_right (by omega) hr
  have hx : b.toNat ^^^ 2 ^ r < 2 ^ 8 := Nat.xor_lt_two_pow (by omega) hp
  have e1 : ((2 : Int) ^ r % 256) = ((2 ^ r : Nat) : Int) := by
    rcases (by omega : r = 0 ∨ r = 1 ∨ r = 2 ∨ r = 3 ∨ r = 4 ∨ r = 5 ∨ r = 6 ∨ r = 7) with rfl | rfl | rfl | rfl | rfl | rfl | rfl | rfl <;> rfl
  refine ⟨?_, fun e => ?_⟩
  · rw [e1]
    have h1 := u8_xor_nat b.toNat (2 ^ r) (by omega) (by omega)
    rw [h1]
    simp only [UInt8.toNat_ofNat']
    omega
  · have h1 := congrArg UInt8.toNat e
    simp only [UInt8.toNat_ofNat'] at h1
    have h2 : b.toNat ^^^ 2 ^ r = b.toNat := by omega
    have h3 : b.toNat ^^^ (b.toNat ^^^ 2 ^ r) = b.toNat ^^^ b.toNat := by rw [h2]
    rw [← Nat.xor_assoc, Nat.xor_self, Nat.zero_xor] at h3
    have h4 : 0 < 2 ^ r := Nat.pow_pos (by omega)
    omega


set_option maxRecDepth 100000 in
set_option maxHeartbeats 1600000 in
theorem frameBits_no (f : Fr) (a : Option Addr) (cap : Nat) (at_ : Int) (w : World) (ad : Nat → Addr) (h : AllErrs w ad) (hl : (f.nums.length : Int) ≤ 9223372036854775807) (hn : 60 < f.nums.length ∨ at_ < 0) :
    Calls Tryd.prog 10 #[frv f a cap, .int .i64 at_] w fun e w' => e = .returned (.bool true) ∧ Ext w w' := by
  have HN := fun w1 (x : Ext w w1) => hid (framed_any w1 (evOf ad) (h.errs.ext x))
  obtain ⟨k1, f1, t1, s1, n1⟩ := f
  unfold frv
  simp only at *
  obtain ⟨W, hW⟩ : ∃ W, W = w.alloc (Obj.cells #[Value.int .u8 (k1.toNat : Int), .int .i64 f1, .int .i64 t1, .int .i64 s1, .slice a n1.length cap] 24) := ⟨_, rfl⟩
  have xW : Ext w W := by rw [hW]; exact (Ext.refl w).alloc _
  have bA : Blk W w.heap.size #[Value.int .u8 (k1.toNat : Int), .int .i64 f1, .int .i64 t1, .int .i64 s1, .slice a n1.length cap] 24 := by rw [hW]; exact Blk.new _ _ _
  have HW := hid hW
  clear hW
  have d0 := bA.ec 0 rfl
  have d1 := bA.ec 1 rfl
  have d2 := bA.ec 2 rfl
  have d3 := bA.ec 3 rfl
  have d4 := bA.ec 4 rfl
  by_cases h1 : 60 < n1.length
  · clear hn
    go_enter Tryd.func10, Tryd.ntmps10
    go_wp2_with fail
    rw [← HW.out]
    refine (HN W xW).out.mono ?_
    intro e w1 hx
    obtain ⟨rfl, hx1⟩ := hx
    clear HN
    go_wp2
    go_ret
    exact ⟨rfl, xW.trans hx1⟩
  · have h2 : at_ < 0 := by omega
    clear hn
    go_enter Tryd.func10, Tryd.ntmps10
    go_wp2_with fail
    rw [← HW.out]
    refine (HN W xW).out.mono ?_
    intro e w1 hx
    obtain ⟨rfl, hx1⟩ := hx
    clear HN
    go_wp2
    go_ret
    exact ⟨rfl, xW.trans hx1⟩

set_option maxRecDepth 100000 in
set_option maxHeartbeats 3200000 in
theorem frameBits_yes (f : Fr) (a : Option Addr) (cap : Nat) (at_ : Nat) (w : World) (ad : Nat → Addr) (h : AllErrs w ad) (hr : Ints w a f.nums.length f.nums) (h1 : f.nums.length ≤ 60) (h2 : (at_ : Int) ≤ 9223372036854775807) :
    Calls Tryd.prog 10 #[frv f a cap, .int .i64 (at_ : Int)] w fun e w' => e = .returned (.bool true) ∧ Ext w w' := by
  have HN := fun w1 (x : Ext w w1) => hid (framed_any w1 (evOf ad) (h.errs.ext x))
  obtain ⟨k1, f1, t1, s1, n1⟩ := f
  unfold frv
  simp only at *
  obtain ⟨W, hW⟩ : ∃ W, W = w.alloc (Obj.cells #[Value.int .u8 (k1.toNat : Int), .int .i64 f1, .int .i64 t1, .int .i64 s1, .slice a n1.length cap] 24) := ⟨_, rfl⟩
  have xW : Ext w W := by rw [hW]; exact (Ext.refl w).alloc _
  have bA : Blk W w.heap.size #[Value.int .u8 (k1.toNat : Int), .int .i64 f1, .int .i64 t1, .int .i64 s1, .slice a n1.length cap] 24 := by rw [hW]; exact Blk.new _ _ _
  have HW := hid hW
  clear hW
  have d0 := bA.ec 0 rfl
  have d1 := bA.ec 1 rfl
  have d2 := bA.ec 2 rfl
  have d3 := bA.ec 3 rfl
  have d4 := bA.ec 4 rfl
  have HA1 := fun w1 (x : Ext W w1) => hid (asframe_any ⟨k1, f1, t1, s1, n1⟩ a cap w1 (hr.ext (xW.trans x)) (by simp only; omega))
  have Hi1 := hid hr.hi
  have hm1 : (n1.length : Int) ≤ 9223372036854775807 := by omega
  unfold frv at HA1
  simp only at HA1
  clear hr
  by_cases hc1 : Fr.code ⟨k1, f1, t1, s1, n1⟩ = 0
  · obtain ⟨x1, hX1⟩ : ∃ x, x = Fr.text ⟨k1, f1, t1, s1, n1⟩ := ⟨_, rfl⟩
    have HX1 := hid hX1
    have hlen : x1.length = 12 + 4 * n1.length := by rw [hX1]; exact Fr.text_len _
    have Hlen := hid hlen
    have hxs : x1.length ≤ 1000 := by omega
    have hdata : (⟨x1.toArray⟩ : ByteArray).data.toList = x1 := by simp
    have htc := textCode_of hc1 ⟨x1.toArray⟩ (by rw [hdata, hX1])
    have Htc1 := hid htc.1
    have Htc2 := hid htc.2
    have hsz : (⟨x1.toArray⟩ : ByteArray).size ≤ 1000000 := by
      show x1.toArray.size ≤ _
      simp; omega
    have HD := fun w1 (x : Ext W w1) => hid (fdecode_ok ⟨x1.toArray⟩ w1 (evOf ad) hsz (h.errs.ext (xW.trans x)) Htc1.out)
    rw [Htc2.out] at HD
    unfold frv at HD
    simp only at HD
    have HE := fun w1 a1 c1 (x : Ext W w1) (hI : Ints w1 a1 n1.length n1) => hid (fencode_ok ⟨k1, f1, t1, s1, n1⟩ a1 c1 w1 (evOf ad) hI hm1 (h.errs.ext (xW.trans x)) hc1)
    have HT := fun w1 a1 c1 (hI : Ints w1 a1 n1.length n1) => hid (reftext_any ⟨k1, f1, t1, s1, n1⟩ a1 c1 w1 hI hc1)
    have HO := fun w1 a1 c1 => hid (offrame_any ⟨k1, f1, t1, s1, n1⟩ a1 c1 w1)
    rw [← HX1.out] at HE HT
    unfold frv at HE HT HO
    simp only at HE HT HO
    clear hX1 hlen hdata htc hsz
    have hx8 : (x1.toArray.size : Int) = x1.length := by simp
    go_enter Tryd.func10, Tryd.ntmps10
    go_wp2_with fail
    rw [← HW.out]
    refine (HN W xW).out.mono ?_
    intro e w1 hx
    obtain ⟨rfl, hx1⟩ := hx
    clear HN
    go_wp2_with fail
    refine (HA1 _ hx1).out.mono ?_
    rintro e u1 ⟨a1, c1, rfl, hI1, hy1⟩
    replace hy1 := hx1.trans hy1
    go_wp2_with fail
    refine (HE _ a1 c1 hy1 (hI1.ints Hi1.out)).out.mono ?_
    intro e v1 hx
    obtain ⟨rfl, hq1⟩ := hx
    replace hq1 := hy1.trans hq1
    clear HE hI1 HA1
    go_wp2_with fail
    refine (HD _ hq1).out.mono ?_
    rintro e v2 ⟨a2, c2, rfl, hI2, hq2⟩
    replace hq2 := hq1.trans hq2
    have bD := fun w1 (x : Ext (v2.alloc (.cells #[Value.int .u8 (k1.toNat : Int), .int .i64 f1, .int .i64 t1, .int .i64 s1, .slice a2 n1.length c2] 30)) w1) => hid (hI2.ext (((Ext.refl v2).alloc _).trans x))
    go_wp2_with fail
    refine (HO _ a2 c2).out.mono ?_
    intro e v3 hx
    obtain ⟨rfl, hq3⟩ := hx
    go_wp2_with fail
    refine (HT _ a2 c2 (bD _ hq3).out).out.mono ?_
    intro e v4 hx
    obtain ⟨rfl, hq4⟩ := hx
    replace hq4 := (hq2.alloc _).trans (hq3.trans hq4)
    clear hq3 bD hI2 HO HT HD
    by_cases hat : 8 * x1.length ≤ at_
    · go_wp2
      go_ret
      exact ⟨rfl, xW.trans hq4⟩
    · obtain ⟨q, hq⟩ : ∃ q, q = at_ / 8 := ⟨_, rfl⟩
      obtain ⟨r, hr⟩ : ∃ r, r = at_ % 8 := ⟨_, rfl⟩
      have hql : q < x1.length := by omega
      have hq8 : (at_ : Int) / 8 = (q : Int) := by omega
      have hr8 : (at_ : Int) % 8 = (r : Int) := by omega
      have hr7 : r < 8 := by omega
      have hcvb := run_bytesW x1
      have hcell := bytesW_cell x1 v4 q hql
      have hfree := bytesW_free x1 v4 q hql
      have hbz := byte_lt (x1[q]'hql)
      have hEb := (hq4.trans (bytesW_ext x1 v4))
      obtain ⟨bq, hbq⟩ : ∃ bq, bq = x1[q]'hql := ⟨_, rfl⟩
      rw [← hbq] at hcell hbz
      have Hbq := hid hbq
      obtain ⟨hbx, hbne⟩ := turn_bit bq r hr7
      obtain ⟨bn, hbn⟩ : ∃ bn, bn = UInt8.ofNat (bq.toNat ^^^ 2 ^ r) := ⟨_, rfl⟩
      rw [← hbn] at hbx hbne
      have hback := bytes_back x1 v4 q hql bn (bytesCap v4 x1)
      have hEs : Ext W ((bytesW v4 x1).setCell ⟨v4.heap.size, q, none⟩ (.int .u8 (bn.toNat : Int))) := by
        have hk := Keep.set (X := fun n => n = v4.heap.size) (Keep.refl _ (bytesW v4 x1)) (p := ⟨v4.heap.size, q, none⟩) rfl (.int .u8 (bn.toNat : Int))
        exact hq4.trans (Keep.new (bytesW_ext x1 v4) hk fun n hn => by omega)
      obtain ⟨x2, hx2⟩ : ∃ x2, x2 = x1.set q bn := ⟨_, rfl⟩
      rw [← hx2] at hback
      have hflip : textCode ⟨x2.toArray⟩ = 1 ∨ textCode ⟨x2.toArray⟩ = 11 := by
        have hl2 : q < (Fr.text ⟨k1, f1, t1, s1, n1⟩).length := by rw [← HX1.out]; exact hql
        refine textCode_flip (f := ⟨k1, f1, t1, s1, n1⟩) _ q bn hl2 (by simp [hx2, ← HX1.out]) fun e => hbne ?_
        rw [e, Hbq.out]
        congr 1
        exact HX1.out.symm
      have hsz2 : (⟨x2.toArray⟩ : ByteArray).size ≤ 1000000 := by
        show x2.toArray.size ≤ _
        rw [hx2]; simp; omega
      have hcne : textCode ⟨x2.toArray⟩ ≠ 0 := by omega
      have HD2 := hid (fdecode_bad ⟨x2.toArray⟩ _ (evOf ad) hsz2 (h.errs.ext (xW.trans hEs)) (evOf_iface ad) hcne)
      have HC := fun w1 (x : Ext W w1) k => hid (coded3_any w1 ad (h.ext (xW.trans x)) (textCode ⟨x2.toArray⟩) (by omega) k)
      unfold errv at HC
      rw [if_neg hcne] at HC
      unfold fr0 at HD2
      clear hq hr hbq hbn hx2 hbne hcne hsz2 hEb
      unfold evOf at HC HD2
      generalize ad (textCode ⟨x2.toArray⟩) = adx at *
      go_wp2_with fail
      refine HD2.out.mono ?_
      intro e v5 hx
      obtain ⟨rfl, hq5⟩ := hx
      replace hq5 := hEs.trans hq5
      clear HD2 hback hcvb hcell hfree hbx
      have c4 := (Blk.new v5 frz 30).ec 4 rfl
      have c0 := (Blk.new v5 frz 30).ec 0 rfl
      unfold frz at c4 c0
      rcases hflip with h11 | h11
      · rw [h11] at HC
        have HC1 := fun w1 x => (HC w1 x 11)
        have HC2 := fun w1 x => (HC w1 x 1)
        rw [show decide (((1 : Nat) : Int) = 11) = false by decide] at HC1
        rw [show decide (((1 : Nat) : Int) = 1) = true by decide] at HC2
        clear HC h11
        go_wp2_with fail
        refine (HC1 _ (hq5.alloc _)).out.mono ?_
        intro e v6 hx
        obtain ⟨rfl, hq6⟩ := hx
        go_wp2_with fail
        refine (HC2 _ ((hq5.alloc _).trans hq6)).out.mono ?_
        intro e v7 hx
        obtain ⟨rfl, hq7⟩ := hx
        replace hq7 := hq6.trans hq7
        have hfin := xW.trans ((hq5.alloc _).trans hq7)
        clear HC1 HC2
        go_wp2
        go_ret
        exact ⟨rfl, hfin⟩
      · rw [h11] at HC
        have HC1 := fun w1 x => (HC w1 x 11)
        rw [show decide (((11 : Nat) : Int) = 11) = true by decide] at HC1
        clear HC h11
        go_wp2_with fail
        refine (HC1 _ (hq5.alloc _)).out.mono ?_
        intro e v6 hx
        obtain ⟨rfl, hq6⟩ := hx
        have hfin := xW.trans ((hq5.alloc _).trans hq6)
        clear HC1
        go_wp2
        go_ret
        exact ⟨rfl, hfin⟩
  · go_enter Tryd.func10, Tryd.ntmps10
    go_wp2_with fail
    rw [← HW.out]
    refine (HN W xW).out.mono ?_
    intro e w1 hx
    obtain ⟨rfl, hx1⟩ := hx
    clear HN
    go_wp2_with fail
    refine (HA1 _ hx1).out.mono ?_
    rintro e u1 ⟨a1, c1, rfl, hI1, hy1⟩
    replace hy1 := hx1.trans hy1
    have hE1 := hid (fencode_bad' ⟨k1, f1, t1, s1, n1⟩ a1 c1 u1 (evOf ad) (hI1.ints Hi1.out) hm1 (h.errs.ext (xW.trans hy1)) hc1 (evOf_iface ad))
    unfold frv at hE1
    simp only at hE1
    go_wp2_with fail
    refine hE1.out.mono ?_
    rintro e v1 ⟨et, ee, rfl, hq1⟩
    replace hq1 := hy1.trans hq1
    clear hE1 hI1 HA1
    go_wp2
    go_ret
    exact ⟨rfl, xW.trans hq1⟩

/-- The walk: whatever the frame, whatever the place. -/
theorem frameBits_any (f : Fr) (a : Option Addr) (cap : Nat) (at_ : Int) (w : World) (ad : Nat → Addr) (h : AllErrs w ad) (hr : Ints w a f.nums.length f.nums) (hl : (f.nums.length : Int) ≤ 9223372036854775807) (h2 : at_ ≤ 9223372036854775807) :
    Calls Tryd.prog 10 #[frv f a cap, .int .i64 at_] w fun e w' => e = .returned (.bool true) ∧ Ext w w' := by
  by_cases hn : 60 < f.nums.length ∨ at_ < 0
  · exact frameBits_no f a cap at_ w ad h hl hn
  · obtain ⟨k, rfl⟩ := Int.eq_ofNat_of_zero_le (show 0 ≤ at_ by omega)
    exact frameBits_yes f a cap k w ad h hr (by omega) h2
end Go.Proofs.YtmdcjfgdmmncpaaDoor
