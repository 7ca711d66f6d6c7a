/- Texts of one proof, put together: KC. -/
import Derived.Test.YtkabgmohgjljkaaDoorMA14
import Derived.Test.YtkabgmohgjljkaaDoorMA17

/- LinkActs: the law walked. -/
namespace Go.Proofs.YtkabgmohgjljkaaDoor
set_option linter.unusedSimpArgs false
set_option linter.unusedVariables false
open Go Go.RowKit

theorem ErrsC.of_all {w : World} {ad : Nat → Addr} (h : AllErrs w ad) : ErrsC w (evOf ad) := ⟨h.at2, h.at3, h.at4, h.at8⟩
theorem longA_len {l : List AV} (h : longA l = false) : l.length ≤ 80 := by
  unfold longA at h
  simp only [Bool.or_eq_false_iff, decide_eq_false_iff_not] at h
  omega
theorem longA_at {l : List AV} (h : longA l = false) {x : AV} (hx : x ∈ l) : x.nums.length ≤ 201 ∧ x.f.f.nums.length ≤ 20 := by
  unfold longA at h
  simp only [Bool.or_eq_false_iff] at h
  have h2 := List.any_eq_false.1 h.2 x hx
  unfold AV.long at h2
  simp at h2
  omega

theorem Kp.keepX {n0 : Nat} {S : List TypeId} {w w' : World} (h : Kp n0 S false w w') {nb : Nat} {c : Array Value} {ty : TypeId} (hb : Blk w nb c ty) (hs : ty ∉ S) : Keep (fun g => n0 ≤ g ∧ g ≠ nb) w w' := by
  obtain ⟨X, k, hw, t⟩ := h.ex
  refine k.mono fun g hg hx => ⟨(hw g hx hg).1, fun e => ?_⟩
  subst e
  rcases t g hx with ⟨c', ty', h1, h2⟩ | ⟨h0, _⟩
  · exact hs ((hb.inj h1).2 ▸ h2)
  · cases h0
theorem LAct.by {w0 : World} {p q b mp oq : Nat} {s s2 : Snd} {r r2 : Rcv} {sv : Value} {sents : List FV} {w w' : World} (h : LAct w0 p q b mp oq s s2 r r2 sv sents w) (K : Kp w0.heap.size [48] false w w') : LAct w0 p q b mp oq s s2 r r2 sv sents w' :=
  ⟨K.ext0 h.ext, K.snd h.snd (by decide) (by decide), K.rcv h.rcv (by decide), K.rs h.rs (by decide) (by decide), K.rr h.rr (by decide) (by decide), K.frow h.sent (by decide)⟩
theorem Kp.frame5 {n0 b : Nat} {c : Array Value} {w : World} (hb : Blk w b c 48) (hl : n0 ≤ b) (b0 b1 b2 b3 b4 : Value) : Kp n0 [48] false w (((((w.setCell ⟨b, 0, none⟩ b0).setCell ⟨b, 1, none⟩ b1).setCell ⟨b, 2, none⟩ b2).setCell ⟨b, 3, none⟩ b3).setCell ⟨b, 4, none⟩ b4) :=
  ⟨⟨_, store5_keep _ _ _ _ _ _ _, Wr.blk hb (by decide) hl, fun g hg => .inl ⟨_, _, hg ▸ hb, by simp⟩⟩⟩
/-- What a send leaves: what came of it, the block that waits for the frame, the act's own block. -/
structure SentL (w0 : World) (p q b mp oq : Nat) (s s2 : Snd) (r : Rcv) (sv : Value) (sents : List FV) (nb : Nat) (ac : Array Value) (an : Option Addr) (cn : Nat) (nums : List Int) (vv : Value) (m : Nat) (w : World) : Prop where
  l : LAct w0 p q b mp oq s s2 r r sv sents w
  i : IRow m w vv nums
  a : Blk w nb ac 47
  n : NumsAt w w0.heap.size none (.slice an nums.length cn) nums
theorem SentL.ext {w0 : World} {p q b mp oq : Nat} {s s2 : Snd} {r : Rcv} {sv : Value} {sents : List FV} {nb : Nat} {ac : Array Value} {an : Option Addr} {cn : Nat} {nums : List Int} {vv : Value} {m : Nat} {w w' : World} (h : SentL w0 p q b mp oq s s2 r sv sents nb ac an cn nums vv m w) (x : Ext w w') : SentL w0 p q b mp oq s s2 r sv sents nb ac an cn nums vv m w' :=
  ⟨h.l.on x, h.i.ext x, h.a.ext x, NumsAt.ext h.n x⟩
theorem SentL.by {w0 : World} {p q b mp oq : Nat} {s s2 : Snd} {r : Rcv} {sv : Value} {sents : List FV} {nb : Nat} {ac : Array Value} {an : Option Addr} {cn : Nat} {nums : List Int} {vv : Value} {m : Nat} {w w' : World} (h : SentL w0 p q b mp oq s s2 r sv sents nb ac an cn nums vv m w) (K : Kp w0.heap.size [48] false w w') : SentL w0 p q b mp oq s s2 r sv sents nb ac an cn nums vv m w' :=
  ⟨h.l.by K, K.row (show w.ownsRow m 3 1 vv nums.length (icells nums) from h.i) (by decide), K.blk h.a (by decide), K.nums h.n⟩

/-- A new block that waits for a frame. -/
def AtNew (m : Nat) (u : Value) (w : World) : Prop := ∃ b0, u = .pointer (some ⟨b0, 0, none⟩) ∧ Blk w b0 frz 48 ∧ m ≤ b0
theorem AtNew.ext {m : Nat} {u : Value} {w w' : World} (h : AtNew m u w) (x : Ext w w') : AtNew m u w' := by
  obtain ⟨b0, e1, e2, e3⟩ := h
  exact ⟨b0, e1, e2.ext x, e3⟩
theorem AtNew.mk {m : Nat} {w : World} (h : m ≤ w.heap.size) : AtNew m (.pointer (some ⟨w.heap.size, 0, none⟩)) (w.alloc (.cells #[.int .u8 0, .int .i64 0, .int .i64 0, .int .i64 0, .slice none 0 0] 48)) := ⟨_, rfl, Blk.new _ _ _, h⟩
theorem AtNew.kp {m n0 : Nat} {S : List TypeId} {M : Bool} {u : Value} {w w' : World} (h : AtNew m u w) (K : Kp n0 S M w w') (hs : 48 ∉ S) : AtNew m u w' := by
  obtain ⟨b0, e1, e2, e3⟩ := h
  exact ⟨b0, e1, K.blk e2 hs, e3⟩
/-- New numbers. -/
def AtInts (m : Nat) (l : List Int) (v : Value) (w : World) : Prop := ∃ av cv, v = .slice av l.length cv ∧ IRow m w v l
theorem AtInts.ext {m : Nat} {l : List Int} {v : Value} {w w' : World} (h : AtInts m l v w) (x : Ext w w') : AtInts m l v w' := by
  obtain ⟨a, c, e1, e2⟩ := h
  exact ⟨a, c, e1, e2.ext x⟩
theorem AtInts.mk {m : Nat} {l : List Int} {v : Value} {w w' : World} (h : IRow w.heap.size w' v l) (hm : m ≤ w.heap.size) : AtInts m l v w' := by
  obtain ⟨a, c, e⟩ := h.form
  exact ⟨a, c, e, h.base hm⟩
/-- A known answer, and only new blocks. -/
def AtVal (v0 : Value) (W t : World) (v : Value) : Prop := v = v0 ∧ Ext W t
theorem AtVal.ext {v0 v : Value} {W w w' : World} (h : AtVal v0 W w v) (x : Ext w w') : AtVal v0 W w' v := ⟨h.1, h.2.trans x⟩
/-- The frame that was made, and what then is. -/
def AtSent (w0 : World) (p q b mp oq : Nat) (s s2 : Snd) (r : Rcv) (sv : Value) (sents : List FV) (nb : Nat) (ac : Array Value) (an : Option Addr) (cn : Nat) (f : Fr) (m : Nat) (w : World) (t : Value) : Prop := ∃ vv, t = .tuple #[(FV.mk f vv).val, .nilIface] ∧ SentL w0 p q b mp oq s s2 r sv sents nb ac an cn f.nums vv m w
theorem AtSent.ext {w0 : World} {p q b mp oq : Nat} {s s2 : Snd} {r : Rcv} {sv : Value} {sents : List FV} {nb : Nat} {ac : Array Value} {an : Option Addr} {cn : Nat} {f : Fr} {m : Nat} {w w' : World} {t : Value} (h : AtSent w0 p q b mp oq s s2 r sv sents nb ac an cn f m w t) (x : Ext w w') : AtSent w0 p q b mp oq s s2 r sv sents nb ac an cn f m w' t := by
  obtain ⟨vv, e1, e2⟩ := h
  exact ⟨vv, e1, e2.ext x⟩
theorem waits_ext (w : World) (n0 : Nat) (t : Option Nat) (p : Nat) (s : Snd) (lv : Value) (ks : List (FV × Int)) (h : SndAt w n0 t p s lv ks) : Calls Tryd.prog 25 #[.pointer (some ⟨p, 0, none⟩)] w fun e w' => e = .returned (.int .i64 (s.l.length : Int)) ∧ Ext w w' :=
  (waits_any w n0 t p s lv ks h).mono fun e w' ⟨h1, h2⟩ => ⟨h1, h2 ▸ Ext.refl w⟩
theorem due_ext (w : World) (n0 : Nat) (t : Option Nat) (q b : Nat) (r : Rcv) (ms : List FV) (h : RcvAt w n0 t q b r ms) : Calls Tryd.prog 26 #[.pointer (some ⟨q, 0, none⟩)] w fun e w' => e = .returned (.int .i64 r.due) ∧ Ext w w' :=
  (due_any w n0 t q b r ms h).mono fun e w' ⟨h1, h2⟩ => ⟨h1, h2 ▸ Ext.refl w⟩
theorem Rcv.run_len : ∀ (n : Nat) (r : Rcv) (out : List Fr), (Rcv.run n r out).1.length ≤ out.length + n
  | 0, r, out => by simp [Rcv.run]
  | n + 1, r, out => by
    unfold Rcv.run
    cases hf : Rcv.find r.wait r.due with
    | none => simp only; omega
    | some k =>
      have h := Rcv.run_len n { r with due := r.due + 1, wait := r.wait.eraseIdx k } (out ++ (r.wait[k]?).toList)
      have h2 : (r.wait[k]?).toList.length ≤ 1 := by cases r.wait[k]? <;> simp
      simp only [List.length_append] at h ⊢
      omega
theorem Rcv.take_len (r : Rcv) (f : Fr) : (r.take f).1.length ≤ r.wait.length + 2 := by
  unfold Rcv.take
  split
  · unfold Rcv.took
    split
    · simp
    · split
      · simp
      · have := Rcv.run_len (r.wait.length + 1) { r with due := r.due + 1 } [f]
        simp only [List.length_singleton] at this
        omega
  · simp
theorem again_len (s : Snd) : s.again.length ≤ s.l.length := by
  unfold Snd.again
  rw [List.length_map]
  exact List.length_filter_le _ _


set_option maxRecDepth 100000 in
set_option maxHeartbeats 40000000 in
theorem linkacts_yes (fr to : Int) (a : Option Addr) (cap : Nat) (l : List AV) (w : World) (ad : Nat → Addr) (hE : AllErrs w ad) (h : ActsAt w w.heap.size a l) (hml : (l.length : Int) ≤ 9223372036854775807) (hlo : longA l = false) (hen : endsCode fr to = 0) :
    Calls Tryd.prog 3 #[.int .i64 fr, .int .i64 to, .slice a l.length cap] w fun e w' => e = .returned (.bool true) ∧ Ext w w' := by
  have HN := hid (linked_any w (evOf ad) (ErrsC.of_all hE) (evOf_iface ad))
  have HE := hid hE
  have HA := hid h
  have HLo := hid hlo
  have hl80 := longA_len hlo
  clear hE h hlo
  go_enter Tryd.func3, Tryd.ntmps3
  go_wp2_with fail
  refine HN.out.mono ?_
  intro e w1 hx
  obtain ⟨rfl, hx1⟩ := hx
  clear HN
  have HG := hid (longacts_any a cap l w1 w.heap.size (HA.out.ext hx1) hml)
  rw [HLo.out] at HG
  have HS := hid (newS_ok fr to w1 (evOf ad) ((ErrsC.of_all HE.out).ext hx1) w.heap.size none hx1.size hen)
  have Hx1 := hid hx1
  clear hx1
  go_wp2_with fail
  refine HG.out.mono ?_
  intro e w2 hx
  obtain ⟨rfl, rfl⟩ := hx
  clear HG
  go_wp2_with fail
  refine HS.out.mono ?_
  intro e w2 hx
  obtain ⟨rfl, hS, hx2⟩ := hx
  have HS2 := hid hS
  have Hx2 := hid (Hx1.out.trans hx2)
  obtain ⟨p, hp⟩ : ∃ p, p = w1.heap.size := ⟨_, rfl⟩
  rw [← hp] at HS2 ⊢
  clear HS hS hx2 Hx1 hp
  have HR := hid (newR_ok fr to w2 (evOf ad) ((ErrsC.of_all HE.out).ext Hx2.out) w.heap.size none Hx2.out.size hen)
  go_wp2_with fail
  refine HR.out.mono ?_
  intro e w3 hx
  obtain ⟨q, b, rfl, hR, hx3, _, _⟩ := hx
  have HR3 := hid hR
  have HS3 := hid (HS2.out.ext hx3)
  have Hx3 := hid (Hx2.out.trans hx3)
  clear HR hR hx3 HS2 Hx2
  have HEn := hid (refends_any fr to w3)
  rw [hen] at HEn
  go_wp2_with fail
  refine HEn.out.mono ?_
  intro e w4 hx
  obtain ⟨rfl, rfl⟩ := hx
  clear HEn hen
  have HL0 : Hid (LAct w p q b w3.heap.size (w3.heap.size + 1) (Snd.new fr to) (Snd.new fr to) (Rcv.new fr to) (Rcv.new fr to) (.slice none 0 0) [] ((w3.alloc (.cells #[.int .i64 fr, .int .i64 to, .int .i64 0, .int .i64 0, .slice none 0 0] 38)).alloc (.cells #[.int .i64 fr, .int .i64 to, .int .i64 0, .slice none 0 0] 42))) := hid (by
    have xa : Ext w3 (w3.alloc (.cells #[.int .i64 fr, .int .i64 to, .int .i64 0, .int .i64 0, .slice none 0 0] 38)) := (Ext.refl _).alloc _
    have xb : Ext (w3.alloc (.cells #[.int .i64 fr, .int .i64 to, .int .i64 0, .int .i64 0, .slice none 0 0] 38)) ((w3.alloc (.cells #[.int .i64 fr, .int .i64 to, .int .i64 0, .int .i64 0, .slice none 0 0] 38)).alloc (.cells #[.int .i64 fr, .int .i64 to, .int .i64 0, .slice none 0 0] 42)) := (Ext.refl _).alloc _
    have hb := Blk.new (w3.alloc (.cells #[.int .i64 fr, .int .i64 to, .int .i64 0, .int .i64 0, .slice none 0 0] 38)) #[.int .i64 fr, .int .i64 to, .int .i64 0, .slice none 0 0] 42
    rw [heap_size_alloc] at hb
    have h3 := Hx3.out.size
    exact ⟨Hx3.out.trans (xa.trans xb), ⟨_, _, HS3.out.ext (xa.trans xb)⟩, ⟨_, HR3.out.ext (xa.trans xb)⟩, ⟨_, [], (Blk.new w3 _ _).ext xb, World.ownsRow_nil _ _ _ _, fun _ h => (by cases h), rfl, h3⟩, ⟨_, [], ⟨hb, FRow.nil _ _ _ _ _, rfl, by omega⟩, fun k h => (by cases h)⟩, FRow.nil _ _ _ _ _⟩)
  go_wp2
  generalize ((w3.alloc (.cells #[.int .i64 fr, .int .i64 to, .int .i64 0, .int .i64 0, .slice none 0 0] 38)).alloc (.cells #[.int .i64 fr, .int .i64 to, .int .i64 0, .slice none 0 0] 42)) = W5 at *
  generalize w3.heap.size = mp at *
  clear HR3 HS3 Hx3
  go_loopw [15, 16] (fun t15 t16 wr => ∃ (i : Nat) (s : Snd) (r : Rcv) (sents : List FV), t16 = .int .i64 (i : Int) ∧ i ≤ l.length ∧ LAct w p q b mp (mp + 1) s s r r t15 sents wr ∧ s.Okk i ∧ r.Okk i ∧ sents.length ≤ i ∧ ∀ x ∈ sents, x.f.code = 0) (fun _ t16 _ => l.length - (intOf t16).toNat)
  case atStart => exact ⟨0, _, _, [], rfl, Nat.zero_le _, HL0.out, Snd.Okk.new _ _, Rcv.Okk.new _ _, Nat.le_refl _, fun _ h => by cases h⟩
  case round =>
    clear HL0
    obtain ⟨i, s, r, sents, rfl, hi, hL, hs, hr, hsl, hsc⟩ := hrel
    have Hs := hid hs
    have Hr := hid hr
    have Hsc := hid hsc
    have HL := hid hL
    obtain ⟨ao, co, rfl⟩ := hL.sent.form
    clear hL hs hr hsc
    by_cases hlt : i < l.length
    · have hxk : l[i]? = some (l[i]'hlt) := List.getElem?_eq_getElem hlt
      obtain ⟨x, hxd⟩ : ∃ x, x = l[i]'hlt := ⟨_, rfl⟩
      rw [← hxd] at hxk
      have hxm := List.mem_of_getElem? hxk
      have hAr := HA.out.ext HL.out.ext
      obtain ⟨y, rfl⟩ := HA.out.sm (by omega)
      obtain ⟨an, cn, hnv, _⟩ := NumsAt.form (hAr.nums x hxm)
      obtain ⟨af, cf, _, hfv, _⟩ := FV.At.form (hAr.fr x hxm)
      have hxl := longA_at HLo.out hxm
      have Hn := hid (hAr.nums x hxm)
      have Hf := hid (hAr.fr x hxm)
      have c0 := hAr.cl y rfl i x hxk 0 _ rfl
      have c1 := hAr.cl y rfl i x hxk 1 _ rfl
      have c2 := hAr.cl y rfl i x hxk 2 _ rfl
      have c3 := hAr.cl y rfl i x hxk 3 _ rfl
      have c4 := hAr.cl y rfl i x hxk 4 _ rfl
      have c5 := hAr.cl y rfl i x hxk 5 _ rfl
      have c6 := hAr.cl y rfl i x hxk 6 _ rfl
      have c7 := hAr.cl y rfl i x hxk 7 _ rfl
      have c8 := hAr.cl y rfl i x hxk 8 _ rfl
      have c9 := hAr.cl y rfl i x hxk 9 _ rfl
      rw [show (y.add (i * 10)).add 0 = y.add (i * 10) from by simp [Addr.add]] at c0
      rw [add_pos _ _ (by decide)] at c1 c2 c3 c4 c5 c6 c7 c8 c9
      rw [hnv] at c2
      rw [hfv] at c8
      have Hnv := hid hnv
      have Hfv := hid hfv
      clear hnv hfv hxd hxk hxm hAr
      obtain ⟨W1, hW1⟩ : ∃ W1, W1 = wr.alloc (.cells #[.string x.what, .int .u8 (x.kind.toNat : Int), .slice an x.nums.length cn, .int .i64 x.n, .int .u8 (x.f.f.kind.toNat : Int), .int .i64 x.f.f.fr, .int .i64 x.f.f.to, .int .i64 x.f.f.seq, .slice af x.f.f.nums.length cf, .bool x.own] 47) := ⟨_, rfl⟩
      have hx1 : Ext wr W1 := by rw [hW1]; exact (Ext.refl wr).alloc _
      have HB1 : Hid (Blk W1 wr.heap.size #[.string x.what, .int .u8 (x.kind.toNat : Int), .slice an x.nums.length cn, .int .i64 x.n, .int .u8 (x.f.f.kind.toNat : Int), .int .i64 x.f.f.fr, .int .i64 x.f.f.to, .int .i64 x.f.f.seq, .slice af x.f.f.nums.length cf, .bool x.own] 47) := hid (by rw [hW1]; exact Blk.new _ _ _)
      have HL1 := hid (HL.out.on hx1)
      have Hx1 := hid hx1
      have HW1 := hid hW1
      have Hn1 := hid (NumsAt.ext Hn.out hx1)
      have Hf1 := hid (NumsAt.ext Hf.out hx1)
      rw [Hnv.out] at Hn1
      rw [Hfv.out] at Hf1
      clear hx1 hW1 HA Hn Hf
      cases hw1 : (x.what.toList == [115, 101, 110, 100]) with
      | true =>
        by_cases her : s.err x.kind x.nums = 0
        · as_aux_lemma =>
            have Her := hid her
            clear her
            have HSB : ∀ wa, Ext W1 wa → ∀ av cv, IRow W1.heap.size wa (.slice av x.nums.length cv) x.nums → Hid (Calls Tryd.prog 11 #[.pointer (some ⟨p, 0, none⟩), .int .u8 (x.kind.toNat : Int), .slice av x.nums.length cv] wa fun e wb => ∃ v, e = .returned v ∧ Keep (fun g => w.heap.size ≤ g ∧ g ≠ wr.heap.size) wa wb ∧ AtSent w p q b mp (mp + 1) (s.sent x.kind x.nums) s r (.slice ao sents.length co) sents wr.heap.size #[.string x.what, .int .u8 (x.kind.toNat : Int), .slice an x.nums.length cn, .int .i64 x.n, .int .u8 (x.f.f.kind.toNat : Int), .int .i64 x.f.f.fr, .int .i64 x.f.f.to, .int .i64 x.f.f.seq, .slice af x.f.f.nums.length cf, .bool x.own] an cn (s.frame x.kind x.nums) W1.heap.size wb v ∧ ∀ m u, AtNew m u wa → AtNew m u wb) := fun wa xa av cv hI => hid
              (((HL1.out.on xa).send x.kind x.nums av cv (IRow.ints hI Hn1.out.hi) (by omega) (evOf ad) (ErrsC.of_all HE.out) Her.out i Hs.out.ok (by omega)).mono fun e wb ⟨v, h1, h2, h3, h4⟩ => ⟨_, h1, h4.keepX (HB1.out.ext xa) (by decide), ⟨v, rfl, h2, IRow.base h3 xa.size, h4.blk (HB1.out.ext xa) (by decide), h4.nums (NumsAt.ext Hn1.out xa)⟩, fun _ _ h => h.kp h4 (by decide)⟩)
            go_wp2
            rw [← HW1.out]
            have hNX : ¬ (w.heap.size ≤ wr.heap.size ∧ wr.heap.size ≠ wr.heap.size) := fun e => e.2 rfl
            have q1 := HB1.out.kc (X := fun g => w.heap.size ≤ g ∧ g ≠ wr.heap.size) hNX 1 rfl
            have q2 := HB1.out.kc (X := fun g => w.heap.size ≤ g ∧ g ≠ wr.heap.size) hNX 2 rfl
            simp only [List.getElem_toArray, List.getElem_cons_zero, List.getElem_cons_succ] at q1 q2
            have Hs1 : Hid (w.heap.size ≤ W1.heap.size ∧ wr.heap.size < W1.heap.size) := hid ⟨HL1.out.ext.size, HB1.out.lt⟩
            have HO : ∀ wa, Ext W1 wa → Hid (Calls Tryd.prog 12 #[.slice an x.nums.length cn] wa fun e w' => ∃ v, e = .returned v ∧ Ext wa w' ∧ IRow wa.heap.size w' v x.nums) := fun wa xa => hid (ownints_any an x.nums.length cn x.nums wa (Hn1.out.ints'.ext xa) (by omega))
            have HAl : Hid (∀ wa b0, W1.heap.size ≤ b0 → Keep (fun g => w.heap.size ≤ g ∧ g ≠ wr.heap.size) W1 wa → ∀ v0 v1 v2 v3 v4, Keep (fun g => w.heap.size ≤ g ∧ g ≠ wr.heap.size) W1 (((((wa.setCell ⟨b0, 0, none⟩ v0).setCell ⟨b0, 1, none⟩ v1).setCell ⟨b0, 2, none⟩ v2).setCell ⟨b0, 3, none⟩ v3).setCell ⟨b0, 4, none⟩ v4)) := hid fun wa b0 hb k v0 v1 v2 v3 v4 => k.trans ((store5_keep _ _ _ _ _ _ _).mono fun g _ e => by subst e; have := Hs1.out; exact ⟨by omega, by omega⟩)
            clear hNX
            refine wp_flow (fun g => w.heap.size ≤ g ∧ g ≠ wr.heap.size) (by kernel_rfl) (by kernel_rfl) ?_
            apply Flow.d 0 _ rfl (by simp) (by kernel_rfl)
            · intro w1 hk; unfold does; go_simp; (try go_ints); exact DetR.mk
            simp only [List.getElem_toArray, List.getElem_cons_zero, List.getElem_cons_succ, Act.put, List.setIfInBounds_toArray, List.set_cons_zero, List.set_cons_succ]
            apply Flow.d 1 _ rfl (by simp) (by kernel_rfl)
            · intro w1 hk; unfold does; go_simp; (try go_ints); exact DetR.mk
            simp only [List.getElem_toArray, List.getElem_cons_zero, List.getElem_cons_succ, Act.put, List.setIfInBounds_toArray, List.set_cons_zero, List.set_cons_succ]
            apply Flow.d 2 _ rfl (by simp) (by kernel_rfl)
            · intro w1 hk; unfold does; go_simp; (try go_ints); exact DetR.mk
            simp only [List.getElem_toArray, List.getElem_cons_zero, List.getElem_cons_succ, Act.put, List.setIfInBounds_toArray, List.set_cons_zero, List.set_cons_succ]
            apply Flow.d 3 _ rfl (by simp) (by kernel_rfl)
            · intro w1 hk; unfold does; go_simp; (try go_ints); exact DetR.mk
            simp only [List.getElem_toArray, List.getElem_cons_zero, List.getElem_cons_succ, Act.put, List.setIfInBounds_toArray, List.set_cons_zero, List.set_cons_succ]
            apply Flow.d 4 _ rfl (by simp) (by kernel_rfl)
            · intro w1 hk; unfold does; go_simp; (try go_ints); exact DetR.mk
            simp only [List.getElem_toArray, List.getElem_cons_zero, List.getElem_cons_succ, Act.put, List.setIfInBounds_toArray, List.set_cons_zero, List.set_cons_succ]
            refine Flow.par3g 5 6 10 _ _ _ rfl rfl rfl (by decide) (by decide) (fun _ _ h => by cases h) (fun _ _ h => by cases h) (fun _ _ h => by cases h) (by kernel_rfl) (by kernel_rfl) (by kernel_rfl) (by kernel_rfl) (by kernel_rfl) (by kernel_rfl)
              (fun u w' => AtNew W1.heap.size u w' ∧ Ext W1 w')
              (fun v w' => AtInts W1.heap.size x.nums v w' ∧ Ext W1 w')
              (fun u v w' => AtNew W1.heap.size u w' ∧ AtInts W1.heap.size x.nums v w' ∧ Ext W1 w')
              (fun _ t w' => AtSent w p q b mp (mp + 1) (s.sent x.kind x.nums) s r (.slice ao sents.length co) sents wr.heap.size #[.string x.what, .int .u8 (x.kind.toNat : Int), .slice an x.nums.length cn, .int .i64 x.n, .int .u8 (x.f.f.kind.toNat : Int), .int .i64 x.f.f.fr, .int .i64 x.f.f.to, .int .i64 x.f.f.seq, .slice af x.f.f.nums.length cf, .bool x.own] an cn (s.frame x.kind x.nums) W1.heap.size w' t)
              (fun u _ t w' => AtSent w p q b mp (mp + 1) (s.sent x.kind x.nums) s r (.slice ao sents.length co) sents wr.heap.size #[.string x.what, .int .u8 (x.kind.toNat : Int), .slice an x.nums.length cn, .int .i64 x.n, .int .u8 (x.f.f.kind.toNat : Int), .int .i64 x.f.f.fr, .int .i64 x.f.f.to, .int .i64 x.f.f.seq, .slice af x.f.f.nums.length cf, .bool x.own] an cn (s.frame x.kind x.nums) W1.heap.size w' t ∧ AtNew W1.heap.size u w')
              (fun _ _ _ h y => ⟨h.1.ext y, h.2.trans y⟩) (fun _ _ _ h y => ⟨h.1.ext y, h.2.trans y⟩)
              (fun _ _ _ _ h y => ⟨h.1.ext y, h.2.1.ext y, h.2.2.trans y⟩) (fun _ _ _ _ h y => AtSent.ext h y) (fun _ _ _ _ _ h y => ⟨AtSent.ext h.1 y, h.2.ext y⟩) ?_ ?_ ?_ ?_ ?_ ?_ ?_ ?_
            · intro wa hC hk
              unfold does
              go_simp
              exact ⟨hk.alloc _, AtNew.mk hC.size, hC.alloc _⟩
            · intro wa hC hk
              unfold does
              go_simp
              refine CallR.act ((HO wa hC).out.mono ?_)
              rintro e wb ⟨v, rfl, hx, hI⟩
              exact ⟨_, rfl, (hC.trans hx).keep _, AtInts.mk hI hC.size, hC.trans hx⟩
            · rintro _ wa ⟨hI, hC⟩ hk
              unfold does
              go_simp
              exact ⟨hk.alloc _, AtNew.mk hC.size, hI.ext ((Ext.refl _).alloc _), hC.alloc _⟩
            · rintro _ wa ⟨hB, hC⟩ hk
              unfold does
              go_simp
              refine CallR.act ((HO wa hC).out.mono ?_)
              rintro e wb ⟨v, rfl, hx, hI⟩
              exact ⟨_, rfl, (hC.trans hx).keep _, hB.ext hx, AtInts.mk hI hC.size, hC.trans hx⟩
            · rintro _ wa ⟨⟨av, cv, rfl, hI⟩, hC⟩ hk
              unfold does
              go_simp
              refine CallR.act ((HSB wa hC av cv hI).out.mono ?_)
              rintro e wb ⟨v, rfl, hx, hd, _⟩
              exact ⟨_, rfl, hk.trans hx, hd⟩
            · rintro _ _ wa ⟨hB, ⟨av, cv, rfl, hI⟩, hC⟩ hk
              unfold does
              go_simp
              refine CallR.act ((HSB wa hC av cv hI).out.mono ?_)
              rintro e wb ⟨v, rfl, hx, hd, hk2⟩
              exact ⟨_, rfl, hk.trans hx, hd, hk2 _ _ hB⟩
            · rintro _ vj _ ⟨_, ⟨vv, rfl, hS0⟩, b0, rfl, _, hb0⟩
              have Hb0 := hid hb0
              obtain ⟨a1, c1, rfl⟩ : ∃ a1 c1, vv = .slice a1 x.nums.length c1 := hS0.i.form
              clear hb0 HSB hS0
              simp only [FV.val, Snd.frame, List.getElem_toArray, List.getElem_cons_zero, List.getElem_cons_succ, Act.put, List.setIfInBounds_toArray, List.set_cons_zero, List.set_cons_succ]
              apply Flow.d 7 _ rfl (by simp) (by kernel_rfl)
              · intro w1 hk; unfold does; go_simp; (try go_ints); exact DetR.mk
              simp only [List.getElem_toArray, List.getElem_cons_zero, List.getElem_cons_succ, Act.put, List.setIfInBounds_toArray, List.set_cons_zero, List.set_cons_succ]
              apply Flow.d 8 _ rfl (by simp) (by kernel_rfl)
              · intro w1 hk; unfold does; go_simp; (try go_ints); exact DetR.mk
              simp only [List.getElem_toArray, List.getElem_cons_zero, List.getElem_cons_succ, Act.put, List.setIfInBounds_toArray, List.set_cons_zero, List.set_cons_succ]
              apply Flow.d 9 _ rfl (by simp) (by kernel_rfl)
              · intro w1 hk; unfold does; go_simp; (try go_ints); exact DetR.mk
              simp only [List.getElem_toArray, List.getElem_cons_zero, List.getElem_cons_succ, Act.put, List.setIfInBounds_toArray, List.set_cons_zero, List.set_cons_succ]
              refine Flow.one 11 _ rfl (by kernel_rfl) (fun _ w' => (SentL w p q b mp (mp + 1) (s.sent x.kind x.nums) s r (.slice ao sents.length co) sents wr.heap.size #[.string x.what, .int .u8 (x.kind.toNat : Int), .slice an x.nums.length cn, .int .i64 x.n, .int .u8 (x.f.f.kind.toNat : Int), .int .i64 x.f.f.fr, .int .i64 x.f.f.to, .int .i64 x.f.f.seq, .slice af x.f.f.nums.length cf, .bool x.own] an cn x.nums (.slice a1 x.nums.length c1) W1.heap.size w') ∧ Blk w' b0 #[.int .u8 (x.kind.toNat : Int), .int .i64 s.fr, .int .i64 s.to, .int .i64 s.next, .slice a1 x.nums.length c1] 48) (fun _ _ _ h y => ⟨(SentL.ext) h.1 y, h.2.ext y⟩) ?_ ?_
              · rintro wa ⟨⟨vv', ev', hS⟩, b', eb, hB, _⟩ hk
                obtain rfl : b0 = b' := by simpa using eb
                have z0 := hB.av 0 rfl
                have z1 := hB.av 1 rfl
                have z2 := hB.av 2 rfl
                have z3 := hB.av 3 rfl
                have z4 := hB.av 4 rfl
                have f0 := hB.free
                unfold does
                go_simp
                exact ⟨HAl.out _ _ Hb0.out hk _ _ _ _ _, (by have e9 : Value.slice a1 x.nums.length c1 = vv' := (by simpa [FV.val, Snd.frame] using ev'); rw [e9]; exact hS.by (Kp.frame5 hB (Nat.le_trans Hs1.out.1 Hb0.out) _ _ _ _ _)), store5 hB⟩
              rintro _ ⟨_, _⟩
              simp only [List.getElem_toArray, List.getElem_cons_zero, List.getElem_cons_succ, Act.put, List.setIfInBounds_toArray, List.set_cons_zero, List.set_cons_succ]
              apply Flow.d 12 _ rfl (by simp) (by kernel_rfl)
              · intro w1 hk; unfold does; go_simp; (try go_ints); exact DetR.mk
              simp only [List.getElem_toArray, List.getElem_cons_zero, List.getElem_cons_succ, Act.put, List.setIfInBounds_toArray, List.set_cons_zero, List.set_cons_succ]
              refine Flow.fin (by kernel_rfl) fun w3 hC hk => ?_
              obtain ⟨hS3, hB0⟩ := hC
              as_aux_lemma =>
                clear hk HO HAl q1 q2
                have b1 := hS3.a.av 1 rfl
                have b2 := hS3.a.av 2 rfl
                simp only [List.getElem_toArray, List.getElem_cons_zero, List.getElem_cons_succ] at b1 b2
                have HRS := hid (hS3.l.rsend x.kind x.nums an cn hS3.n (by omega) Her.out i Hs.out.ok (by omega))
                unfold frv at HRS
                simp only [Snd.frame] at HRS
                have HS3 := hid hS3
                have HB0 := hid hB0
                clear hS3 hB0
                go_wp2_with fail
                refine HRS.out.mono ?_
                intro e w4 hx
                obtain ⟨rfl, hL4, hK4⟩ := hx
                obtain ⟨W5, hW5⟩ : ∃ W5, W5 = w4.alloc (.cells #[.int .u8 (x.kind.toNat : Int), .int .i64 s.fr, .int .i64 s.to, .int .i64 s.next, .slice an x.nums.length cn] 45) := ⟨_, rfl⟩
                have hx5 : Ext w4 W5 := by rw [hW5]; exact (Ext.refl _).alloc _
                have HB5 : Hid (Blk W5 w4.heap.size #[.int .u8 (x.kind.toNat : Int), .int .i64 s.fr, .int .i64 s.to, .int .i64 s.next, .slice an x.nums.length cn] 45) := hid (by rw [hW5]; exact Blk.new _ _ _)
                have HBz := hid ((hK4.blk HB0.out (by decide)).ext hx5)
                have HI5 : Hid (IRow W1.heap.size W5 (.slice a1 x.nums.length c1) x.nums) := hid (IRow.ext (hK4.row (show w3.ownsRow W1.heap.size 3 1 (.slice a1 x.nums.length c1) x.nums.length (icells x.nums) from HS3.out.i) (by decide)) hx5)
                have HN5 := hid (NumsAt.ext (hK4.nums HS3.out.n) hx5)
                have HL5 := hid (hL4.on hx5)
                have HW5 := hid hW5
                have HCo : Hid (Calls Tryd.prog 10 #[.nilIface, .int .i64 0] W5 fun e w' => e = .returned (.bool true) ∧ Ext W5 w') := hid (coded3_any W5 ad (HE.out.ext HL5.out.ext) 0 (by decide) 0)
                clear HRS hL4 hK4 hW5 hx5 b1 b2 HS3 HB0
                go_wp2_with fail
                rw [← HW5.out]
                refine HCo.out.mono ?_
                intro e w6 hx
                obtain ⟨rfl, hx6⟩ := hx
                have e0 := (HBz.out.ext hx6).kc (X := fun _ => False) (fun e => e) 0 rfl
                have e1 := (HBz.out.ext hx6).kc (X := fun _ => False) (fun e => e) 1 rfl
                have e2 := (HBz.out.ext hx6).kc (X := fun _ => False) (fun e => e) 2 rfl
                have e3 := (HBz.out.ext hx6).kc (X := fun _ => False) (fun e => e) 3 rfl
                have e4 := (HBz.out.ext hx6).kc (X := fun _ => False) (fun e => e) 4 rfl
                have m0 := (HB5.out.ext hx6).kc (X := fun _ => False) (fun e => e) 0 rfl
                have m1 := (HB5.out.ext hx6).kc (X := fun _ => False) (fun e => e) 1 rfl
                have m2 := (HB5.out.ext hx6).kc (X := fun _ => False) (fun e => e) 2 rfl
                have m3 := (HB5.out.ext hx6).kc (X := fun _ => False) (fun e => e) 3 rfl
                have m4 := (HB5.out.ext hx6).kc (X := fun _ => False) (fun e => e) 4 rfl
                simp only [List.getElem_toArray, List.getElem_cons_zero, List.getElem_cons_succ] at e0 e1 e2 e3 e4 m0 m1 m2 m3 m4
                have hcode := (Snd.err_zero Her.out).1
                have HOf := fun w1 (k : Keep (fun _ => False) w6 w1) => hid (offr_any (s.frame x.kind x.nums) a1 c1 w1)
                have HT1 := fun w1 (k : Keep (fun _ => False) w6 w1) => hid (reftext_any (s.frame x.kind x.nums) a1 c1 w1 ((IRow.ints HI5.out HN5.out.hi).ext (hx6.trans k.ext)) hcode)
                have HT2 := fun w1 (k : Keep (fun _ => False) w6 w1) => hid (reftext_any (s.frame x.kind x.nums) an cn w1 (HN5.out.ints'.ext (hx6.trans k.ext)) hcode)
                unfold frv at HOf HT1 HT2
                simp only [Snd.frame] at HOf HT1 HT2
                clear hcode HCo HBz
                go_wp2
                refine wp_flowT (fun _ => False) (by kernel_rfl) (by kernel_rfl) ?_
                repeat (apply FlowT.d; (intro w1 hk; unfold does; go_simp; (try go_ints); (first | exact DetR.mk | (simp only [↓IntWalk.iteOmega, Oper.doesUpon_value]; exact DetR.mk) | (simp only [↓IntWalk.iteOmega]; go_simp; (try go_ints); exact DetR.mk))); simp only [Act.put, List.setIfInBounds_toArray, List.set_cons_zero, List.set_cons_succ])
                apply FlowT.d
                · intro w1 hk
                  unfold does
                  go_simp
                  exact CallR.det ((HOf w1 hk).out)
                simp only [Act.put, List.setIfInBounds_toArray, List.set_cons_zero, List.set_cons_succ]
                repeat (apply FlowT.d; (intro w1 hk; unfold does; go_simp; (try go_ints); (first | exact DetR.mk | (simp only [↓IntWalk.iteOmega, Oper.doesUpon_value]; exact DetR.mk) | (simp only [↓IntWalk.iteOmega]; go_simp; (try go_ints); exact DetR.mk))); simp only [Act.put, List.setIfInBounds_toArray, List.set_cons_zero, List.set_cons_succ])
                apply FlowT.d
                · intro w1 hk
                  unfold does
                  go_simp
                  exact CallR.det ((HT1 w1 hk).out)
                simp only [Act.put, List.setIfInBounds_toArray, List.set_cons_zero, List.set_cons_succ]
                repeat (apply FlowT.d; (intro w1 hk; unfold does; go_simp; (try go_ints); (first | exact DetR.mk | (simp only [↓IntWalk.iteOmega, Oper.doesUpon_value]; exact DetR.mk) | (simp only [↓IntWalk.iteOmega]; go_simp; (try go_ints); exact DetR.mk))); simp only [Act.put, List.setIfInBounds_toArray, List.set_cons_zero, List.set_cons_succ])
                apply FlowT.d
                · intro w1 hk
                  unfold does
                  go_simp
                  exact CallR.det ((HT2 w1 hk).out)
                simp only [Act.put, List.setIfInBounds_toArray, List.set_cons_zero, List.set_cons_succ]
                repeat (apply FlowT.d; (intro w1 hk; unfold does; go_simp; (try go_ints); (first | exact DetR.mk | (simp only [↓IntWalk.iteOmega, Oper.doesUpon_value]; exact DetR.mk) | (simp only [↓IntWalk.iteOmega]; go_simp; (try go_ints); exact DetR.mk))); simp only [Act.put, List.setIfInBounds_toArray, List.set_cons_zero, List.set_cons_succ])
                refine FlowT.fin fun w7 hx7 hk7 => ?_
                have hx57 := hx6.trans hx7
                have hB7 := HB5.out.ext hx57
                have d0 := hB7.av 0 rfl
                have d1 := hB7.av 1 rfl
                have d2 := hB7.av 2 rfl
                have d3 := hB7.av 3 rfl
                have d4 := hB7.av 4 rfl
                simp only [List.getElem_toArray, List.getElem_cons_zero, List.getElem_cons_succ] at d0 d1 d2 d3 d4
                obtain ⟨W8, hW8⟩ : ∃ W8, W8 = w7.alloc (.cells #[.int .u8 (x.kind.toNat : Int), .int .i64 s.fr, .int .i64 s.to, .int .i64 s.next, .slice an x.nums.length cn] 45) := ⟨_, rfl⟩
                have hx8 : Ext w7 W8 := by rw [hW8]; exact (Ext.refl _).alloc _
                have HB8 : Hid (Blk W8 w7.heap.size #[.int .u8 (x.kind.toNat : Int), .int .i64 s.fr, .int .i64 s.to, .int .i64 s.next, .slice an x.nums.length cn] 45) := hid (by rw [hW8]; exact Blk.new _ _ _)
                have HL8 := hid (HL5.out.on (hx57.trans hx8))
                have HN8 := hid (NumsAt.ext HN5.out (hx57.trans hx8))
                have HW8 := hid hW8
                have Hbs := hid HL8.out.ext.size
                have Hsl : Hid (sents.length ≤ 1000000) := hid (by omega)
                clear hW8 hx8 hx57 hB7 hx6 hx7 hk7 e0 e1 e2 e3 e4 m0 m1 m2 m3 m4 HOf HT1 HT2 HB5 HI5 HN5 HL5 HW5
                go_wp2_with (at_builtin; rw [← HW8.out]; refine wpList_append_el w.heap.size Hbs.out 40 45 (.agg #[.int .u8 0, .int .i64 0, .int .i64 0, .int .i64 0, .slice none 0 0]) 5 56 Tryd.underlying40 rframe_info rfl (by omega) (by omega) rfl _ _ rfl (.slice ao sents.length co) sents.length (sents.flatMap FV.cells) rfl HL8.out.sent.row w7.heap.size (FV.cells ⟨s.frame x.kind x.nums, .slice an x.nums.length cn⟩) rfl (by simp [FV.cells, Value.oneCell']) rfl HB8.out Hsl.out ?_; intro vS wS hoS hkS hlS; obtain ⟨aS, cS, rfl⟩ := row_form hoS)
                have HL9 := hid (HL8.out.say hoS hkS hlS (x := ⟨s.frame x.kind x.nums, .slice an x.nums.length cn⟩) HN8.out)
                clear HL8 HN8 hoS hkS hlS d0 d1 d2 d3 d4 HB8 HW8
                obtain ⟨lv9, ks9, hs9⟩ := (HL9).out.snd
                obtain ⟨ms9, hr9⟩ := (HL9).out.rcv
                obtain ⟨lw9, kr9, hm9⟩ := (HL9).out.rs
                obtain ⟨wv9, fs9, ho9, _⟩ := (HL9).out.rr
                obtain ⟨a9, c9', rfl⟩ := row_form hm9.hl
                have HW9 := fun w1 (k : Keep (fun _ => False) wS w1) => hid (waits_ext w1 _ _ _ _ _ _ (hs9.ext k.ext))
                have HD9 := fun w1 (k : Keep (fun _ => False) wS w1) => hid (due_ext w1 _ _ _ _ _ _ (hr9.ext k.ext))
                rw [hm9.len] at HW9
                have g4 := hm9.hp.kc (X := fun _ => False) (fun e => e) 4 rfl
                have g2 := ho9.hp.kc (X := fun _ => False) (fun e => e) 2 rfl
                simp only [List.getElem_toArray, List.getElem_cons_zero, List.getElem_cons_succ] at g4 g2
                clear hs9 hr9 hm9 ho9
                go_wp2
                refine wp_flowT (fun _ => False) (by kernel_rfl) (by kernel_rfl) ?_
                repeat (apply FlowT.d; (intro w1 hk; unfold does; go_simp; (try go_ints); (first | exact DetR.mk | (simp only [↓IntWalk.iteOmega, Oper.doesUpon_value]; exact DetR.mk) | (simp only [↓IntWalk.iteOmega]; go_simp; (try go_ints); exact DetR.mk))); simp only [Act.put, List.setIfInBounds_toArray, List.set_cons_zero, List.set_cons_succ])
                apply FlowT.d
                · intro w1 hk
                  unfold does
                  go_simp
                  exact CallR.det ((HW9 w1 hk).out)
                simp only [Act.put, List.setIfInBounds_toArray, List.set_cons_zero, List.set_cons_succ]
                repeat (apply FlowT.d; (intro w1 hk; unfold does; go_simp; (try go_ints); (first | exact DetR.mk | (simp only [↓IntWalk.iteOmega, Oper.doesUpon_value]; exact DetR.mk) | (simp only [↓IntWalk.iteOmega]; go_simp; (try go_ints); exact DetR.mk))); simp only [Act.put, List.setIfInBounds_toArray, List.set_cons_zero, List.set_cons_succ])
                apply FlowT.d
                · intro w1 hk
                  unfold does
                  go_simp
                  exact CallR.det ((HD9 w1 hk).out)
                simp only [Act.put, List.setIfInBounds_toArray, List.set_cons_zero, List.set_cons_succ]
                repeat (apply FlowT.d; (intro w1 hk; unfold does; go_simp; (try go_ints); (first | exact DetR.mk | (simp only [↓IntWalk.iteOmega, Oper.doesUpon_value]; exact DetR.mk) | (simp only [↓IntWalk.iteOmega]; go_simp; (try go_ints); exact DetR.mk))); simp only [Act.put, List.setIfInBounds_toArray, List.set_cons_zero, List.set_cons_succ])
                refine FlowT.fin fun wy hxy hky => ?_
                have Hxy := hid hxy
                clear HW9 HD9 g4 g2 hxy hky
                go_wp2
                go_roundw
                case rel => exact ⟨i + 1, (s.sent x.kind x.nums), r, (sents ++ [⟨s.frame x.kind x.nums, .slice an x.nums.length cn⟩]), by go_num, by omega, (HL9).out.on Hxy.out, (Hs.out.sent Her.out), (Hr.out.mono (by omega)), (by simp; omega), (fun y hy => (List.mem_append.1 hy).elim (Hsc.out y) fun h => by rw [List.mem_singleton.1 h]; exact (Snd.err_zero Her.out).1)⟩
                case measure => simp [intOf]; omega
            · rintro vj _ ⟨_, vv, rfl, hS0⟩
              obtain ⟨a1, c1, rfl⟩ : ∃ a1 c1, vv = .slice a1 x.nums.length c1 := hS0.i.form
              clear HSB hS0
              simp only [FV.val, Snd.frame, List.getElem_toArray, List.getElem_cons_zero, List.getElem_cons_succ, Act.put, List.setIfInBounds_toArray, List.set_cons_zero, List.set_cons_succ]
              apply Flow.d 7 _ rfl (by simp) (by kernel_rfl)
              · intro w1 hk; unfold does; go_simp; (try go_ints); exact DetR.mk
              simp only [List.getElem_toArray, List.getElem_cons_zero, List.getElem_cons_succ, Act.put, List.setIfInBounds_toArray, List.set_cons_zero, List.set_cons_succ]
              apply Flow.d 8 _ rfl (by simp) (by kernel_rfl)
              · intro w1 hk; unfold does; go_simp; (try go_ints); exact DetR.mk
              simp only [List.getElem_toArray, List.getElem_cons_zero, List.getElem_cons_succ, Act.put, List.setIfInBounds_toArray, List.set_cons_zero, List.set_cons_succ]
              apply Flow.d 9 _ rfl (by simp) (by kernel_rfl)
              · intro w1 hk; unfold does; go_simp; (try go_ints); exact DetR.mk
              simp only [List.getElem_toArray, List.getElem_cons_zero, List.getElem_cons_succ, Act.put, List.setIfInBounds_toArray, List.set_cons_zero, List.set_cons_succ]
              refine Flow.one 10 _ rfl (by kernel_rfl) (fun u w' => SentL w p q b mp (mp + 1) (s.sent x.kind x.nums) s r (.slice ao sents.length co) sents wr.heap.size #[.string x.what, .int .u8 (x.kind.toNat : Int), .slice an x.nums.length cn, .int .i64 x.n, .int .u8 (x.f.f.kind.toNat : Int), .int .i64 x.f.f.fr, .int .i64 x.f.f.to, .int .i64 x.f.f.seq, .slice af x.f.f.nums.length cf, .bool x.own] an cn x.nums (.slice a1 x.nums.length c1) W1.heap.size w' ∧ AtNew W1.heap.size u w') (fun _ _ _ h y => ⟨h.1.ext y, h.2.ext y⟩) ?_ ?_
              · rintro wa ⟨vv', ev', hS⟩ hk
                have e9 : Value.slice a1 x.nums.length c1 = vv' := (by simpa [FV.val, Snd.frame] using ev')
                subst e9
                clear ev'
                unfold does
                go_simp
                exact ⟨hk.alloc _, hS.ext ((Ext.refl _).alloc _), AtNew.mk hk.size⟩
              rintro _ ⟨_, _, b0, rfl, _, hb0⟩
              have Hb0 := hid hb0
              clear hb0
              simp only [List.getElem_toArray, List.getElem_cons_zero, List.getElem_cons_succ, Act.put, List.setIfInBounds_toArray, List.set_cons_zero, List.set_cons_succ]
              refine Flow.one 11 _ rfl (by kernel_rfl) (fun _ w' => (SentL w p q b mp (mp + 1) (s.sent x.kind x.nums) s r (.slice ao sents.length co) sents wr.heap.size #[.string x.what, .int .u8 (x.kind.toNat : Int), .slice an x.nums.length cn, .int .i64 x.n, .int .u8 (x.f.f.kind.toNat : Int), .int .i64 x.f.f.fr, .int .i64 x.f.f.to, .int .i64 x.f.f.seq, .slice af x.f.f.nums.length cf, .bool x.own] an cn x.nums (.slice a1 x.nums.length c1) W1.heap.size w') ∧ Blk w' b0 #[.int .u8 (x.kind.toNat : Int), .int .i64 s.fr, .int .i64 s.to, .int .i64 s.next, .slice a1 x.nums.length c1] 48) (fun _ _ _ h y => ⟨(SentL.ext) h.1 y, h.2.ext y⟩) ?_ ?_
              · rintro wa ⟨hS, b', eb, hB, _⟩ hk
                obtain rfl : b0 = b' := by simpa using eb
                have z0 := hB.av 0 rfl
                have z1 := hB.av 1 rfl
                have z2 := hB.av 2 rfl
                have z3 := hB.av 3 rfl
                have z4 := hB.av 4 rfl
                have f0 := hB.free
                unfold does
                go_simp
                exact ⟨HAl.out _ _ Hb0.out hk _ _ _ _ _, (hS.by (Kp.frame5 hB (Nat.le_trans Hs1.out.1 Hb0.out) _ _ _ _ _)), store5 hB⟩
              rintro _ ⟨_, _⟩
              simp only [List.getElem_toArray, List.getElem_cons_zero, List.getElem_cons_succ, Act.put, List.setIfInBounds_toArray, List.set_cons_zero, List.set_cons_succ]
              apply Flow.d 12 _ rfl (by simp) (by kernel_rfl)
              · intro w1 hk; unfold does; go_simp; (try go_ints); exact DetR.mk
              simp only [List.getElem_toArray, List.getElem_cons_zero, List.getElem_cons_succ, Act.put, List.setIfInBounds_toArray, List.set_cons_zero, List.set_cons_succ]
              refine Flow.fin (by kernel_rfl) fun w3 hC hk => ?_
              obtain ⟨hS3, hB0⟩ := hC
              as_aux_lemma =>
                clear hk HO HAl q1 q2
                have b1 := hS3.a.av 1 rfl
                have b2 := hS3.a.av 2 rfl
                simp only [List.getElem_toArray, List.getElem_cons_zero, List.getElem_cons_succ] at b1 b2
                have HRS := hid (hS3.l.rsend x.kind x.nums an cn hS3.n (by omega) Her.out i Hs.out.ok (by omega))
                unfold frv at HRS
                simp only [Snd.frame] at HRS
                have HS3 := hid hS3
                have HB0 := hid hB0
                clear hS3 hB0
                go_wp2_with fail
                refine HRS.out.mono ?_
                intro e w4 hx
                obtain ⟨rfl, hL4, hK4⟩ := hx
                obtain ⟨W5, hW5⟩ : ∃ W5, W5 = w4.alloc (.cells #[.int .u8 (x.kind.toNat : Int), .int .i64 s.fr, .int .i64 s.to, .int .i64 s.next, .slice an x.nums.length cn] 45) := ⟨_, rfl⟩
                have hx5 : Ext w4 W5 := by rw [hW5]; exact (Ext.refl _).alloc _
                have HB5 : Hid (Blk W5 w4.heap.size #[.int .u8 (x.kind.toNat : Int), .int .i64 s.fr, .int .i64 s.to, .int .i64 s.next, .slice an x.nums.length cn] 45) := hid (by rw [hW5]; exact Blk.new _ _ _)
                have HBz := hid ((hK4.blk HB0.out (by decide)).ext hx5)
                have HI5 : Hid (IRow W1.heap.size W5 (.slice a1 x.nums.length c1) x.nums) := hid (IRow.ext (hK4.row (show w3.ownsRow W1.heap.size 3 1 (.slice a1 x.nums.length c1) x.nums.length (icells x.nums) from HS3.out.i) (by decide)) hx5)
                have HN5 := hid (NumsAt.ext (hK4.nums HS3.out.n) hx5)
                have HL5 := hid (hL4.on hx5)
                have HW5 := hid hW5
                have HCo : Hid (Calls Tryd.prog 10 #[.nilIface, .int .i64 0] W5 fun e w' => e = .returned (.bool true) ∧ Ext W5 w') := hid (coded3_any W5 ad (HE.out.ext HL5.out.ext) 0 (by decide) 0)
                clear HRS hL4 hK4 hW5 hx5 b1 b2 HS3 HB0
                go_wp2_with fail
                rw [← HW5.out]
                refine HCo.out.mono ?_
                intro e w6 hx
                obtain ⟨rfl, hx6⟩ := hx
                have e0 := (HBz.out.ext hx6).kc (X := fun _ => False) (fun e => e) 0 rfl
                have e1 := (HBz.out.ext hx6).kc (X := fun _ => False) (fun e => e) 1 rfl
                have e2 := (HBz.out.ext hx6).kc (X := fun _ => False) (fun e => e) 2 rfl
                have e3 := (HBz.out.ext hx6).kc (X := fun _ => False) (fun e => e) 3 rfl
                have e4 := (HBz.out.ext hx6).kc (X := fun _ => False) (fun e => e) 4 rfl
                have m0 := (HB5.out.ext hx6).kc (X := fun _ => False) (fun e => e) 0 rfl
                have m1 := (HB5.out.ext hx6).kc (X := fun _ => False) (fun e => e) 1 rfl
                have m2 := (HB5.out.ext hx6).kc (X := fun _ => False) (fun e => e) 2 rfl
                have m3 := (HB5.out.ext hx6).kc (X := fun _ => False) (fun e => e) 3 rfl
                have m4 := (HB5.out.ext hx6).kc (X := fun _ => False) (fun e => e) 4 rfl
                simp only [List.getElem_toArray, List.getElem_cons_zero, List.getElem_cons_succ] at e0 e1 e2 e3 e4 m0 m1 m2 m3 m4
                have hcode := (Snd.err_zero Her.out).1
                have HOf := fun w1 (k : Keep (fun _ => False) w6 w1) => hid (offr_any (s.frame x.kind x.nums) a1 c1 w1)
                have HT1 := fun w1 (k : Keep (fun _ => False) w6 w1) => hid (reftext_any (s.frame x.kind x.nums) a1 c1 w1 ((IRow.ints HI5.out HN5.out.hi).ext (hx6.trans k.ext)) hcode)
                have HT2 := fun w1 (k : Keep (fun _ => False) w6 w1) => hid (reftext_any (s.frame x.kind x.nums) an cn w1 (HN5.out.ints'.ext (hx6.trans k.ext)) hcode)
                unfold frv at HOf HT1 HT2
                simp only [Snd.frame] at HOf HT1 HT2
                clear hcode HCo HBz
                go_wp2
                refine wp_flowT (fun _ => False) (by kernel_rfl) (by kernel_rfl) ?_
                repeat (apply FlowT.d; (intro w1 hk; unfold does; go_simp; (try go_ints); (first | exact DetR.mk | (simp only [↓IntWalk.iteOmega, Oper.doesUpon_value]; exact DetR.mk) | (simp only [↓IntWalk.iteOmega]; go_simp; (try go_ints); exact DetR.mk))); simp only [Act.put, List.setIfInBounds_toArray, List.set_cons_zero, List.set_cons_succ])
                apply FlowT.d
                · intro w1 hk
                  unfold does
                  go_simp
                  exact CallR.det ((HOf w1 hk).out)
                simp only [Act.put, List.setIfInBounds_toArray, List.set_cons_zero, List.set_cons_succ]
                repeat (apply FlowT.d; (intro w1 hk; unfold does; go_simp; (try go_ints); (first | exact DetR.mk | (simp only [↓IntWalk.iteOmega, Oper.doesUpon_value]; exact DetR.mk) | (simp only [↓IntWalk.iteOmega]; go_simp; (try go_ints); exact DetR.mk))); simp only [Act.put, List.setIfInBounds_toArray, List.set_cons_zero, List.set_cons_succ])
                apply FlowT.d
                · intro w1 hk
                  unfold does
                  go_simp
                  exact CallR.det ((HT1 w1 hk).out)
                simp only [Act.put, List.setIfInBounds_toArray, List.set_cons_zero, List.set_cons_succ]
                repeat (apply FlowT.d; (intro w1 hk; unfold does; go_simp; (try go_ints); (first | exact DetR.mk | (simp only [↓IntWalk.iteOmega, Oper.doesUpon_value]; exact DetR.mk) | (simp only [↓IntWalk.iteOmega]; go_simp; (try go_ints); exact DetR.mk))); simp only [Act.put, List.setIfInBounds_toArray, List.set_cons_zero, List.set_cons_succ])
                apply FlowT.d
                · intro w1 hk
                  unfold does
                  go_simp
                  exact CallR.det ((HT2 w1 hk).out)
                simp only [Act.put, List.setIfInBounds_toArray, List.set_cons_zero, List.set_cons_succ]
                repeat (apply FlowT.d; (intro w1 hk; unfold does; go_simp; (try go_ints); (first | exact DetR.mk | (simp only [↓IntWalk.iteOmega, Oper.doesUpon_value]; exact DetR.mk) | (simp only [↓IntWalk.iteOmega]; go_simp; (try go_ints); exact DetR.mk))); simp only [Act.put, List.setIfInBounds_toArray, List.set_cons_zero, List.set_cons_succ])
                refine FlowT.fin fun w7 hx7 hk7 => ?_
                have hx57 := hx6.trans hx7
                have hB7 := HB5.out.ext hx57
                have d0 := hB7.av 0 rfl
                have d1 := hB7.av 1 rfl
                have d2 := hB7.av 2 rfl
                have d3 := hB7.av 3 rfl
                have d4 := hB7.av 4 rfl
                simp only [List.getElem_toArray, List.getElem_cons_zero, List.getElem_cons_succ] at d0 d1 d2 d3 d4
                obtain ⟨W8, hW8⟩ : ∃ W8, W8 = w7.alloc (.cells #[.int .u8 (x.kind.toNat : Int), .int .i64 s.fr, .int .i64 s.to, .int .i64 s.next, .slice an x.nums.length cn] 45) := ⟨_, rfl⟩
                have hx8 : Ext w7 W8 := by rw [hW8]; exact (Ext.refl _).alloc _
                have HB8 : Hid (Blk W8 w7.heap.size #[.int .u8 (x.kind.toNat : Int), .int .i64 s.fr, .int .i64 s.to, .int .i64 s.next, .slice an x.nums.length cn] 45) := hid (by rw [hW8]; exact Blk.new _ _ _)
                have HL8 := hid (HL5.out.on (hx57.trans hx8))
                have HN8 := hid (NumsAt.ext HN5.out (hx57.trans hx8))
                have HW8 := hid hW8
                have Hbs := hid HL8.out.ext.size
                have Hsl : Hid (sents.length ≤ 1000000) := hid (by omega)
                clear hW8 hx8 hx57 hB7 hx6 hx7 hk7 e0 e1 e2 e3 e4 m0 m1 m2 m3 m4 HOf HT1 HT2 HB5 HI5 HN5 HL5 HW5
                go_wp2_with (at_builtin; rw [← HW8.out]; refine wpList_append_el w.heap.size Hbs.out 40 45 (.agg #[.int .u8 0, .int .i64 0, .int .i64 0, .int .i64 0, .slice none 0 0]) 5 56 Tryd.underlying40 rframe_info rfl (by omega) (by omega) rfl _ _ rfl (.slice ao sents.length co) sents.length (sents.flatMap FV.cells) rfl HL8.out.sent.row w7.heap.size (FV.cells ⟨s.frame x.kind x.nums, .slice an x.nums.length cn⟩) rfl (by simp [FV.cells, Value.oneCell']) rfl HB8.out Hsl.out ?_; intro vS wS hoS hkS hlS; obtain ⟨aS, cS, rfl⟩ := row_form hoS)
                have HL9 := hid (HL8.out.say hoS hkS hlS (x := ⟨s.frame x.kind x.nums, .slice an x.nums.length cn⟩) HN8.out)
                clear HL8 HN8 hoS hkS hlS d0 d1 d2 d3 d4 HB8 HW8
                obtain ⟨lv9, ks9, hs9⟩ := (HL9).out.snd
                obtain ⟨ms9, hr9⟩ := (HL9).out.rcv
                obtain ⟨lw9, kr9, hm9⟩ := (HL9).out.rs
                obtain ⟨wv9, fs9, ho9, _⟩ := (HL9).out.rr
                obtain ⟨a9, c9', rfl⟩ := row_form hm9.hl
                have HW9 := fun w1 (k : Keep (fun _ => False) wS w1) => hid (waits_ext w1 _ _ _ _ _ _ (hs9.ext k.ext))
                have HD9 := fun w1 (k : Keep (fun _ => False) wS w1) => hid (due_ext w1 _ _ _ _ _ _ (hr9.ext k.ext))
                rw [hm9.len] at HW9
                have g4 := hm9.hp.kc (X := fun _ => False) (fun e => e) 4 rfl
                have g2 := ho9.hp.kc (X := fun _ => False) (fun e => e) 2 rfl
                simp only [List.getElem_toArray, List.getElem_cons_zero, List.getElem_cons_succ] at g4 g2
                clear hs9 hr9 hm9 ho9
                go_wp2
                refine wp_flowT (fun _ => False) (by kernel_rfl) (by kernel_rfl) ?_
                repeat (apply FlowT.d; (intro w1 hk; unfold does; go_simp; (try go_ints); (first | exact DetR.mk | (simp only [↓IntWalk.iteOmega, Oper.doesUpon_value]; exact DetR.mk) | (simp only [↓IntWalk.iteOmega]; go_simp; (try go_ints); exact DetR.mk))); simp only [Act.put, List.setIfInBounds_toArray, List.set_cons_zero, List.set_cons_succ])
                apply FlowT.d
                · intro w1 hk
                  unfold does
                  go_simp
                  exact CallR.det ((HW9 w1 hk).out)
                simp only [Act.put, List.setIfInBounds_toArray, List.set_cons_zero, List.set_cons_succ]
                repeat (apply FlowT.d; (intro w1 hk; unfold does; go_simp; (try go_ints); (first | exact DetR.mk | (simp only [↓IntWalk.iteOmega, Oper.doesUpon_value]; exact DetR.mk) | (simp only [↓IntWalk.iteOmega]; go_simp; (try go_ints); exact DetR.mk))); simp only [Act.put, List.setIfInBounds_toArray, List.set_cons_zero, List.set_cons_succ])
                apply FlowT.d
                · intro w1 hk
                  unfold does
                  go_simp
                  exact CallR.det ((HD9 w1 hk).out)
                simp only [Act.put, List.setIfInBounds_toArray, List.set_cons_zero, List.set_cons_succ]
                repeat (apply FlowT.d; (intro w1 hk; unfold does; go_simp; (try go_ints); (first | exact DetR.mk | (simp only [↓IntWalk.iteOmega, Oper.doesUpon_value]; exact DetR.mk) | (simp only [↓IntWalk.iteOmega]; go_simp; (try go_ints); exact DetR.mk))); simp only [Act.put, List.setIfInBounds_toArray, List.set_cons_zero, List.set_cons_succ])
                refine FlowT.fin fun wy hxy hky => ?_
                have Hxy := hid hxy
                clear HW9 HD9 g4 g2 hxy hky
                go_wp2
                go_roundw
                case rel => exact ⟨i + 1, (s.sent x.kind x.nums), r, (sents ++ [⟨s.frame x.kind x.nums, .slice an x.nums.length cn⟩]), by go_num, by omega, (HL9).out.on Hxy.out, (Hs.out.sent Her.out), (Hr.out.mono (by omega)), (by simp; omega), (fun y hy => (List.mem_append.1 hy).elim (Hsc.out y) fun h => by rw [List.mem_singleton.1 h]; exact (Snd.err_zero Her.out).1)⟩
                case measure => simp [intOf]; omega
        · as_aux_lemma =>
            have Her := hid her
            clear her
            have HSB : ∀ wa, Ext W1 wa → ∀ av cv, IRow W1.heap.size wa (.slice av x.nums.length cv) x.nums → Hid (Calls Tryd.prog 11 #[.pointer (some ⟨p, 0, none⟩), .int .u8 (x.kind.toNat : Int), .slice av x.nums.length cv] wa fun e wb => ∃ v, e = .returned v ∧ Keep (fun g => w.heap.size ≤ g ∧ g ≠ wr.heap.size) wa wb ∧ AtVal (.tuple #[fr0, evOf ad (s.err x.kind x.nums)]) W1 wb v ∧ ∀ m u, AtNew m u wa → AtNew m u wb) := fun wa xa av cv hI => hid (by
              obtain ⟨lv, ks, hs⟩ := (HL1.out.on xa).snd
              exact (send_bad s x.kind x.nums av cv wa w.heap.size none p lv ks hs (IRow.ints hI Hn1.out.hi) (by omega) (evOf ad) ((ErrsC.of_all HE.out).ext (HL1.out.on xa).ext) (evOf_iface ad) Her.out).mono fun e wb ⟨h1, h2⟩ => ⟨_, h1, h2.keep _, ⟨rfl, xa.trans h2⟩, fun _ _ h => h.ext h2⟩)
            go_wp2
            rw [← HW1.out]
            have hNX : ¬ (w.heap.size ≤ wr.heap.size ∧ wr.heap.size ≠ wr.heap.size) := fun e => e.2 rfl
            have q1 := HB1.out.kc (X := fun g => w.heap.size ≤ g ∧ g ≠ wr.heap.size) hNX 1 rfl
            have q2 := HB1.out.kc (X := fun g => w.heap.size ≤ g ∧ g ≠ wr.heap.size) hNX 2 rfl
            simp only [List.getElem_toArray, List.getElem_cons_zero, List.getElem_cons_succ] at q1 q2
            have Hs1 : Hid (w.heap.size ≤ W1.heap.size ∧ wr.heap.size < W1.heap.size) := hid ⟨HL1.out.ext.size, HB1.out.lt⟩
            have HO : ∀ wa, Ext W1 wa → Hid (Calls Tryd.prog 12 #[.slice an x.nums.length cn] wa fun e w' => ∃ v, e = .returned v ∧ Ext wa w' ∧ IRow wa.heap.size w' v x.nums) := fun wa xa => hid (ownints_any an x.nums.length cn x.nums wa (Hn1.out.ints'.ext xa) (by omega))
            have HAl : Hid (∀ wa b0, W1.heap.size ≤ b0 → Keep (fun g => w.heap.size ≤ g ∧ g ≠ wr.heap.size) W1 wa → ∀ v0 v1 v2 v3 v4, Keep (fun g => w.heap.size ≤ g ∧ g ≠ wr.heap.size) W1 (((((wa.setCell ⟨b0, 0, none⟩ v0).setCell ⟨b0, 1, none⟩ v1).setCell ⟨b0, 2, none⟩ v2).setCell ⟨b0, 3, none⟩ v3).setCell ⟨b0, 4, none⟩ v4)) := hid fun wa b0 hb k v0 v1 v2 v3 v4 => k.trans ((store5_keep _ _ _ _ _ _ _).mono fun g _ e => by subst e; have := Hs1.out; exact ⟨by omega, by omega⟩)
            clear hNX
            refine wp_flow (fun g => w.heap.size ≤ g ∧ g ≠ wr.heap.size) (by kernel_rfl) (by kernel_rfl) ?_
            apply Flow.d 0 _ rfl (by simp) (by kernel_rfl)
            · intro w1 hk; unfold does; go_simp; (try go_ints); exact DetR.mk
            simp only [List.getElem_toArray, List.getElem_cons_zero, List.getElem_cons_succ, Act.put, List.setIfInBounds_toArray, List.set_cons_zero, List.set_cons_succ]
            apply Flow.d 1 _ rfl (by simp) (by kernel_rfl)
            · intro w1 hk; unfold does; go_simp; (try go_ints); exact DetR.mk
            simp only [List.getElem_toArray, List.getElem_cons_zero, List.getElem_cons_succ, Act.put, List.setIfInBounds_toArray, List.set_cons_zero, List.set_cons_succ]
            apply Flow.d 2 _ rfl (by simp) (by kernel_rfl)
            · intro w1 hk; unfold does; go_simp; (try go_ints); exact DetR.mk
            simp only [List.getElem_toArray, List.getElem_cons_zero, List.getElem_cons_succ, Act.put, List.setIfInBounds_toArray, List.set_cons_zero, List.set_cons_succ]
            apply Flow.d 3 _ rfl (by simp) (by kernel_rfl)
            · intro w1 hk; unfold does; go_simp; (try go_ints); exact DetR.mk
            simp only [List.getElem_toArray, List.getElem_cons_zero, List.getElem_cons_succ, Act.put, List.setIfInBounds_toArray, List.set_cons_zero, List.set_cons_succ]
            apply Flow.d 4 _ rfl (by simp) (by kernel_rfl)
            · intro w1 hk; unfold does; go_simp; (try go_ints); exact DetR.mk
            simp only [List.getElem_toArray, List.getElem_cons_zero, List.getElem_cons_succ, Act.put, List.setIfInBounds_toArray, List.set_cons_zero, List.set_cons_succ]
            refine Flow.par3g 5 6 10 _ _ _ rfl rfl rfl (by decide) (by decide) (fun _ _ h => by cases h) (fun _ _ h => by cases h) (fun _ _ h => by cases h) (by kernel_rfl) (by kernel_rfl) (by kernel_rfl) (by kernel_rfl) (by kernel_rfl) (by kernel_rfl)
              (fun u w' => AtNew W1.heap.size u w' ∧ Ext W1 w')
              (fun v w' => AtInts W1.heap.size x.nums v w' ∧ Ext W1 w')
              (fun u v w' => AtNew W1.heap.size u w' ∧ AtInts W1.heap.size x.nums v w' ∧ Ext W1 w')
              (fun _ t w' => AtVal (.tuple #[fr0, evOf ad (s.err x.kind x.nums)]) W1 w' t)
              (fun u _ t w' => AtVal (.tuple #[fr0, evOf ad (s.err x.kind x.nums)]) W1 w' t ∧ AtNew W1.heap.size u w')
              (fun _ _ _ h y => ⟨h.1.ext y, h.2.trans y⟩) (fun _ _ _ h y => ⟨h.1.ext y, h.2.trans y⟩)
              (fun _ _ _ _ h y => ⟨h.1.ext y, h.2.1.ext y, h.2.2.trans y⟩) (fun _ _ _ _ h y => AtVal.ext h y) (fun _ _ _ _ _ h y => ⟨AtVal.ext h.1 y, h.2.ext y⟩) ?_ ?_ ?_ ?_ ?_ ?_ ?_ ?_
            · intro wa hC hk
              unfold does
              go_simp
              exact ⟨hk.alloc _, AtNew.mk hC.size, hC.alloc _⟩
            · intro wa hC hk
              unfold does
              go_simp
              refine CallR.act ((HO wa hC).out.mono ?_)
              rintro e wb ⟨v, rfl, hx, hI⟩
              exact ⟨_, rfl, (hC.trans hx).keep _, AtInts.mk hI hC.size, hC.trans hx⟩
            · rintro _ wa ⟨hI, hC⟩ hk
              unfold does
              go_simp
              exact ⟨hk.alloc _, AtNew.mk hC.size, hI.ext ((Ext.refl _).alloc _), hC.alloc _⟩
            · rintro _ wa ⟨hB, hC⟩ hk
              unfold does
              go_simp
              refine CallR.act ((HO wa hC).out.mono ?_)
              rintro e wb ⟨v, rfl, hx, hI⟩
              exact ⟨_, rfl, (hC.trans hx).keep _, hB.ext hx, AtInts.mk hI hC.size, hC.trans hx⟩
            · rintro _ wa ⟨⟨av, cv, rfl, hI⟩, hC⟩ hk
              unfold does
              go_simp
              refine CallR.act ((HSB wa hC av cv hI).out.mono ?_)
              rintro e wb ⟨v, rfl, hx, hd, _⟩
              exact ⟨_, rfl, hk.trans hx, hd⟩
            · rintro _ _ wa ⟨hB, ⟨av, cv, rfl, hI⟩, hC⟩ hk
              unfold does
              go_simp
              refine CallR.act ((HSB wa hC av cv hI).out.mono ?_)
              rintro e wb ⟨v, rfl, hx, hd, hk2⟩
              exact ⟨_, rfl, hk.trans hx, hd, hk2 _ _ hB⟩
            · rintro _ vj _ ⟨_, ⟨rfl, _⟩, b0, rfl, _, hb0⟩
              have Hb0 := hid hb0
              clear hb0 HSB
              simp only [fr0, List.getElem_toArray, List.getElem_cons_zero, List.getElem_cons_succ, Act.put, List.setIfInBounds_toArray, List.set_cons_zero, List.set_cons_succ]
              apply Flow.d 7 _ rfl (by simp) (by kernel_rfl)
              · intro w1 hk; unfold does; go_simp; (try go_ints); exact DetR.mk
              simp only [List.getElem_toArray, List.getElem_cons_zero, List.getElem_cons_succ, Act.put, List.setIfInBounds_toArray, List.set_cons_zero, List.set_cons_succ]
              apply Flow.d 8 _ rfl (by simp) (by kernel_rfl)
              · intro w1 hk; unfold does; go_simp; (try go_ints); exact DetR.mk
              simp only [List.getElem_toArray, List.getElem_cons_zero, List.getElem_cons_succ, Act.put, List.setIfInBounds_toArray, List.set_cons_zero, List.set_cons_succ]
              apply Flow.d 9 _ rfl (by simp) (by kernel_rfl)
              · intro w1 hk; unfold does; go_simp; (try go_ints); exact DetR.mk
              simp only [List.getElem_toArray, List.getElem_cons_zero, List.getElem_cons_succ, Act.put, List.setIfInBounds_toArray, List.set_cons_zero, List.set_cons_succ]
              refine Flow.one 11 _ rfl (by kernel_rfl) (fun _ w' => (Ext W1 w') ∧ Blk w' b0 #[.int .u8 0, .int .i64 0, .int .i64 0, .int .i64 0, .slice none 0 0] 48) (fun _ _ _ h y => ⟨(Ext.trans) h.1 y, h.2.ext y⟩) ?_ ?_
              · rintro wa ⟨⟨_, hx⟩, b', eb, hB, _⟩ hk
                obtain rfl : b0 = b' := by simpa using eb
                have z0 := hB.av 0 rfl
                have z1 := hB.av 1 rfl
                have z2 := hB.av 2 rfl
                have z3 := hB.av 3 rfl
                have z4 := hB.av 4 rfl
                have f0 := hB.free
                unfold does
                go_simp
                exact ⟨HAl.out _ _ Hb0.out hk _ _ _ _ _, (Keep.new hx (store5_keep _ _ _ _ _ _ _) fun g e => by subst e; exact Hb0.out), store5 hB⟩
              rintro _ ⟨_, _⟩
              simp only [List.getElem_toArray, List.getElem_cons_zero, List.getElem_cons_succ, Act.put, List.setIfInBounds_toArray, List.set_cons_zero, List.set_cons_succ]
              apply Flow.d 12 _ rfl (by simp) (by kernel_rfl)
              · intro w1 hk; unfold does; go_simp; (try go_ints); exact DetR.mk
              simp only [List.getElem_toArray, List.getElem_cons_zero, List.getElem_cons_succ, Act.put, List.setIfInBounds_toArray, List.set_cons_zero, List.set_cons_succ]
              refine Flow.fin (by kernel_rfl) fun w3 hC hk => ?_
              obtain ⟨hS3, hB0⟩ := hC
              as_aux_lemma =>
                clear hk HO HAl q1 q2
                have hx3 := hS3
                have b1 := (HB1.out.ext hx3).av 1 rfl
                have b2 := (HB1.out.ext hx3).av 2 rfl
                simp only [List.getElem_toArray, List.getElem_cons_zero, List.getElem_cons_succ] at b1 b2
                have HL3 := hid (HL1.out.on hx3)
                obtain ⟨lw, kr, hrs⟩ := HL3.out.rs
                have HRS := hid (refsend_bad s x.kind x.nums an cn w3 w.heap.size mp lw kr hrs (Hn1.out.ints'.ext hx3) (by omega) Her.out)
                clear hx3 hS3 hrs hB0
                go_wp2_with fail
                refine HRS.out.mono ?_
                intro e w4 hx
                obtain ⟨rfl, hx4⟩ := hx
                have hx5 := hx4.alloc (.cells #[.int .u8 0, .int .i64 0, .int .i64 0, .int .i64 0, .slice none 0 0] 45)
                have HL5 := hid (HL3.out.on hx5)
                have HCo := hid (coded3_any _ ad (HE.out.ext HL5.out.ext) (s.err x.kind x.nums) (Snd.err_le s x.kind x.nums) (s.err x.kind x.nums : Int))
                rw [decide_eq_true rfl, errv_ne Her.out] at HCo
                clear HRS hx4 hx5 b1 b2 HL3
                unfold fr0
                go_wp2_with fail
                refine HCo.out.mono ?_
                intro e w6 hx
                obtain ⟨rfl, hx6⟩ := hx
                have HL6 := hid (HL5.out.on hx6)
                have her : ¬ ((s.err x.kind x.nums : Nat) : Int) = 0 := by have := Her.out; omega
                clear HCo hx6 HL5
                obtain ⟨lv9, ks9, hs9⟩ := (HL6).out.snd
                obtain ⟨ms9, hr9⟩ := (HL6).out.rcv
                obtain ⟨lw9, kr9, hm9⟩ := (HL6).out.rs
                obtain ⟨wv9, fs9, ho9, _⟩ := (HL6).out.rr
                obtain ⟨a9, c9', rfl⟩ := row_form hm9.hl
                have HW9 := fun w1 (k : Keep (fun _ => False) w6 w1) => hid (waits_ext w1 _ _ _ _ _ _ (hs9.ext k.ext))
                have HD9 := fun w1 (k : Keep (fun _ => False) w6 w1) => hid (due_ext w1 _ _ _ _ _ _ (hr9.ext k.ext))
                rw [hm9.len] at HW9
                have g4 := hm9.hp.kc (X := fun _ => False) (fun e => e) 4 rfl
                have g2 := ho9.hp.kc (X := fun _ => False) (fun e => e) 2 rfl
                simp only [List.getElem_toArray, List.getElem_cons_zero, List.getElem_cons_succ] at g4 g2
                clear hs9 hr9 hm9 ho9
                go_wp2
                refine wp_flowT (fun _ => False) (by kernel_rfl) (by kernel_rfl) ?_
                repeat (apply FlowT.d; (intro w1 hk; unfold does; go_simp; (try go_ints); (first | exact DetR.mk | (simp only [↓IntWalk.iteOmega, Oper.doesUpon_value]; exact DetR.mk) | (simp only [↓IntWalk.iteOmega]; go_simp; (try go_ints); exact DetR.mk))); simp only [Act.put, List.setIfInBounds_toArray, List.set_cons_zero, List.set_cons_succ])
                apply FlowT.d
                · intro w1 hk
                  unfold does
                  go_simp
                  exact CallR.det ((HW9 w1 hk).out)
                simp only [Act.put, List.setIfInBounds_toArray, List.set_cons_zero, List.set_cons_succ]
                repeat (apply FlowT.d; (intro w1 hk; unfold does; go_simp; (try go_ints); (first | exact DetR.mk | (simp only [↓IntWalk.iteOmega, Oper.doesUpon_value]; exact DetR.mk) | (simp only [↓IntWalk.iteOmega]; go_simp; (try go_ints); exact DetR.mk))); simp only [Act.put, List.setIfInBounds_toArray, List.set_cons_zero, List.set_cons_succ])
                apply FlowT.d
                · intro w1 hk
                  unfold does
                  go_simp
                  exact CallR.det ((HD9 w1 hk).out)
                simp only [Act.put, List.setIfInBounds_toArray, List.set_cons_zero, List.set_cons_succ]
                repeat (apply FlowT.d; (intro w1 hk; unfold does; go_simp; (try go_ints); (first | exact DetR.mk | (simp only [↓IntWalk.iteOmega, Oper.doesUpon_value]; exact DetR.mk) | (simp only [↓IntWalk.iteOmega]; go_simp; (try go_ints); exact DetR.mk))); simp only [Act.put, List.setIfInBounds_toArray, List.set_cons_zero, List.set_cons_succ])
                refine FlowT.fin fun wy hxy hky => ?_
                have Hxy := hid hxy
                clear HW9 HD9 g4 g2 hxy hky
                go_wp2
                go_roundw
                case rel => exact ⟨i + 1, s, r, sents, by go_num, by omega, (HL6).out.on Hxy.out, (Hs.out.mono (by omega)), (Hr.out.mono (by omega)), (by omega), Hsc.out⟩
                case measure => simp [intOf]; omega
            · rintro vj _ ⟨_, rfl, _⟩
              clear HSB
              simp only [fr0, List.getElem_toArray, List.getElem_cons_zero, List.getElem_cons_succ, Act.put, List.setIfInBounds_toArray, List.set_cons_zero, List.set_cons_succ]
              apply Flow.d 7 _ rfl (by simp) (by kernel_rfl)
              · intro w1 hk; unfold does; go_simp; (try go_ints); exact DetR.mk
              simp only [List.getElem_toArray, List.getElem_cons_zero, List.getElem_cons_succ, Act.put, List.setIfInBounds_toArray, List.set_cons_zero, List.set_cons_succ]
              apply Flow.d 8 _ rfl (by simp) (by kernel_rfl)
              · intro w1 hk; unfold does; go_simp; (try go_ints); exact DetR.mk
              simp only [List.getElem_toArray, List.getElem_cons_zero, List.getElem_cons_succ, Act.put, List.setIfInBounds_toArray, List.set_cons_zero, List.set_cons_succ]
              apply Flow.d 9 _ rfl (by simp) (by kernel_rfl)
              · intro w1 hk; unfold does; go_simp; (try go_ints); exact DetR.mk
              simp only [List.getElem_toArray, List.getElem_cons_zero, List.getElem_cons_succ, Act.put, List.setIfInBounds_toArray, List.set_cons_zero, List.set_cons_succ]
              refine Flow.one 10 _ rfl (by kernel_rfl) (fun u w' => Ext W1 w' ∧ AtNew W1.heap.size u w') (fun _ _ _ h y => ⟨h.1.trans y, h.2.ext y⟩) ?_ ?_
              · rintro wa ⟨_, hC⟩ hk
                unfold does
                go_simp
                exact ⟨hk.alloc _, hC.alloc _, AtNew.mk hC.size⟩
              rintro _ ⟨_, _, b0, rfl, _, hb0⟩
              have Hb0 := hid hb0
              clear hb0
              simp only [List.getElem_toArray, List.getElem_cons_zero, List.getElem_cons_succ, Act.put, List.setIfInBounds_toArray, List.set_cons_zero, List.set_cons_succ]
              refine Flow.one 11 _ rfl (by kernel_rfl) (fun _ w' => (Ext W1 w') ∧ Blk w' b0 #[.int .u8 0, .int .i64 0, .int .i64 0, .int .i64 0, .slice none 0 0] 48) (fun _ _ _ h y => ⟨(Ext.trans) h.1 y, h.2.ext y⟩) ?_ ?_
              · rintro wa ⟨hx, b', eb, hB, _⟩ hk
                obtain rfl : b0 = b' := by simpa using eb
                have z0 := hB.av 0 rfl
                have z1 := hB.av 1 rfl
                have z2 := hB.av 2 rfl
                have z3 := hB.av 3 rfl
                have z4 := hB.av 4 rfl
                have f0 := hB.free
                unfold does
                go_simp
                exact ⟨HAl.out _ _ Hb0.out hk _ _ _ _ _, (Keep.new hx (store5_keep _ _ _ _ _ _ _) fun g e => by subst e; exact Hb0.out), store5 hB⟩
              rintro _ ⟨_, _⟩
              simp only [List.getElem_toArray, List.getElem_cons_zero, List.getElem_cons_succ, Act.put, List.setIfInBounds_toArray, List.set_cons_zero, List.set_cons_succ]
              apply Flow.d 12 _ rfl (by simp) (by kernel_rfl)
              · intro w1 hk; unfold does; go_simp; (try go_ints); exact DetR.mk
              simp only [List.getElem_toArray, List.getElem_cons_zero, List.getElem_cons_succ, Act.put, List.setIfInBounds_toArray, List.set_cons_zero, List.set_cons_succ]
              refine Flow.fin (by kernel_rfl) fun w3 hC hk => ?_
              obtain ⟨hS3, hB0⟩ := hC
              as_aux_lemma =>
                clear hk HO HAl q1 q2
                have hx3 := hS3
                have b1 := (HB1.out.ext hx3).av 1 rfl
                have b2 := (HB1.out.ext hx3).av 2 rfl
                simp only [List.getElem_toArray, List.getElem_cons_zero, List.getElem_cons_succ] at b1 b2
                have HL3 := hid (HL1.out.on hx3)
                obtain ⟨lw, kr, hrs⟩ := HL3.out.rs
                have HRS := hid (refsend_bad s x.kind x.nums an cn w3 w.heap.size mp lw kr hrs (Hn1.out.ints'.ext hx3) (by omega) Her.out)
                clear hx3 hS3 hrs hB0
                go_wp2_with fail
                refine HRS.out.mono ?_
                intro e w4 hx
                obtain ⟨rfl, hx4⟩ := hx
                have hx5 := hx4.alloc (.cells #[.int .u8 0, .int .i64 0, .int .i64 0, .int .i64 0, .slice none 0 0] 45)
                have HL5 := hid (HL3.out.on hx5)
                have HCo := hid (coded3_any _ ad (HE.out.ext HL5.out.ext) (s.err x.kind x.nums) (Snd.err_le s x.kind x.nums) (s.err x.kind x.nums : Int))
                rw [decide_eq_true rfl, errv_ne Her.out] at HCo
                clear HRS hx4 hx5 b1 b2 HL3
                unfold fr0
                go_wp2_with fail
                refine HCo.out.mono ?_
                intro e w6 hx
                obtain ⟨rfl, hx6⟩ := hx
                have HL6 := hid (HL5.out.on hx6)
                have her : ¬ ((s.err x.kind x.nums : Nat) : Int) = 0 := by have := Her.out; omega
                clear HCo hx6 HL5
                obtain ⟨lv9, ks9, hs9⟩ := (HL6).out.snd
                obtain ⟨ms9, hr9⟩ := (HL6).out.rcv
                obtain ⟨lw9, kr9, hm9⟩ := (HL6).out.rs
                obtain ⟨wv9, fs9, ho9, _⟩ := (HL6).out.rr
                obtain ⟨a9, c9', rfl⟩ := row_form hm9.hl
                have HW9 := fun w1 (k : Keep (fun _ => False) w6 w1) => hid (waits_ext w1 _ _ _ _ _ _ (hs9.ext k.ext))
                have HD9 := fun w1 (k : Keep (fun _ => False) w6 w1) => hid (due_ext w1 _ _ _ _ _ _ (hr9.ext k.ext))
                rw [hm9.len] at HW9
                have g4 := hm9.hp.kc (X := fun _ => False) (fun e => e) 4 rfl
                have g2 := ho9.hp.kc (X := fun _ => False) (fun e => e) 2 rfl
                simp only [List.getElem_toArray, List.getElem_cons_zero, List.getElem_cons_succ] at g4 g2
                clear hs9 hr9 hm9 ho9
                go_wp2
                refine wp_flowT (fun _ => False) (by kernel_rfl) (by kernel_rfl) ?_
                repeat (apply FlowT.d; (intro w1 hk; unfold does; go_simp; (try go_ints); (first | exact DetR.mk | (simp only [↓IntWalk.iteOmega, Oper.doesUpon_value]; exact DetR.mk) | (simp only [↓IntWalk.iteOmega]; go_simp; (try go_ints); exact DetR.mk))); simp only [Act.put, List.setIfInBounds_toArray, List.set_cons_zero, List.set_cons_succ])
                apply FlowT.d
                · intro w1 hk
                  unfold does
                  go_simp
                  exact CallR.det ((HW9 w1 hk).out)
                simp only [Act.put, List.setIfInBounds_toArray, List.set_cons_zero, List.set_cons_succ]
                repeat (apply FlowT.d; (intro w1 hk; unfold does; go_simp; (try go_ints); (first | exact DetR.mk | (simp only [↓IntWalk.iteOmega, Oper.doesUpon_value]; exact DetR.mk) | (simp only [↓IntWalk.iteOmega]; go_simp; (try go_ints); exact DetR.mk))); simp only [Act.put, List.setIfInBounds_toArray, List.set_cons_zero, List.set_cons_succ])
                apply FlowT.d
                · intro w1 hk
                  unfold does
                  go_simp
                  exact CallR.det ((HD9 w1 hk).out)
                simp only [Act.put, List.setIfInBounds_toArray, List.set_cons_zero, List.set_cons_succ]
                repeat (apply FlowT.d; (intro w1 hk; unfold does; go_simp; (try go_ints); (first | exact DetR.mk | (simp only [↓IntWalk.iteOmega, Oper.doesUpon_value]; exact DetR.mk) | (simp only [↓IntWalk.iteOmega]; go_simp; (try go_ints); exact DetR.mk))); simp only [Act.put, List.setIfInBounds_toArray, List.set_cons_zero, List.set_cons_succ])
                refine FlowT.fin fun wy hxy hky => ?_
                have Hxy := hid hxy
                clear HW9 HD9 g4 g2 hxy hky
                go_wp2
                go_roundw
                case rel => exact ⟨i + 1, s, r, sents, by go_num, by omega, (HL6).out.on Hxy.out, (Hs.out.mono (by omega)), (Hr.out.mono (by omega)), (by omega), Hsc.out⟩
                case measure => simp [intOf]; omega
      | false =>
        cases hw2 : (x.what.toList == [116, 105, 99, 107]) with
        | true =>
          as_aux_lemma =>
            have HT := hid (HL1.out.tick i Hs.out (by omega))
            go_wp2_with fail
            rw [← HW1.out]
            refine HT.out.mono ?_
            intro e w4 hx
            obtain ⟨ov, outs, rfl, hL4, hF4, hO4⟩ := hx
            obtain ⟨a4, c4, rfl⟩ := hF4.form
            have hol : outs.length ≤ 1000000 := by
              have h1 := congrArg List.length hO4
              rw [List.length_map] at h1
              have h2 := again_len s
              have h3 := Hs.out.ok.len
              omega
            have HFo := hid (framesof_any w4 _ none _ _ outs hF4 hol)
            have HL4 := hid hL4
            have HO4 := hid hO4
            have Hol := hid hol
            clear HT hL4 hF4 hO4 hol
            go_wp2_with fail
            refine HFo.out.mono ?_
            intro e w5 hx
            obtain ⟨v5, rfl, hF5, hx5⟩ := hx
            obtain ⟨a5, c5, rfl⟩ := hF5.form
            have HL5 := hid (HL4.out.on hx5)
            have HRT := hid (HL5.out.rtick i Hs.out (by omega))
            have HF5 := hid hF5
            clear HFo hF5 hx5 HL4
            go_wp2_with fail
            refine HRT.out.mono ?_
            intro e w6 hx
            obtain ⟨v6, outs2, rfl, hL6, hF6, hO6, hK6⟩ := hx
            obtain ⟨a6, c6, rfl⟩ := hF6.form
            have HSF := hid (samefr_any w6 _ none _ _ _ _ outs outs2 (hK6.frow HF5.out (by decide)) hF6 (HO4.out.trans hO6.symm) (fun y hy => Hs.out.again y.f (by rw [← HO4.out]; exact List.mem_map.2 ⟨y, hy, rfl⟩)) Hol.out)
            have HL6 := hid hL6
            clear HRT hL6 hF6 hO6 hK6 HF5 HL5
            go_wp2_with fail
            refine HSF.out.mono ?_
            intro e w7 hx
            obtain ⟨rfl, hx7⟩ := hx
            have HL7 := hid (HL6.out.on hx7)
            clear HSF HL6 hx7
            obtain ⟨lv9, ks9, hs9⟩ := (HL7).out.snd
            obtain ⟨ms9, hr9⟩ := (HL7).out.rcv
            obtain ⟨lw9, kr9, hm9⟩ := (HL7).out.rs
            obtain ⟨wv9, fs9, ho9, _⟩ := (HL7).out.rr
            obtain ⟨a9, c9', rfl⟩ := row_form hm9.hl
            have HW9 := fun w1 (k : Keep (fun _ => False) w7 w1) => hid (waits_ext w1 _ _ _ _ _ _ (hs9.ext k.ext))
            have HD9 := fun w1 (k : Keep (fun _ => False) w7 w1) => hid (due_ext w1 _ _ _ _ _ _ (hr9.ext k.ext))
            rw [hm9.len] at HW9
            have g4 := hm9.hp.kc (X := fun _ => False) (fun e => e) 4 rfl
            have g2 := ho9.hp.kc (X := fun _ => False) (fun e => e) 2 rfl
            simp only [List.getElem_toArray, List.getElem_cons_zero, List.getElem_cons_succ] at g4 g2
            clear hs9 hr9 hm9 ho9
            go_wp2
            refine wp_flowT (fun _ => False) (by kernel_rfl) (by kernel_rfl) ?_
            repeat (apply FlowT.d; (intro w1 hk; unfold does; go_simp; (try go_ints); (first | exact DetR.mk | (simp only [↓IntWalk.iteOmega, Oper.doesUpon_value]; exact DetR.mk) | (simp only [↓IntWalk.iteOmega]; go_simp; (try go_ints); exact DetR.mk))); simp only [Act.put, List.setIfInBounds_toArray, List.set_cons_zero, List.set_cons_succ])
            apply FlowT.d
            · intro w1 hk
              unfold does
              go_simp
              exact CallR.det ((HW9 w1 hk).out)
            simp only [Act.put, List.setIfInBounds_toArray, List.set_cons_zero, List.set_cons_succ]
            repeat (apply FlowT.d; (intro w1 hk; unfold does; go_simp; (try go_ints); (first | exact DetR.mk | (simp only [↓IntWalk.iteOmega, Oper.doesUpon_value]; exact DetR.mk) | (simp only [↓IntWalk.iteOmega]; go_simp; (try go_ints); exact DetR.mk))); simp only [Act.put, List.setIfInBounds_toArray, List.set_cons_zero, List.set_cons_succ])
            apply FlowT.d
            · intro w1 hk
              unfold does
              go_simp
              exact CallR.det ((HD9 w1 hk).out)
            simp only [Act.put, List.setIfInBounds_toArray, List.set_cons_zero, List.set_cons_succ]
            repeat (apply FlowT.d; (intro w1 hk; unfold does; go_simp; (try go_ints); (first | exact DetR.mk | (simp only [↓IntWalk.iteOmega, Oper.doesUpon_value]; exact DetR.mk) | (simp only [↓IntWalk.iteOmega]; go_simp; (try go_ints); exact DetR.mk))); simp only [Act.put, List.setIfInBounds_toArray, List.set_cons_zero, List.set_cons_succ])
            refine FlowT.fin fun wy hxy hky => ?_
            have Hxy := hid hxy
            clear HW9 HD9 g4 g2 hxy hky
            go_wp2
            go_roundw
            case rel => exact ⟨i + 1, s.tick, r, sents, by go_num, by omega, (HL7).out.on Hxy.out, Hs.out.tick, (Hr.out.mono (by omega)), (by omega), Hsc.out⟩
            case measure => simp [intOf]; omega
        | false =>
          cases hw3 : (x.what.toList == [97, 99, 107, 101, 100]) with
          | true =>
            as_aux_lemma =>
              have HT := hid (HL1.out.acked x.n Hs.out.ok.len)
              go_wp2_with fail
              rw [← HW1.out]
              refine HT.out.mono ?_
              intro e w4 hx
              obtain ⟨rfl, hL4, hK4⟩ := hx
              have d3 := (hK4.blk HB1.out (by decide)).av 3 rfl
              have HT2 := hid (hL4.racked x.n Hs.out.ok.len)
              clear HT hL4 hK4
              go_wp2_with fail
              refine HT2.out.mono ?_
              intro e w5 hx
              obtain ⟨rfl, hL5, hK5⟩ := hx
              have HL5 := hid hL5
              clear HT2 hL5 hK5 d3
              obtain ⟨lv9, ks9, hs9⟩ := (HL5).out.snd
              obtain ⟨ms9, hr9⟩ := (HL5).out.rcv
              obtain ⟨lw9, kr9, hm9⟩ := (HL5).out.rs
              obtain ⟨wv9, fs9, ho9, _⟩ := (HL5).out.rr
              obtain ⟨a9, c9', rfl⟩ := row_form hm9.hl
              have HW9 := fun w1 (k : Keep (fun _ => False) w5 w1) => hid (waits_ext w1 _ _ _ _ _ _ (hs9.ext k.ext))
              have HD9 := fun w1 (k : Keep (fun _ => False) w5 w1) => hid (due_ext w1 _ _ _ _ _ _ (hr9.ext k.ext))
              rw [hm9.len] at HW9
              have g4 := hm9.hp.kc (X := fun _ => False) (fun e => e) 4 rfl
              have g2 := ho9.hp.kc (X := fun _ => False) (fun e => e) 2 rfl
              simp only [List.getElem_toArray, List.getElem_cons_zero, List.getElem_cons_succ] at g4 g2
              clear hs9 hr9 hm9 ho9
              go_wp2
              refine wp_flowT (fun _ => False) (by kernel_rfl) (by kernel_rfl) ?_
              repeat (apply FlowT.d; (intro w1 hk; unfold does; go_simp; (try go_ints); (first | exact DetR.mk | (simp only [↓IntWalk.iteOmega, Oper.doesUpon_value]; exact DetR.mk) | (simp only [↓IntWalk.iteOmega]; go_simp; (try go_ints); exact DetR.mk))); simp only [Act.put, List.setIfInBounds_toArray, List.set_cons_zero, List.set_cons_succ])
              apply FlowT.d
              · intro w1 hk
                unfold does
                go_simp
                exact CallR.det ((HW9 w1 hk).out)
              simp only [Act.put, List.setIfInBounds_toArray, List.set_cons_zero, List.set_cons_succ]
              repeat (apply FlowT.d; (intro w1 hk; unfold does; go_simp; (try go_ints); (first | exact DetR.mk | (simp only [↓IntWalk.iteOmega, Oper.doesUpon_value]; exact DetR.mk) | (simp only [↓IntWalk.iteOmega]; go_simp; (try go_ints); exact DetR.mk))); simp only [Act.put, List.setIfInBounds_toArray, List.set_cons_zero, List.set_cons_succ])
              apply FlowT.d
              · intro w1 hk
                unfold does
                go_simp
                exact CallR.det ((HD9 w1 hk).out)
              simp only [Act.put, List.setIfInBounds_toArray, List.set_cons_zero, List.set_cons_succ]
              repeat (apply FlowT.d; (intro w1 hk; unfold does; go_simp; (try go_ints); (first | exact DetR.mk | (simp only [↓IntWalk.iteOmega, Oper.doesUpon_value]; exact DetR.mk) | (simp only [↓IntWalk.iteOmega]; go_simp; (try go_ints); exact DetR.mk))); simp only [Act.put, List.setIfInBounds_toArray, List.set_cons_zero, List.set_cons_succ])
              refine FlowT.fin fun wy hxy hky => ?_
              have Hxy := hid hxy
              clear HW9 HD9 g4 g2 hxy hky
              go_wp2
              go_roundw
              case rel => exact ⟨i + 1, (s.acked x.n), r, sents, by go_num, by omega, (HL5).out.on Hxy.out, ((Hs.out.acked x.n).mono (by omega)), (Hr.out.mono (by omega)), (by omega), Hsc.out⟩
              case measure => simp [intOf]; omega
          | false =>
            by_cases hown : x.own = true
            · by_cases h0 : 0 < sents.length
              · by_cases hn0 : 0 ≤ x.n
                · as_aux_lemma =>
                    obtain ⟨k, hk⟩ : ∃ k : Nat, x.n = (k : Int) := ⟨x.n.toNat, by omega⟩
                    obtain ⟨j, hjd⟩ : ∃ j, j = sents.length - 1 - k % sents.length := ⟨_, rfl⟩
                    have hmod : k % sents.length < sents.length := Nat.mod_lt _ h0
                    have hmi : (k : Int) % (sents.length : Int) = ((k % sents.length : Nat) : Int) := (Int.natCast_emod k sents.length).symm
                    have hjl : j < sents.length := by omega
                    have hj : wrap64 ((sents.length : Int) - 1 - (k : Int) % (sents.length : Int)) = (j : Int) := by
                      rw [hmi, IntWalk.wrap64_in _ ⟨by omega, by omega⟩]
                      omega
                    have hgk : sents[j]? = some (sents[j]'hjl) := List.getElem?_eq_getElem hjl
                    obtain ⟨g, hgd⟩ : ∃ g, g = sents[j]'hjl := ⟨_, rfl⟩
                    rw [← hgd] at hgk
                    have hgm := List.mem_of_getElem? hgk
                    obtain ⟨gb, cp, hao⟩ := own_some HL.out.sent.row (by omega)
                    simp only [Value.slice.injEq, true_and] at hao
                    obtain ⟨rfl, rfl⟩ := hao
                    obtain ⟨e0, e1, e2, e3, e4⟩ := own_f HL.out.sent.row hgk
                    obtain ⟨ag, cg, _, hgv, _⟩ := (HL.out.sent.nums g hgm).form
                    rw [hgv] at e4
                    have Hgl : Hid (g.f.nums.length ≤ 200) := hid (Fr.code_zero (Hsc.out g hgm)).2.2.2.2.2.2
                    have HG1 := hid (HL1.out.sent.nums g hgm)
                    unfold FV.At at HG1
                    rw [hgv] at HG1
                    rw [hown, hk] at HW1
                    have hgl64 : (g.f.nums.length : Int) ≤ 200 := by have := Hgl.out; omega
                    clear hmi hmod hjd hgd hgk hgm hgv HB1
                    obtain ⟨W2, hW2⟩ : ∃ W2, W2 = W1.alloc (.cells #[.int .u8 (x.f.f.kind.toNat : Int), .int .i64 x.f.f.fr, .int .i64 x.f.f.to, .int .i64 x.f.f.seq, .slice af x.f.f.nums.length cf] 45) := ⟨_, rfl⟩
                    have hx2 : Ext W1 W2 := by rw [hW2]; exact (Ext.refl _).alloc _
                    have hs1 : W1.heap.size = wr.heap.size + 1 := by rw [HW1.out, heap_size_alloc]
                    obtain ⟨W3, hW3⟩ : ∃ W3, W3 = W1.alloc (.cells #[.int .u8 (g.f.kind.toNat : Int), .int .i64 g.f.fr, .int .i64 g.f.to, .int .i64 g.f.seq, .slice ag g.f.nums.length cg] 45) := ⟨_, rfl⟩
                    have HB3 : Hid (Blk W3 (wr.heap.size + 1) #[.int .u8 (g.f.kind.toNat : Int), .int .i64 g.f.fr, .int .i64 g.f.to, .int .i64 g.f.seq, .slice ag g.f.nums.length cg] 45) := hid (by rw [hW3, ← hs1]; exact Blk.new _ _ _)
                    have hx3 : Ext W1 W3 := by rw [hW3]; exact (Ext.refl _).alloc _
                    have HW2 := hid hW2
                    have HW3 := hid hW3
                    have HL3 := hid (HL1.out.on hx3)
                    have HG3 := hid (NumsAt.ext HG1.out hx3)
                    have hx02 := Hx1.out.trans hx2
                    replace e0 := hx02.cellx e0
                    replace e1 := hx02.cellx e1
                    replace e2 := hx02.cellx e2
                    replace e3 := hx02.cellx e3
                    replace e4 := hx02.cellx e4
                    rw [hW2, HW1.out] at e0 e1 e2 e3 e4
                    clear hW2 hW3 hx2 hx3 hs1 HL1 Hf1 Hn1 HL HG1 hx02
                    go_wp2_with fail
                    rw [← HW1.out, ← HW3.out]
                    have HT := hid (asframe_any (g).f ag cg W3 HG3.out.ints' (Nat.le_trans Hgl.out (by omega)))
                    unfold frv at HT
                    refine HT.out.mono ?_
                    intro e w4 hx
                    obtain ⟨a4, c4, rfl, hI4, hx4⟩ := hx
                    have HL4 := hid (HL3.out.on hx4)
                    have HK := hid (HL4.out.take (g).f a4 c4 (IRow.ints hI4 HG3.out.hi) (Nat.le_trans Hgl.out (by omega)) (evOf ad) (ErrsC.of_all HE.out) (evOf_iface ad) i Hr.out (by omega))
                    have HB4 := hid (HB3.out.ext hx4)
                    have HG4 := hid (NumsAt.ext HG3.out hx4)
                    unfold frv at HK
                    clear HT hI4 hx4 HL3 HB3 HG3
                    go_wp2_with fail
                    refine HK.out.mono ?_
                    intro e w5 hx
                    obtain ⟨ov, outs, rfl, hL5, hF5, hO5, hK5⟩ := hx
                    obtain ⟨a5, c5, rfl⟩ := hF5.form
                    have hB5 := hK5.blk HB4.out (by decide)
                    have d0 := hB5.av 0 rfl
                    have d1 := hB5.av 1 rfl
                    have d2 := hB5.av 2 rfl
                    have d3 := hB5.av 3 rfl
                    have d4 := hB5.av 4 rfl
                    simp only [List.getElem_toArray, List.getElem_cons_zero, List.getElem_cons_succ] at d0 d1 d2 d3 d4
                    have HG5 := hid (hK5.nums HG4.out)
                    have HRK := hid (hL5.rtake (g).f ag cg HG5.out (Nat.le_trans Hgl.out (by omega)) i Hr.out (by omega))
                    unfold frv at HRK
                    have HF5 := hid hF5
                    have HO5 := hid hO5
                    have Hol : Hid (outs.length ≤ 1000000) := hid (by
                      have h1 := congrArg List.length hO5
                      rw [List.length_map] at h1
                      have h2 := Rcv.take_len r (g).f
                      have h3 := Hr.out.len
                      omega)
                    clear HK hL5 hF5 hO5 hK5 hB5 HB4 HG4 HG5 HL4
                    go_wp2_with fail
                    refine HRK.out.mono ?_
                    intro e w6 hx
                    obtain ⟨v6, outs2, rfl, hL6, hF6, hO6, hK6⟩ := hx
                    obtain ⟨a6, c6, rfl⟩ := hF6.form
                    have HCo := hid (coded3_any w6 ad (HE.out.ext hL6.ext) (r.err (g).f) (Rcv.err_le r (g).f) (r.err (g).f : Int))
                    rw [decide_eq_true rfl] at HCo
                    have HL6 := hid hL6
                    have HF6 := hid hF6
                    have HO6 := hid hO6
                    have HX6 := hid (hK6.frow HF5.out (by decide))
                    clear HRK hL6 hF6 hO6 hK6 HF5 d0 d1 d2 d3 d4
                    go_wp2_with fail
                    refine HCo.out.mono ?_
                    intro e w7 hx
                    obtain ⟨rfl, hx7⟩ := hx
                    have HFo := hid (framesof_any w7 _ none _ _ outs (HX6.out.ext hx7) Hol.out)
                    have HL7 := hid (HL6.out.on hx7)
                    have HF7 := hid (HF6.out.ext hx7)
                    clear HCo hx7 HX6 HL6 HF6
                    go_wp2_with fail
                    refine HFo.out.mono ?_
                    intro e w8 hx
                    obtain ⟨v8, rfl, hF8, hx8⟩ := hx
                    obtain ⟨a8, c8, rfl⟩ := hF8.form
                    have HSF := hid (samefr_any w8 _ none _ _ _ _ outs outs2 hF8 (HF7.out.ext hx8) (HO5.out.trans HO6.out.symm) (fun y hy => (Hr.out.take (g).f).2 y.f (by rw [← HO5.out]; exact List.mem_map.2 ⟨y, hy, rfl⟩)) Hol.out)
                    have HL8 := hid (HL7.out.on hx8)
                    clear HFo hF8 hx8 HL7 HF7
                    go_wp2_with fail
                    refine HSF.out.mono ?_
                    intro e w9 hx
                    obtain ⟨rfl, hx9⟩ := hx
                    have HL9 := hid (HL8.out.on hx9)
                    clear HSF hx9 HL8
                    obtain ⟨lv9, ks9, hs9⟩ := (HL9).out.snd
                    obtain ⟨ms9, hr9⟩ := (HL9).out.rcv
                    obtain ⟨lw9, kr9, hm9⟩ := (HL9).out.rs
                    obtain ⟨wv9, fs9, ho9, _⟩ := (HL9).out.rr
                    obtain ⟨a9, c9', rfl⟩ := row_form hm9.hl
                    have HW9 := fun w1 (k : Keep (fun _ => False) w9 w1) => hid (waits_ext w1 _ _ _ _ _ _ (hs9.ext k.ext))
                    have HD9 := fun w1 (k : Keep (fun _ => False) w9 w1) => hid (due_ext w1 _ _ _ _ _ _ (hr9.ext k.ext))
                    rw [hm9.len] at HW9
                    have g4 := hm9.hp.kc (X := fun _ => False) (fun e => e) 4 rfl
                    have g2 := ho9.hp.kc (X := fun _ => False) (fun e => e) 2 rfl
                    simp only [List.getElem_toArray, List.getElem_cons_zero, List.getElem_cons_succ] at g4 g2
                    clear hs9 hr9 hm9 ho9
                    go_wp2
                    refine wp_flowT (fun _ => False) (by kernel_rfl) (by kernel_rfl) ?_
                    repeat (apply FlowT.d; (intro w1 hk; unfold does; go_simp; (try go_ints); (first | exact DetR.mk | (simp only [↓IntWalk.iteOmega, Oper.doesUpon_value]; exact DetR.mk) | (simp only [↓IntWalk.iteOmega]; go_simp; (try go_ints); exact DetR.mk))); simp only [Act.put, List.setIfInBounds_toArray, List.set_cons_zero, List.set_cons_succ])
                    apply FlowT.d
                    · intro w1 hk
                      unfold does
                      go_simp
                      exact CallR.det ((HW9 w1 hk).out)
                    simp only [Act.put, List.setIfInBounds_toArray, List.set_cons_zero, List.set_cons_succ]
                    repeat (apply FlowT.d; (intro w1 hk; unfold does; go_simp; (try go_ints); (first | exact DetR.mk | (simp only [↓IntWalk.iteOmega, Oper.doesUpon_value]; exact DetR.mk) | (simp only [↓IntWalk.iteOmega]; go_simp; (try go_ints); exact DetR.mk))); simp only [Act.put, List.setIfInBounds_toArray, List.set_cons_zero, List.set_cons_succ])
                    apply FlowT.d
                    · intro w1 hk
                      unfold does
                      go_simp
                      exact CallR.det ((HD9 w1 hk).out)
                    simp only [Act.put, List.setIfInBounds_toArray, List.set_cons_zero, List.set_cons_succ]
                    repeat (apply FlowT.d; (intro w1 hk; unfold does; go_simp; (try go_ints); (first | exact DetR.mk | (simp only [↓IntWalk.iteOmega, Oper.doesUpon_value]; exact DetR.mk) | (simp only [↓IntWalk.iteOmega]; go_simp; (try go_ints); exact DetR.mk))); simp only [Act.put, List.setIfInBounds_toArray, List.set_cons_zero, List.set_cons_succ])
                    refine FlowT.fin fun wy hxy hky => ?_
                    have Hxy := hid hxy
                    clear HW9 HD9 g4 g2 hxy hky
                    go_wp2
                    go_roundw
                    case rel => exact ⟨i + 1, s, (r.take (g).f).2, sents, by go_num, by omega, (HL9).out.on Hxy.out, (Hs.out.mono (by omega)), (Hr.out.take (g).f).1, (by omega), Hsc.out⟩
                    case measure => simp [intOf]; omega
                · rw [hown] at HW1
                  as_aux_lemma =>
                    obtain ⟨W3, hW3⟩ : ∃ W3, W3 = W1.alloc (.cells #[.int .u8 (x.f.f.kind.toNat : Int), .int .i64 x.f.f.fr, .int .i64 x.f.f.to, .int .i64 x.f.f.seq, .slice af x.f.f.nums.length cf] 45) := ⟨_, rfl⟩
                    have hx3 : Ext W1 W3 := by rw [hW3]; exact (Ext.refl _).alloc _
                    have hs1 : W1.heap.size = wr.heap.size + 1 := by rw [HW1.out, heap_size_alloc]
                    have HB3 : Hid (Blk W3 (wr.heap.size + 1) #[.int .u8 (x.f.f.kind.toNat : Int), .int .i64 x.f.f.fr, .int .i64 x.f.f.to, .int .i64 x.f.f.seq, .slice af x.f.f.nums.length cf] 45) := hid (by rw [hW3, ← hs1]; exact Blk.new _ _ _)
                    have HW3 := hid hW3
                    have HL3 := hid (HL1.out.on hx3)
                    have HG3 := hid (NumsAt.ext Hf1.out hx3)
                    have Hgl : Hid (x.f.f.nums.length ≤ 200) := hid (by omega)
                    clear hW3 hx3 hs1 HL1 Hf1 Hn1 HB1 HL
                    go_wp2_with fail
                    rw [← HW1.out, ← HW3.out]
                    have HT := hid (asframe_any (x.f).f af cf W3 HG3.out.ints' (Nat.le_trans Hgl.out (by omega)))
                    unfold frv at HT
                    refine HT.out.mono ?_
                    intro e w4 hx
                    obtain ⟨a4, c4, rfl, hI4, hx4⟩ := hx
                    have HL4 := hid (HL3.out.on hx4)
                    have HK := hid (HL4.out.take (x.f).f a4 c4 (IRow.ints hI4 HG3.out.hi) (Nat.le_trans Hgl.out (by omega)) (evOf ad) (ErrsC.of_all HE.out) (evOf_iface ad) i Hr.out (by omega))
                    have HB4 := hid (HB3.out.ext hx4)
                    have HG4 := hid (NumsAt.ext HG3.out hx4)
                    unfold frv at HK
                    clear HT hI4 hx4 HL3 HB3 HG3
                    go_wp2_with fail
                    refine HK.out.mono ?_
                    intro e w5 hx
                    obtain ⟨ov, outs, rfl, hL5, hF5, hO5, hK5⟩ := hx
                    obtain ⟨a5, c5, rfl⟩ := hF5.form
                    have hB5 := hK5.blk HB4.out (by decide)
                    have d0 := hB5.av 0 rfl
                    have d1 := hB5.av 1 rfl
                    have d2 := hB5.av 2 rfl
                    have d3 := hB5.av 3 rfl
                    have d4 := hB5.av 4 rfl
                    simp only [List.getElem_toArray, List.getElem_cons_zero, List.getElem_cons_succ] at d0 d1 d2 d3 d4
                    have HG5 := hid (hK5.nums HG4.out)
                    have HRK := hid (hL5.rtake (x.f).f af cf HG5.out (Nat.le_trans Hgl.out (by omega)) i Hr.out (by omega))
                    unfold frv at HRK
                    have HF5 := hid hF5
                    have HO5 := hid hO5
                    have Hol : Hid (outs.length ≤ 1000000) := hid (by
                      have h1 := congrArg List.length hO5
                      rw [List.length_map] at h1
                      have h2 := Rcv.take_len r (x.f).f
                      have h3 := Hr.out.len
                      omega)
                    clear HK hL5 hF5 hO5 hK5 hB5 HB4 HG4 HG5 HL4
                    go_wp2_with fail
                    refine HRK.out.mono ?_
                    intro e w6 hx
                    obtain ⟨v6, outs2, rfl, hL6, hF6, hO6, hK6⟩ := hx
                    obtain ⟨a6, c6, rfl⟩ := hF6.form
                    have HCo := hid (coded3_any w6 ad (HE.out.ext hL6.ext) (r.err (x.f).f) (Rcv.err_le r (x.f).f) (r.err (x.f).f : Int))
                    rw [decide_eq_true rfl] at HCo
                    have HL6 := hid hL6
                    have HF6 := hid hF6
                    have HO6 := hid hO6
                    have HX6 := hid (hK6.frow HF5.out (by decide))
                    clear HRK hL6 hF6 hO6 hK6 HF5 d0 d1 d2 d3 d4
                    go_wp2_with fail
                    refine HCo.out.mono ?_
                    intro e w7 hx
                    obtain ⟨rfl, hx7⟩ := hx
                    have HFo := hid (framesof_any w7 _ none _ _ outs (HX6.out.ext hx7) Hol.out)
                    have HL7 := hid (HL6.out.on hx7)
                    have HF7 := hid (HF6.out.ext hx7)
                    clear HCo hx7 HX6 HL6 HF6
                    go_wp2_with fail
                    refine HFo.out.mono ?_
                    intro e w8 hx
                    obtain ⟨v8, rfl, hF8, hx8⟩ := hx
                    obtain ⟨a8, c8, rfl⟩ := hF8.form
                    have HSF := hid (samefr_any w8 _ none _ _ _ _ outs outs2 hF8 (HF7.out.ext hx8) (HO5.out.trans HO6.out.symm) (fun y hy => (Hr.out.take (x.f).f).2 y.f (by rw [← HO5.out]; exact List.mem_map.2 ⟨y, hy, rfl⟩)) Hol.out)
                    have HL8 := hid (HL7.out.on hx8)
                    clear HFo hF8 hx8 HL7 HF7
                    go_wp2_with fail
                    refine HSF.out.mono ?_
                    intro e w9 hx
                    obtain ⟨rfl, hx9⟩ := hx
                    have HL9 := hid (HL8.out.on hx9)
                    clear HSF hx9 HL8
                    obtain ⟨lv9, ks9, hs9⟩ := (HL9).out.snd
                    obtain ⟨ms9, hr9⟩ := (HL9).out.rcv
                    obtain ⟨lw9, kr9, hm9⟩ := (HL9).out.rs
                    obtain ⟨wv9, fs9, ho9, _⟩ := (HL9).out.rr
                    obtain ⟨a9, c9', rfl⟩ := row_form hm9.hl
                    have HW9 := fun w1 (k : Keep (fun _ => False) w9 w1) => hid (waits_ext w1 _ _ _ _ _ _ (hs9.ext k.ext))
                    have HD9 := fun w1 (k : Keep (fun _ => False) w9 w1) => hid (due_ext w1 _ _ _ _ _ _ (hr9.ext k.ext))
                    rw [hm9.len] at HW9
                    have g4 := hm9.hp.kc (X := fun _ => False) (fun e => e) 4 rfl
                    have g2 := ho9.hp.kc (X := fun _ => False) (fun e => e) 2 rfl
                    simp only [List.getElem_toArray, List.getElem_cons_zero, List.getElem_cons_succ] at g4 g2
                    clear hs9 hr9 hm9 ho9
                    go_wp2
                    refine wp_flowT (fun _ => False) (by kernel_rfl) (by kernel_rfl) ?_
                    repeat (apply FlowT.d; (intro w1 hk; unfold does; go_simp; (try go_ints); (first | exact DetR.mk | (simp only [↓IntWalk.iteOmega, Oper.doesUpon_value]; exact DetR.mk) | (simp only [↓IntWalk.iteOmega]; go_simp; (try go_ints); exact DetR.mk))); simp only [Act.put, List.setIfInBounds_toArray, List.set_cons_zero, List.set_cons_succ])
                    apply FlowT.d
                    · intro w1 hk
                      unfold does
                      go_simp
                      exact CallR.det ((HW9 w1 hk).out)
                    simp only [Act.put, List.setIfInBounds_toArray, List.set_cons_zero, List.set_cons_succ]
                    repeat (apply FlowT.d; (intro w1 hk; unfold does; go_simp; (try go_ints); (first | exact DetR.mk | (simp only [↓IntWalk.iteOmega, Oper.doesUpon_value]; exact DetR.mk) | (simp only [↓IntWalk.iteOmega]; go_simp; (try go_ints); exact DetR.mk))); simp only [Act.put, List.setIfInBounds_toArray, List.set_cons_zero, List.set_cons_succ])
                    apply FlowT.d
                    · intro w1 hk
                      unfold does
                      go_simp
                      exact CallR.det ((HD9 w1 hk).out)
                    simp only [Act.put, List.setIfInBounds_toArray, List.set_cons_zero, List.set_cons_succ]
                    repeat (apply FlowT.d; (intro w1 hk; unfold does; go_simp; (try go_ints); (first | exact DetR.mk | (simp only [↓IntWalk.iteOmega, Oper.doesUpon_value]; exact DetR.mk) | (simp only [↓IntWalk.iteOmega]; go_simp; (try go_ints); exact DetR.mk))); simp only [Act.put, List.setIfInBounds_toArray, List.set_cons_zero, List.set_cons_succ])
                    refine FlowT.fin fun wy hxy hky => ?_
                    have Hxy := hid hxy
                    clear HW9 HD9 g4 g2 hxy hky
                    go_wp2
                    go_roundw
                    case rel => exact ⟨i + 1, s, (r.take (x.f).f).2, sents, by go_num, by omega, (HL9).out.on Hxy.out, (Hs.out.mono (by omega)), (Hr.out.take (x.f).f).1, (by omega), Hsc.out⟩
                    case measure => simp [intOf]; omega
              · rw [hown] at HW1
                as_aux_lemma =>
                  obtain ⟨W3, hW3⟩ : ∃ W3, W3 = W1.alloc (.cells #[.int .u8 (x.f.f.kind.toNat : Int), .int .i64 x.f.f.fr, .int .i64 x.f.f.to, .int .i64 x.f.f.seq, .slice af x.f.f.nums.length cf] 45) := ⟨_, rfl⟩
                  have hx3 : Ext W1 W3 := by rw [hW3]; exact (Ext.refl _).alloc _
                  have hs1 : W1.heap.size = wr.heap.size + 1 := by rw [HW1.out, heap_size_alloc]
                  have HB3 : Hid (Blk W3 (wr.heap.size + 1) #[.int .u8 (x.f.f.kind.toNat : Int), .int .i64 x.f.f.fr, .int .i64 x.f.f.to, .int .i64 x.f.f.seq, .slice af x.f.f.nums.length cf] 45) := hid (by rw [hW3, ← hs1]; exact Blk.new _ _ _)
                  have HW3 := hid hW3
                  have HL3 := hid (HL1.out.on hx3)
                  have HG3 := hid (NumsAt.ext Hf1.out hx3)
                  have Hgl : Hid (x.f.f.nums.length ≤ 200) := hid (by omega)
                  clear hW3 hx3 hs1 HL1 Hf1 Hn1 HB1 HL
                  go_wp2_with fail
                  rw [← HW1.out, ← HW3.out]
                  have HT := hid (asframe_any (x.f).f af cf W3 HG3.out.ints' (Nat.le_trans Hgl.out (by omega)))
                  unfold frv at HT
                  refine HT.out.mono ?_
                  intro e w4 hx
                  obtain ⟨a4, c4, rfl, hI4, hx4⟩ := hx
                  have HL4 := hid (HL3.out.on hx4)
                  have HK := hid (HL4.out.take (x.f).f a4 c4 (IRow.ints hI4 HG3.out.hi) (Nat.le_trans Hgl.out (by omega)) (evOf ad) (ErrsC.of_all HE.out) (evOf_iface ad) i Hr.out (by omega))
                  have HB4 := hid (HB3.out.ext hx4)
                  have HG4 := hid (NumsAt.ext HG3.out hx4)
                  unfold frv at HK
                  clear HT hI4 hx4 HL3 HB3 HG3
                  go_wp2_with fail
                  refine HK.out.mono ?_
                  intro e w5 hx
                  obtain ⟨ov, outs, rfl, hL5, hF5, hO5, hK5⟩ := hx
                  obtain ⟨a5, c5, rfl⟩ := hF5.form
                  have hB5 := hK5.blk HB4.out (by decide)
                  have d0 := hB5.av 0 rfl
                  have d1 := hB5.av 1 rfl
                  have d2 := hB5.av 2 rfl
                  have d3 := hB5.av 3 rfl
                  have d4 := hB5.av 4 rfl
                  simp only [List.getElem_toArray, List.getElem_cons_zero, List.getElem_cons_succ] at d0 d1 d2 d3 d4
                  have HG5 := hid (hK5.nums HG4.out)
                  have HRK := hid (hL5.rtake (x.f).f af cf HG5.out (Nat.le_trans Hgl.out (by omega)) i Hr.out (by omega))
                  unfold frv at HRK
                  have HF5 := hid hF5
                  have HO5 := hid hO5
                  have Hol : Hid (outs.length ≤ 1000000) := hid (by
                    have h1 := congrArg List.length hO5
                    rw [List.length_map] at h1
                    have h2 := Rcv.take_len r (x.f).f
                    have h3 := Hr.out.len
                    omega)
                  clear HK hL5 hF5 hO5 hK5 hB5 HB4 HG4 HG5 HL4
                  go_wp2_with fail
                  refine HRK.out.mono ?_
                  intro e w6 hx
                  obtain ⟨v6, outs2, rfl, hL6, hF6, hO6, hK6⟩ := hx
                  obtain ⟨a6, c6, rfl⟩ := hF6.form
                  have HCo := hid (coded3_any w6 ad (HE.out.ext hL6.ext) (r.err (x.f).f) (Rcv.err_le r (x.f).f) (r.err (x.f).f : Int))
                  rw [decide_eq_true rfl] at HCo
                  have HL6 := hid hL6
                  have HF6 := hid hF6
                  have HO6 := hid hO6
                  have HX6 := hid (hK6.frow HF5.out (by decide))
                  clear HRK hL6 hF6 hO6 hK6 HF5 d0 d1 d2 d3 d4
                  go_wp2_with fail
                  refine HCo.out.mono ?_
                  intro e w7 hx
                  obtain ⟨rfl, hx7⟩ := hx
                  have HFo := hid (framesof_any w7 _ none _ _ outs (HX6.out.ext hx7) Hol.out)
                  have HL7 := hid (HL6.out.on hx7)
                  have HF7 := hid (HF6.out.ext hx7)
                  clear HCo hx7 HX6 HL6 HF6
                  go_wp2_with fail
                  refine HFo.out.mono ?_
                  intro e w8 hx
                  obtain ⟨v8, rfl, hF8, hx8⟩ := hx
                  obtain ⟨a8, c8, rfl⟩ := hF8.form
                  have HSF := hid (samefr_any w8 _ none _ _ _ _ outs outs2 hF8 (HF7.out.ext hx8) (HO5.out.trans HO6.out.symm) (fun y hy => (Hr.out.take (x.f).f).2 y.f (by rw [← HO5.out]; exact List.mem_map.2 ⟨y, hy, rfl⟩)) Hol.out)
                  have HL8 := hid (HL7.out.on hx8)
                  clear HFo hF8 hx8 HL7 HF7
                  go_wp2_with fail
                  refine HSF.out.mono ?_
                  intro e w9 hx
                  obtain ⟨rfl, hx9⟩ := hx
                  have HL9 := hid (HL8.out.on hx9)
                  clear HSF hx9 HL8
                  obtain ⟨lv9, ks9, hs9⟩ := (HL9).out.snd
                  obtain ⟨ms9, hr9⟩ := (HL9).out.rcv
                  obtain ⟨lw9, kr9, hm9⟩ := (HL9).out.rs
                  obtain ⟨wv9, fs9, ho9, _⟩ := (HL9).out.rr
                  obtain ⟨a9, c9', rfl⟩ := row_form hm9.hl
                  have HW9 := fun w1 (k : Keep (fun _ => False) w9 w1) => hid (waits_ext w1 _ _ _ _ _ _ (hs9.ext k.ext))
                  have HD9 := fun w1 (k : Keep (fun _ => False) w9 w1) => hid (due_ext w1 _ _ _ _ _ _ (hr9.ext k.ext))
                  rw [hm9.len] at HW9
                  have g4 := hm9.hp.kc (X := fun _ => False) (fun e => e) 4 rfl
                  have g2 := ho9.hp.kc (X := fun _ => False) (fun e => e) 2 rfl
                  simp only [List.getElem_toArray, List.getElem_cons_zero, List.getElem_cons_succ] at g4 g2
                  clear hs9 hr9 hm9 ho9
                  go_wp2
                  refine wp_flowT (fun _ => False) (by kernel_rfl) (by kernel_rfl) ?_
                  repeat (apply FlowT.d; (intro w1 hk; unfold does; go_simp; (try go_ints); (first | exact DetR.mk | (simp only [↓IntWalk.iteOmega, Oper.doesUpon_value]; exact DetR.mk) | (simp only [↓IntWalk.iteOmega]; go_simp; (try go_ints); exact DetR.mk))); simp only [Act.put, List.setIfInBounds_toArray, List.set_cons_zero, List.set_cons_succ])
                  apply FlowT.d
                  · intro w1 hk
                    unfold does
                    go_simp
                    exact CallR.det ((HW9 w1 hk).out)
                  simp only [Act.put, List.setIfInBounds_toArray, List.set_cons_zero, List.set_cons_succ]
                  repeat (apply FlowT.d; (intro w1 hk; unfold does; go_simp; (try go_ints); (first | exact DetR.mk | (simp only [↓IntWalk.iteOmega, Oper.doesUpon_value]; exact DetR.mk) | (simp only [↓IntWalk.iteOmega]; go_simp; (try go_ints); exact DetR.mk))); simp only [Act.put, List.setIfInBounds_toArray, List.set_cons_zero, List.set_cons_succ])
                  apply FlowT.d
                  · intro w1 hk
                    unfold does
                    go_simp
                    exact CallR.det ((HD9 w1 hk).out)
                  simp only [Act.put, List.setIfInBounds_toArray, List.set_cons_zero, List.set_cons_succ]
                  repeat (apply FlowT.d; (intro w1 hk; unfold does; go_simp; (try go_ints); (first | exact DetR.mk | (simp only [↓IntWalk.iteOmega, Oper.doesUpon_value]; exact DetR.mk) | (simp only [↓IntWalk.iteOmega]; go_simp; (try go_ints); exact DetR.mk))); simp only [Act.put, List.setIfInBounds_toArray, List.set_cons_zero, List.set_cons_succ])
                  refine FlowT.fin fun wy hxy hky => ?_
                  have Hxy := hid hxy
                  clear HW9 HD9 g4 g2 hxy hky
                  go_wp2
                  go_roundw
                  case rel => exact ⟨i + 1, s, (r.take (x.f).f).2, sents, by go_num, by omega, (HL9).out.on Hxy.out, (Hs.out.mono (by omega)), (Hr.out.take (x.f).f).1, (by omega), Hsc.out⟩
                  case measure => simp [intOf]; omega
            · have hown' : x.own = false := by simpa using hown
              rw [hown'] at HW1
              as_aux_lemma =>
                obtain ⟨W3, hW3⟩ : ∃ W3, W3 = W1.alloc (.cells #[.int .u8 (x.f.f.kind.toNat : Int), .int .i64 x.f.f.fr, .int .i64 x.f.f.to, .int .i64 x.f.f.seq, .slice af x.f.f.nums.length cf] 45) := ⟨_, rfl⟩
                have hx3 : Ext W1 W3 := by rw [hW3]; exact (Ext.refl _).alloc _
                have hs1 : W1.heap.size = wr.heap.size + 1 := by rw [HW1.out, heap_size_alloc]
                have HB3 : Hid (Blk W3 (wr.heap.size + 1) #[.int .u8 (x.f.f.kind.toNat : Int), .int .i64 x.f.f.fr, .int .i64 x.f.f.to, .int .i64 x.f.f.seq, .slice af x.f.f.nums.length cf] 45) := hid (by rw [hW3, ← hs1]; exact Blk.new _ _ _)
                have HW3 := hid hW3
                have HL3 := hid (HL1.out.on hx3)
                have HG3 := hid (NumsAt.ext Hf1.out hx3)
                have Hgl : Hid (x.f.f.nums.length ≤ 200) := hid (by omega)
                clear hW3 hx3 hs1 HL1 Hf1 Hn1 HB1 HL
                go_wp2_with fail
                rw [← HW1.out, ← HW3.out]
                have HT := hid (asframe_any (x.f).f af cf W3 HG3.out.ints' (Nat.le_trans Hgl.out (by omega)))
                unfold frv at HT
                refine HT.out.mono ?_
                intro e w4 hx
                obtain ⟨a4, c4, rfl, hI4, hx4⟩ := hx
                have HL4 := hid (HL3.out.on hx4)
                have HK := hid (HL4.out.take (x.f).f a4 c4 (IRow.ints hI4 HG3.out.hi) (Nat.le_trans Hgl.out (by omega)) (evOf ad) (ErrsC.of_all HE.out) (evOf_iface ad) i Hr.out (by omega))
                have HB4 := hid (HB3.out.ext hx4)
                have HG4 := hid (NumsAt.ext HG3.out hx4)
                unfold frv at HK
                clear HT hI4 hx4 HL3 HB3 HG3
                go_wp2_with fail
                refine HK.out.mono ?_
                intro e w5 hx
                obtain ⟨ov, outs, rfl, hL5, hF5, hO5, hK5⟩ := hx
                obtain ⟨a5, c5, rfl⟩ := hF5.form
                have hB5 := hK5.blk HB4.out (by decide)
                have d0 := hB5.av 0 rfl
                have d1 := hB5.av 1 rfl
                have d2 := hB5.av 2 rfl
                have d3 := hB5.av 3 rfl
                have d4 := hB5.av 4 rfl
                simp only [List.getElem_toArray, List.getElem_cons_zero, List.getElem_cons_succ] at d0 d1 d2 d3 d4
                have HG5 := hid (hK5.nums HG4.out)
                have HRK := hid (hL5.rtake (x.f).f af cf HG5.out (Nat.le_trans Hgl.out (by omega)) i Hr.out (by omega))
                unfold frv at HRK
                have HF5 := hid hF5
                have HO5 := hid hO5
                have Hol : Hid (outs.length ≤ 1000000) := hid (by
                  have h1 := congrArg List.length hO5
                  rw [List.length_map] at h1
                  have h2 := Rcv.take_len r (x.f).f
                  have h3 := Hr.out.len
                  omega)
                clear HK hL5 hF5 hO5 hK5 hB5 HB4 HG4 HG5 HL4
                go_wp2_with fail
                refine HRK.out.mono ?_
                intro e w6 hx
                obtain ⟨v6, outs2, rfl, hL6, hF6, hO6, hK6⟩ := hx
                obtain ⟨a6, c6, rfl⟩ := hF6.form
                have HCo := hid (coded3_any w6 ad (HE.out.ext hL6.ext) (r.err (x.f).f) (Rcv.err_le r (x.f).f) (r.err (x.f).f : Int))
                rw [decide_eq_true rfl] at HCo
                have HL6 := hid hL6
                have HF6 := hid hF6
                have HO6 := hid hO6
                have HX6 := hid (hK6.frow HF5.out (by decide))
                clear HRK hL6 hF6 hO6 hK6 HF5 d0 d1 d2 d3 d4
                go_wp2_with fail
                refine HCo.out.mono ?_
                intro e w7 hx
                obtain ⟨rfl, hx7⟩ := hx
                have HFo := hid (framesof_any w7 _ none _ _ outs (HX6.out.ext hx7) Hol.out)
                have HL7 := hid (HL6.out.on hx7)
                have HF7 := hid (HF6.out.ext hx7)
                clear HCo hx7 HX6 HL6 HF6
                go_wp2_with fail
                refine HFo.out.mono ?_
                intro e w8 hx
                obtain ⟨v8, rfl, hF8, hx8⟩ := hx
                obtain ⟨a8, c8, rfl⟩ := hF8.form
                have HSF := hid (samefr_any w8 _ none _ _ _ _ outs outs2 hF8 (HF7.out.ext hx8) (HO5.out.trans HO6.out.symm) (fun y hy => (Hr.out.take (x.f).f).2 y.f (by rw [← HO5.out]; exact List.mem_map.2 ⟨y, hy, rfl⟩)) Hol.out)
                have HL8 := hid (HL7.out.on hx8)
                clear HFo hF8 hx8 HL7 HF7
                go_wp2_with fail
                refine HSF.out.mono ?_
                intro e w9 hx
                obtain ⟨rfl, hx9⟩ := hx
                have HL9 := hid (HL8.out.on hx9)
                clear HSF hx9 HL8
                obtain ⟨lv9, ks9, hs9⟩ := (HL9).out.snd
                obtain ⟨ms9, hr9⟩ := (HL9).out.rcv
                obtain ⟨lw9, kr9, hm9⟩ := (HL9).out.rs
                obtain ⟨wv9, fs9, ho9, _⟩ := (HL9).out.rr
                obtain ⟨a9, c9', rfl⟩ := row_form hm9.hl
                have HW9 := fun w1 (k : Keep (fun _ => False) w9 w1) => hid (waits_ext w1 _ _ _ _ _ _ (hs9.ext k.ext))
                have HD9 := fun w1 (k : Keep (fun _ => False) w9 w1) => hid (due_ext w1 _ _ _ _ _ _ (hr9.ext k.ext))
                rw [hm9.len] at HW9
                have g4 := hm9.hp.kc (X := fun _ => False) (fun e => e) 4 rfl
                have g2 := ho9.hp.kc (X := fun _ => False) (fun e => e) 2 rfl
                simp only [List.getElem_toArray, List.getElem_cons_zero, List.getElem_cons_succ] at g4 g2
                clear hs9 hr9 hm9 ho9
                go_wp2
                refine wp_flowT (fun _ => False) (by kernel_rfl) (by kernel_rfl) ?_
                repeat (apply FlowT.d; (intro w1 hk; unfold does; go_simp; (try go_ints); (first | exact DetR.mk | (simp only [↓IntWalk.iteOmega, Oper.doesUpon_value]; exact DetR.mk) | (simp only [↓IntWalk.iteOmega]; go_simp; (try go_ints); exact DetR.mk))); simp only [Act.put, List.setIfInBounds_toArray, List.set_cons_zero, List.set_cons_succ])
                apply FlowT.d
                · intro w1 hk
                  unfold does
                  go_simp
                  exact CallR.det ((HW9 w1 hk).out)
                simp only [Act.put, List.setIfInBounds_toArray, List.set_cons_zero, List.set_cons_succ]
                repeat (apply FlowT.d; (intro w1 hk; unfold does; go_simp; (try go_ints); (first | exact DetR.mk | (simp only [↓IntWalk.iteOmega, Oper.doesUpon_value]; exact DetR.mk) | (simp only [↓IntWalk.iteOmega]; go_simp; (try go_ints); exact DetR.mk))); simp only [Act.put, List.setIfInBounds_toArray, List.set_cons_zero, List.set_cons_succ])
                apply FlowT.d
                · intro w1 hk
                  unfold does
                  go_simp
                  exact CallR.det ((HD9 w1 hk).out)
                simp only [Act.put, List.setIfInBounds_toArray, List.set_cons_zero, List.set_cons_succ]
                repeat (apply FlowT.d; (intro w1 hk; unfold does; go_simp; (try go_ints); (first | exact DetR.mk | (simp only [↓IntWalk.iteOmega, Oper.doesUpon_value]; exact DetR.mk) | (simp only [↓IntWalk.iteOmega]; go_simp; (try go_ints); exact DetR.mk))); simp only [Act.put, List.setIfInBounds_toArray, List.set_cons_zero, List.set_cons_succ])
                refine FlowT.fin fun wy hxy hky => ?_
                have Hxy := hid hxy
                clear HW9 HD9 g4 g2 hxy hky
                go_wp2
                go_roundw
                case rel => exact ⟨i + 1, s, (r.take (x.f).f).2, sents, by go_num, by omega, (HL9).out.on Hxy.out, (Hs.out.mono (by omega)), (Hr.out.take (x.f).f).1, (by omega), Hsc.out⟩
                case measure => simp [intOf]; omega
    · obtain rfl : i = l.length := by omega
      have Hx := hid HL.out.ext
      go_wp2
      go_ret
      exact ⟨rfl, Hx.out⟩
end Go.Proofs.YtkabgmohgjljkaaDoor
