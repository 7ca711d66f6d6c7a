
/- Links: a frame is sent, or taken, in every case; the law's own trial. -/
import Derived.Test.YtcfopaopcbjkeaaDoorL4
import Derived.Test.YtcfopaopcbjkeaaDoorL8
import Derived.Test.YtcfopaopcbjkeaaDoorLC
namespace Go.Proofs.YtcfopaopcbjkeaaDoor
set_option linter.unusedSimpArgs false
set_option linter.unusedVariables false
open Go Go.RowKit

theorem errv_ne {ev : Nat → Value} {c : Nat} (h : c ≠ 0) : errv ev c = ev c := by unfold errv; rw [if_neg h]
theorem take_any (r : Rcv) (f : Fr) (a : Option Addr) (cap : Nat) (w : World) (n0 : Nat) (t : Option Nat) (q b : Nat) (ms : List FV) (h : RcvAt w n0 t q b r ms) (hr : Ints w a f.nums.length f.nums) (hl : f.nums.length ≤ 1000)
    (ev : Nat → Value) (he : ErrsC w ev) (hev : ∀ c, c ≠ 0 → ∃ t v, ev c = .iface t v) (hd0 : 0 ≤ r.due) (hd1 : r.due ≤ 1000000) (hn0 : n0 ≤ w.heap.size) (ht : ∀ b, t = some b → b < w.heap.size) (hwl : r.wait.length ≤ 8) (hnl : ∀ g ∈ r.wait, g.nums.length ≤ 1000) :
    Calls Tryd.prog 15 #[.pointer (some ⟨q, 0, none⟩), frv f a cap] w fun e w' => ∃ ov outs ms', e = .returned (.tuple #[ov, errv ev (r.err f)]) ∧ RcvAt w' n0 t q b (r.take f).2 ms' ∧ FRow w' n0 t w.heap.size 34 ov outs ∧ outs.map FV.f = (r.take f).1 ∧ Keep (fun g => g = q ∨ g = b) w w' := by
  have hnil : ∀ w', FRow w' n0 t w.heap.size 34 (.slice none 0 0) [] := fun w' => FRow.nil _ _ _ _ _
  by_cases hc : f.code = 0
  · by_cases hs : f.fr ≠ r.fr ∨ f.to ≠ r.to ∨ f.kind = 97
    · have h3 : r.err f = 3 := by unfold Rcv.err; rw [if_neg (fun e => e hc), if_pos hs]
      have htk : r.take f = ([], r) := by unfold Rcv.take; rw [h3]; rfl
      rw [h3, htk]
      refine (take_shape r f a cap w n0 t q b ms h hr hl ev he hc hs).mono fun e w' ⟨e1, x⟩ => ?_
      exact ⟨_, [], ms, by rw [e1]; rfl, h.ext x, hnil _, rfl, x.keep _⟩
    · have h0 : r.err f = 0 := by unfold Rcv.err; rw [if_neg (fun e => e hc), if_neg hs]
      have htk : r.take f = r.took f := by unfold Rcv.take; rw [if_pos h0]
      rw [h0, htk]
      have s1 : f.fr = r.fr := Classical.byContradiction fun e => hs (.inl e)
      have s2 : f.to = r.to := Classical.byContradiction fun e => hs (.inr (.inl e))
      have s3 : f.kind ≠ 97 := fun e => hs (.inr (.inr e))
      by_cases ho : f.seq < r.due ∨ (Rcv.find r.wait f.seq).isSome = true
      · have hto : r.took f = ([], r) := by unfold Rcv.took; rw [if_pos ho]
        rw [hto]
        refine (take_old r f a cap w n0 t q b ms h hr hl ev he hc s1 s2 s3 ho).mono fun e w' ⟨e1, x⟩ => ?_
        exact ⟨_, [], ms, by rw [e1]; rfl, h.ext x, hnil _, rfl, x.keep _⟩
      · have hfd : Rcv.find r.wait f.seq = none := by
          cases hf : Rcv.find r.wait f.seq with
          | none => rfl
          | some j => exact absurd (.inr (by rw [hf]; rfl)) ho
        by_cases hd : r.due < f.seq
        · have h1 : (r.took f).1 = [] := by unfold Rcv.took; rw [if_neg ho, if_pos hd]
          refine (take_far r f a cap w n0 t q b ms h hr hl ev he hc s1 s2 s3 hfd hd ht hwl).mono fun e w' ⟨e1, ⟨ms', e2⟩, e3⟩ => ?_
          exact ⟨_, [], ms', by rw [e1]; rfl, e2, hnil _, by rw [h1]; rfl, e3.mono fun g _ h => .inr h⟩
        · have hde : r.due = f.seq := by
            have : ¬ f.seq < r.due := fun e => ho (.inl e)
            omega
          exact take_now r f a cap w n0 t q b ms h hr hl ev he hc s1 s2 s3 hfd hde hd0 hd1 hn0 ht hwl (fun x hx => hnl x.f (by rw [h.eq]; exact List.mem_map.2 ⟨x, hx, rfl⟩))
  · have h3 : r.err f = f.code := by unfold Rcv.err; rw [if_pos hc]
    have htk : r.take f = ([], r) := by unfold Rcv.take; rw [h3, if_neg hc]
    rw [h3, htk, errv_ne hc]
    refine (take_code r f a cap w n0 t q b ms h hr hl ev he f.code rfl hc (hev _ hc)).mono fun e w' ⟨e1, x⟩ => ?_
    exact ⟨_, [], ms, e1, h.ext x, hnil _, rfl, x.keep _⟩

theorem send_bad (s : Snd) (kind : UInt8) (nums : List Int) (a : Option Addr) (cap : Nat) (w : World) (n0 : Nat) (t : Option Nat) (p : Nat) (lv : Value) (ks : List (FV × Int)) (h : SndAt w n0 t p s lv ks) (hr : Ints w a nums.length nums) (hl : nums.length ≤ 1000)
    (ev : Nat → Value) (he : ErrsC w ev) (hev : ∀ c, c ≠ 0 → ∃ t v, ev c = .iface t v) (h0 : s.err kind nums ≠ 0) :
    Calls Tryd.prog 11 #[.pointer (some ⟨p, 0, none⟩), .int .u8 (kind.toNat : Int), .slice a nums.length cap] w fun e w' => e = .returned (.tuple #[fr0, ev (s.err kind nums)]) ∧ Ext w w' := by
  unfold Snd.err at h0 ⊢
  by_cases hc : (s.frame kind nums).code = 0
  · rw [if_neg (fun e => e hc)] at h0 ⊢
    by_cases hk : kind = 97
    · rw [if_pos hk]
      exact send_ack s kind nums a cap w n0 t p lv ks h hr hl ev he hc hk
    · rw [if_neg hk] at h0 ⊢
      by_cases hf : 200 ≤ s.l.length
      · rw [if_pos hf]
        exact send_full s kind nums a cap w n0 t p lv ks h hr hl ev he hc hk hf
      · rw [if_neg hf] at h0; exact absurd rfl h0
  · rw [if_pos hc]
    exact send_code s kind nums a cap w n0 t p lv ks h hr hl ev he _ rfl hc (hev _ hc)
theorem send_good (s : Snd) (kind : UInt8) (nums : List Int) (a : Option Addr) (cap : Nat) (w : World) (n0 : Nat) (t : Option Nat) (p : Nat) (lv : Value) (ks : List (FV × Int)) (h : SndAt w n0 t p s lv ks) (hr : Ints w a nums.length nums) (hl : nums.length ≤ 1000)
    (ev : Nat → Value) (he : ErrsC w ev) (h0 : s.err kind nums = 0) (m : Nat) (ok : s.Ok m) (hm : m ≤ 1000000) (hn0 : n0 ≤ w.heap.size) (ht : ∀ b, t = some b → b < w.heap.size) :
    Calls Tryd.prog 11 #[.pointer (some ⟨p, 0, none⟩), .int .u8 (kind.toNat : Int), .slice a nums.length cap] w fun e w' => ∃ v lv' ks', e = .returned (.tuple #[(FV.mk (s.frame kind nums) v).val, .nilIface]) ∧ SndAt w' n0 t p (s.sent kind nums) lv' ks' ∧ IRow w.heap.size w' v nums ∧ Keep (fun b => b = p ∨ lv.ownBlock = some b) w w' := by
  obtain ⟨h1, h2, h3⟩ := Snd.err_zero h0
  exact send_ok s kind nums a cap w n0 t p lv ks h hr hl ev he h1 h2 h3 m ok hm hn0 ht
/-- The same, seen from far: only what is new since n0 is written. -/
theorem SndAt.ext_of {w0 w w' : World} {t : Option Nat} {p : Nat} {s : Snd} {lv : Value} {ks : List (FV × Int)} (h : SndAt w w0.heap.size t p s lv ks) (x : Ext w0 w) (k : Keep (fun b => b = p ∨ lv.ownBlock = some b) w w') : Ext w0 w' :=
  Keep.new x k fun b hb => hb.elim (fun e => by have := h.lo; omega) fun e => (World.ownsRow.lt h.hl b e).1
theorem RcvAt.ext_of {w0 w w' : World} {t : Option Nat} {q b : Nat} {r : Rcv} {ms : List FV} (h : RcvAt w w0.heap.size t q b r ms) (x : Ext w0 w) (k : Keep (fun g => g = q ∨ g = b) w w') : Ext w0 w' :=
  Keep.new x k fun g hg => by have := h.lo; rcases hg with hg | hg <;> omega
/-- The sender and the receiver do not stand in each other's way. -/
theorem RcvAt.beside {w w' : World} {n0 : Nat} {t : Option Nat} {p q b : Nat} {s : Snd} {lv : Value} {ks : List (FV × Int)} {r : Rcv} {ms : List FV} (hs : SndAt w n0 t p s lv ks) (hr : RcvAt w n0 t q b r ms) (k : Keep (fun b => b = p ∨ lv.ownBlock = some b) w w') : RcvAt w' n0 t q b r ms :=
  hr.keep k ((Wr.blk hs.hp (by decide) hs.lo).or (Wr.row hs.hl (by decide))) (fun e => e.elim (fun e => hs.hp.ty_ne hr.hp (by decide) e.symm) fun e => by
    obtain ⟨c, hc⟩ := own_ty hs.hl e
    exact hc.ty_ne hr.hp (by decide) rfl) (fun e => e.elim (fun e => hr.hm.qne hs.hp e.symm) fun e => by
    obtain ⟨c, hc⟩ := own_ty hs.hl e
    exact hr.hm.qne hc rfl)
theorem SndAt.beside {w w' : World} {n0 : Nat} {t : Option Nat} {p q b : Nat} {s : Snd} {lv : Value} {ks : List (FV × Int)} {r : Rcv} {ms : List FV} (hs : SndAt w n0 t p s lv ks) (hr : RcvAt w n0 t q b r ms) (k : Keep (fun g => g = q ∨ g = b) w w') : SndAt w' n0 t p s lv ks :=
  hs.keep k ((Wr.blk hr.hp (by decide) hr.lo.1).or (Wr.map hr.hm hr.lo.2)) (fun e => e.elim (fun e => hs.hp.ty_ne hr.hp (by decide) e) fun e => hr.hm.qne hs.hp e) fun c hc e => by
    obtain ⟨c', hc'⟩ := own_ty hs.hl hc
    rcases e with e | e
    · exact hc'.ty_ne hr.hp (by decide) e
    · exact hr.hm.qne hc' e
end Go.Proofs.YtcfopaopcbjkeaaDoor
