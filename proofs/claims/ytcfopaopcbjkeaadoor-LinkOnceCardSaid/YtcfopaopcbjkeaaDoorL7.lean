
/- Links: what is answered; frames are appended. -/
import Derived.Test.YtcfopaopcbjkeaaDoorL6
import Derived.Maps.AppendAt
namespace Go.Proofs.YtcfopaopcbjkeaaDoor
set_option linter.unusedSimpArgs false
set_option linter.unusedVariables false
open Go Go.RowKit

theorem Snd.acked_eq {s : Snd} {ks : List (FV × Int)} (h : s.l = ks.map fun x => (x.1.f, x.2)) (n : Int) : (s.acked n).l = (ks.filter (keptB n)).map fun x => (x.1.f, x.2) := by
  simp only [Snd.acked, h, List.filter_map]
  rfl

set_option maxRecDepth 100000 in
set_option maxHeartbeats 1600000 in
theorem acked_any (s : Snd) (n : Int) (w : World) (n0 : Nat) (t : Option Nat) (p : Nat) (lv : Value) (ks : List (FV × Int)) (h : SndAt w n0 t p s lv ks) (hb : s.l.length ≤ 200) :
    Calls Tryd.prog 13 #[.pointer (some ⟨p, 0, none⟩), .int .i64 n] w fun e w' => e = .returned (.tuple #[]) ∧ ∃ lv' ks', SndAt w' n0 t p (s.acked n) lv' ks' ∧ Keep (fun b => b = p ∨ lv.ownBlock = some b) w w' := by
  have hx0 : Ext w (w.alloc (.cells #[.int .i64 n] 3)) := (Ext.refl w).alloc _
  have hB := Blk.new w #[.int .i64 n] 3
  have h0 := h.ext hx0
  have hbk : ks.length ≤ 1000 := by have := h.len; omega
  have HD := hid (ldelf_any lv ks n w.heap.size _ n0 t h0.hl h0.hn (hB.av 0 rfl) ⟨_, _, hB⟩ hbk)
  unfold ackFn at HD
  have H0 := hid h0
  have hlt := h.hp.lt
  have c4 := h.hp.av 4 rfl
  obtain ⟨a4, cc, rfl⟩ := row_form h.hl
  have Hx0 := hid hx0
  clear h h0 hx0 hB
  go_enter Tryd.func13, Tryd.ntmps13
  go_wp2_with fail
  refine HD.out.mono ?_
  intro e w1 hx
  obtain ⟨lv', rfl, hrow, hk, hob⟩ := hx
  obtain ⟨a5, c5, rfl⟩ := row_form hrow
  have hpn : ¬ (Value.slice a4 ks.length cc).ownBlock = some p := fun e => by
    obtain ⟨c, hc⟩ := own_ty H0.out.hl e
    exact H0.out.hp.ty_ne hc (by decide) rfl
  have hp1 := H0.out.hp.keep hk hpn
  have d4 := hp1.av 4 rfl
  have f4 := hp1.free
  have hp2 := hp1.set 4 (.slice a5 (ks.filter (keptB n)).length c5)
  simp only [List.setIfInBounds_toArray, List.set_cons_zero, List.set_cons_succ] at hp2
  have hk2 : Keep (fun b => b = p) w1 (w1.setCell ⟨p, 4, none⟩ (.slice a5 (ks.filter (keptB n)).length c5)) := Keep.set (X := fun b => b = p) (Keep.refl _ _) rfl _
  have hwr : Wr w1 n0 t fun b => b = p := Wr.blk hp1 (by decide) H0.out.lo
  have hR : SndAt (w1.setCell ⟨p, 4, none⟩ (.slice a5 (ks.filter (keptB n)).length c5)) n0 t p (s.acked n) (.slice a5 (ks.filter (keptB n)).length c5) (ks.filter (keptB n)) := by
    refine ⟨hp2, row_keep hrow hk2 fun b hb e => ?_, fun x hx => NumsAt.keep (NumsAt.keep (H0.out.hn x (List.mem_filter.1 hx).1) hk (Wr.row H0.out.hl (by decide))) hk2 hwr, Snd.acked_eq H0.out.eq n, H0.out.lo⟩
    subst e
    rw [hob] at hb
    exact hpn hb
  have HR := hid hR
  have HK := hid ((Hx0.out.keep (fun b => b = p ∨ (Value.slice a4 ks.length cc).ownBlock = some b)).trans ((hk.mono fun b _ h => .inr h).trans (hk2.mono fun b _ h => .inl h)))
  clear hrow hk hob hp1 hp2 hk2 hwr hR HD hpn c4
  go_wp2
  go_end0
  exact ⟨rfl, _, _, HR.out, HK.out⟩

/-- append of one element of several cells to a row of one's own, in a sequence. -/
theorem wpList_append_el {ops : Array Oper} {Q : Exit → Act → World → Prop} {rest : List Oper} {o : Oper} {a : Act} {w : World} (base : Nat) (hbase : base ≤ w.heap.size) (t e : TypeId) (z : Value) (size bytes : Nat) (ht : Tryd.prog.underlying t = some (.slice e)) (hinf : (Tryd.prog.info? e).map (fun i => (i.zero, i.size, i.bytes)) = some (some z, size, bytes)) (hz1 : z.cells.size = size) (hsz : 0 < size)
    (hb8 : bytes ≤ 64) (hg : o.guard = none) (s x : Operand) (ho : o.op = .call { callee := .builtin .append, args := #[s, x], argTypes := #[t, t] })
    (v : Value) (n : Nat) (xs : List Value) (hs : a.eval s = v) (hown : w.ownsRow base e size v n xs) (g : Nat) (us : List Value) (hul : us.length = size) (hu : ∀ u ∈ us, u.oneCell' = true) (hx : a.eval x = .slice (some ⟨g, 0, none⟩) 1 1) (hb : Blk w g us.toArray e) (hl : n ≤ 1000000)
    (h : ∀ v' w', w'.ownsRow base e size v' (n + 1) (xs ++ us) → Keep (fun k => v.ownBlock = some k) w w' → (v'.ownBlock = v.ownBlock ∨ v'.ownBlock = some w.heap.size) → wpList Tryd.prog ops Q rest (a.put o.dst v') w') : wpList Tryd.prog ops Q (o :: rest) a w := by
  obtain ⟨ti, hi, hz0, hz, hz2⟩ := info_parts hinf
  obtain ⟨v', w', hr, h2, h3, _, h4⟩ := run_append_own_at (P := Tryd.prog) w base t o.type e ti z size bytes ht hi hz0 hz hz2 hz1 hsz v n xs hown ⟨g, 0, none⟩ 1 1 us (by rw [hul]; omega) (fun j q hq => by
    rw [show (⟨g, 0, none⟩ : Addr).add j = ⟨g, j, none⟩ from by by_cases h0 : j = 0 <;> simp [Addr.add, h0], hb.cell j]
    simpa using hq) hu (by simp only [maxLen]; omega) (by
      have : (n + 1) * bytes ≤ (n + 1) * 64 := Nat.mul_le_mul_left _ hb8
      omega) hbase
  refine wpList_plain hg fun K hK => ?_
  unfold Oper.wp
  rw [run_exec_append s x t ho hs hx hr]
  exact hK _ _ (h v' w' h2 (grown_keep h3) h4)
theorem frame_info : (Tryd.prog.info? 34).map (fun i => (i.zero, i.size, i.bytes)) = some (some (.agg #[.int .u8 0, .int .i64 0, .int .i64 0, .int .i64 0, .slice none 0 0]), 5, 56) := by kernel_rfl
end Go.Proofs.YtcfopaopcbjkeaaDoor
